/- Numbers in bytes of seven bits, sums in four bytes, frames: the plain functions on lists of bytes. No conditions but each theorem's own. -/
import Derived.Test.YtffdplmnjlcmnaaDoorCrc
namespace Go.Proofs.YtffdplmnjlcmnaaDoor.Sl

/-- v in bytes of seven bits, at most f + 1 of them. -/
def pvf : Nat → Nat → List UInt8
  | 0, v => [UInt8.ofNat v]
  | f + 1, v => if v < 128 then [UInt8.ofNat v] else UInt8.ofNat (v % 128 + 128) :: pvf f (v / 128)
def putVar (v : Nat) : List UInt8 := pvf 9 v

theorem pvf_small (f v : Nat) (h : v < 128) : pvf f v = [UInt8.ofNat v] := by
  cases f with
  | zero => rfl
  | succ f => rw [pvf, if_pos h]
theorem pvf_big (f v : Nat) (h : 128 ≤ v) : pvf (f + 1) v = UInt8.ofNat (v % 128 + 128) :: pvf f (v / 128) := by
  rw [pvf, if_neg (by omega)]
theorem pvf_len : ∀ f v, 1 ≤ (pvf f v).length ∧ (pvf f v).length ≤ f + 1
  | 0, v => by simp [pvf]
  | f + 1, v => by
    rw [pvf]
    split
    · simp
    · have := pvf_len f (v / 128)
      simp only [List.length_cons]; omega

/-- A number in size bytes, the greatest first. -/
def be : Nat → Nat → List UInt8
  | 0, _ => []
  | n + 1, v => UInt8.ofNat (v / 256 ^ n % 256) :: be n v
theorem be_len : ∀ n v, (be n v).length = n
  | 0, _ => rfl
  | n + 1, v => by rw [be, List.length_cons, be_len n v]
/-- .. read. -/
def beNum (l : List UInt8) : Nat := l.foldl (fun a c => 256 * a + c.toNat) 0
/-- A sum in four bytes, the lowest first. -/
def le4 (v : Nat) : List UInt8 := [UInt8.ofNat (v % 256), UInt8.ofNat (v / 256 % 256), UInt8.ofNat (v / 65536 % 256), UInt8.ofNat (v / 16777216 % 256)]
def summed (l : List UInt8) : List UInt8 := le4 (crc l)

/-- The head of a frame. -/
def head (kind n : Nat) : List UInt8 := [167, UInt8.ofNat kind] ++ be 4 n
/-- A frame. -/
def frame (kind : Nat) (p : List UInt8) : List UInt8 := head kind p.length ++ summed (head kind p.length) ++ p ++ summed (head kind p.length ++ p)

/-- What reading gives: a value and how many bytes it took, or a refusal. -/
structure Got where
  code : Nat
  val : Nat
  len : Nat

/-- A number of bytes of seven bits: f bytes more at most; i read so far. -/
def varAt : Nat → Nat → Nat → List UInt8 → Got
  | 0, _, _, _ => ⟨30, 0, 0⟩
  | _ + 1, _, _, [] => ⟨31, 0, 0⟩
  | f + 1, i, v, c :: l =>
    if i = 9 ∧ 1 < c.toNat then ⟨30, 0, 0⟩
    else if c.toNat < 128 then (if c.toNat = 0 ∧ 0 < i then ⟨32, 0, 0⟩ else ⟨0, v + c.toNat % 128 * 2 ^ (7 * i), i + 1⟩)
    else varAt f (i + 1) (v + c.toNat % 128 * 2 ^ (7 * i)) l
def var (l : List UInt8) : Got := varAt 10 0 0 l
end Go.Proofs.YtffdplmnjlcmnaaDoor.Sl
