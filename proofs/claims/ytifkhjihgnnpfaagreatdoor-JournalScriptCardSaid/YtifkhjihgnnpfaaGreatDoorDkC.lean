/- Disks: one file of an image, as the program reads it. Conditions: each theorem's own hypotheses. -/
import Derived.Test.YtifkhjihgnnpfaaGreatDoorZDkA
import Derived.BigQuiet
import Derived.Laws.BitsAllLaws
import Derived.Deep.QuietTactic
namespace Go.Proofs.YtifkhjihgnnpfaaGreatDoor
open Go.RowKit
set_option linter.unusedVariables false

/-- Bytes as a number, the highest first. -/
def Dk.num (l : List UInt8) : Nat := l.foldl (fun m c => 256 * m + c.toNat) 0
theorem Dk.num_snoc (l : List UInt8) (c : UInt8) : Dk.num (l ++ [c]) = 256 * Dk.num l + c.toNat := by
  unfold Dk.num
  rw [List.foldl_append]; rfl
theorem Dk.num_lt (l : List UInt8) : Dk.num l < 256 ^ l.length := by
  suffices h : ∀ (l : List UInt8) (m k : Nat), m < 256 ^ k → l.foldl (fun m c => 256 * m + c.toNat) m < 256 ^ (k + l.length) from by
    have := h l 0 0 (by decide)
    rw [Nat.zero_add] at this
    exact this
  intro l
  induction l with
  | nil => exact fun m k h => h
  | cons c r ih =>
    intro m k h
    have := c.toNat_lt
    have h2 := ih (256 * m + c.toNat) (k + 1) (by rw [Nat.pow_succ]; omega)
    rw [List.foldl_cons, List.length_cons]
    rw [show k + (r.length + 1) = k + 1 + r.length from by omega]
    exact h2
/-- The name, the bytes and the rest of a file that stands at the head. -/
def Dk.one : List UInt8 → Option (List UInt8 × List UInt8 × List UInt8)
  | [] => none
  | c :: r =>
    if r.length < c.toNat + 4 then none
    else
      if Dk.named (r.take c.toNat) = true ∧ Dk.num ((r.drop c.toNat).take 4) ≤ 268435456 ∧ Dk.num ((r.drop c.toNat).take 4) ≤ r.length - (c.toNat + 4) then
        some (r.take c.toNat, (r.drop (c.toNat + 4)).take (Dk.num ((r.drop c.toNat).take 4)), (r.drop (c.toNat + 4)).drop (Dk.num ((r.drop c.toNat).take 4)))
      else none

theorem Dk.one_cons (c : UInt8) (r : List UInt8) : Dk.one (c :: r) =
    if r.length < c.toNat + 4 then none
    else
      if Dk.named (r.take c.toNat) = true ∧ Dk.num ((r.drop c.toNat).take 4) ≤ 268435456 ∧ Dk.num ((r.drop c.toNat).take 4) ≤ r.length - (c.toNat + 4) then
        some (r.take c.toNat, (r.drop (c.toNat + 4)).take (Dk.num ((r.drop c.toNat).take 4)), (r.drop (c.toNat + 4)).drop (Dk.num ((r.drop c.toNat).take 4)))
      else none := rfl
theorem Dk.results4 {fn : Func} {t u v x : Tmp} (h : fn.results = #[.tmp t, .tmp u, .tmp v, .tmp x]) (tmps : Array Value) (P : Program) (w : World) :
    (results fn (tmps : Array Value)).run P w = .ok (.tuple #[tmps.getD t undef, tmps.getD u undef, tmps.getD v undef, tmps.getD x undef]) w := by
  simp [results, h, Array.mapM_eq_mapM_toList]
theorem Dk.i64_or_nat (a b : Nat) (ha : a < 9223372036854775808) (hb : b < 9223372036854775808) : bits .or .i64 (a : Int) (b : Int) = ((a ||| b : Nat) : Int) := by
  have hx : a ||| b < 2 ^ 63 := Nat.or_lt_two_pow (by omega) (by omega)
  show IntKind.i64.wrap ((BitVec.ofInt 64 (a : Int) ||| BitVec.ofInt 64 (b : Int)).toNat : Int) = _
  rw [BitVec.toNat_or, ofInt_u64 a (by omega), ofInt_u64 b (by omega)]
  exact IntWalk.i64_in _ (by omega)
theorem Dk.or_snoc (v : Nat) (c : UInt8) (hv : v < 16777216) : bits .or .i64 ((v : Int) * 256) (wrap64 (c.toNat : Int)) = ((256 * v + c.toNat : Nat) : Int) := by
  have hc := c.toNat_lt
  have e1 : ((v : Int) * 256) = ((v * 256 : Nat) : Int) := by omega
  have e2 : wrap64 (c.toNat : Int) = ((c.toNat : Nat) : Int) := by unfold wrap64; omega
  rw [e1, e2, Dk.i64_or_nat _ _ (by omega) (by omega), nat_join 8 _ _ (by omega) (by omega)]
  exact congrArg _ (by omega)

def Dk.oneV : Option (List UInt8 × List UInt8 × List UInt8) → Value
  | some (a, b, c) => .tuple #[Tx.v a, Tx.v b, Tx.v c, .bool true]
  | none => .tuple #[Tx.v [], Tx.v [], Tx.v [], .bool false]
end Go.Proofs.YtifkhjihgnnpfaaGreatDoor
