/- Contracts of bits.weight, Distance, Check and of apart: distances of texts. Conditions: each theorem's own hypotheses; the program's table of 16 numbers holds what its initialiser lays. -/
import Derived.Test.YtlfeibaghfcpaaaDoorBkP
import Derived.Test.YtlfeibaghfcpaaaDoorBtA
import Derived.Test.YtlfeibaghfcpaaaDoorTx
import Derived.WalkKit
import Derived.IntWalk
import Derived.Lib.Hide
import Derived.BigQuiet
import Derived.Deep.QuietTactic
import Derived.Below
namespace Go.Proofs.YtlfeibaghfcpaaaDoor
open Go.RowKit
set_option linter.unusedVariables false

def Bk.nib : List Nat := [0, 1, 1, 2, 1, 2, 2, 3, 1, 2, 2, 3, 2, 3, 3, 4]
/-- Block 0 is the program's table. -/
def TabO (w : World) : Prop := ∀ j : Nat, j < 16 → w.cell? ⟨0, j, none⟩ = some (.int .i64 (Bk.nib.getD j 0 : Nat))
theorem TabO.pos {w : World} (h : TabO w) : 0 < w.heap.size := World.block_lt_of_cell? w _ (h 0 (by decide))
theorem TabO.below {B : Nat} {w w' : World} (h : TabO w) (hb : Below B w w') (hB : w.heap.size ≤ B) : TabO w' := fun j hj => (hb.cell (p := ⟨0, j, none⟩) (Nat.lt_of_lt_of_le h.pos hB)).trans (h j hj)
theorem TabO.drewN {w : World} (h : TabO w) (n : Nat) : TabO (w.drewN n) := h

/-- The same world but for draws. -/
def Bk.Dn (w w' : World) : Prop := ∃ n, w' = w.drewN n
theorem Bk.Dn.refl (w : World) : Bk.Dn w w := ⟨0, rfl⟩
theorem Bk.Dn.more {w w' : World} (h : Bk.Dn w w') (n : Nat) : Bk.Dn w (w'.drewN n) := by
  obtain ⟨m, rfl⟩ := h
  exact ⟨m + n, by rw [World.drewN_drewN]⟩
theorem TabO.dn {w w' : World} (h : TabO w) (hd : Bk.Dn w w') : TabO w' := by
  obtain ⟨n, rfl⟩ := hd
  exact h
theorem Bk.nib_le : ∀ j, j < 16 → Bk.nib.getD j 0 ≤ 4 := by decide
set_option maxRecDepth 100000 in
theorem Bk.ones_nib : ∀ b : UInt8, Bk.nib.getD (b.toNat / 16) 0 + Bk.nib.getD (b.toNat % 16) 0 = Bk.ones b := by
  have h : ∀ n : Fin 256, Bk.nib.getD (n.val / 16) 0 + Bk.nib.getD (n.val % 16) 0 = Bk.ones (UInt8.ofNat n.val) := by decide
  intro b
  have hn := h ⟨b.toNat, b.toNat_lt⟩
  simpa using hn

theorem weight_any (b : UInt8) (w : World) (hT : TabO w) :
    Calls Tryd.prog 68 #[.int .u8 b.toNat] w fun e w' => e = .returned (.int .i64 (Bk.ones b : Nat)) ∧ ∃ n, w' = w.drewN n := by
  obtain ⟨x, hx⟩ : ∃ x, b.toNat = x := ⟨_, rfl⟩
  have hxl : x < 256 := by rw [← hx]; exact b.toNat_lt
  have hs := Bk.ones_nib b
  rw [hx] at hs ⊢
  have c1 := hT (x / 16) (by omega)
  have c2 := hT (x % 16) (by omega)
  have l1 := Bk.nib_le (x / 16) (by omega)
  have l2 := Bk.nib_le (x % 16) (by omega)
  generalize Bk.nib.getD (x / 16) 0 = p at *
  generalize Bk.nib.getD (x % 16) 0 = q at *
  obtain ⟨R, hR⟩ : ∃ R, Bk.ones b = R := ⟨_, rfl⟩
  rw [hR] at hs ⊢
  subst hs
  clear hR hx hT
  go_enter Tryd.func68, Tryd.ntmps68
  go_wp2_with fail
  go_quiet (fail)
  go_wp2_with fail
  go_ret
  exact ⟨rfl, _, rfl⟩

theorem Bk.far_snoc : ∀ (a b : List UInt8) (x y : UInt8), a.length = b.length → Bk.far (a ++ [x]) (b ++ [y]) = Bk.far a b + Bk.ones (x ^^^ y)
  | [], [], x, y, _ => by simp [Bk.far]
  | p :: a, q :: b, x, y, h => by
    rw [List.cons_append, List.cons_append, Bk.far, Bk.far, Bk.far_snoc a b x y (by simpa using h)]; omega
theorem Bk.take_snoc (s : ByteArray) (k : Nat) (h : k < s.size) : s.data.toList.take (k + 1) = s.data.toList.take k ++ [s[k]] := by
  rw [List.take_succ_eq_append_getElem (by simpa using h)]; rfl
/-- The distance of the first k bytes. -/
def Bk.farTo (a b : ByteArray) (k : Nat) : Nat := Bk.far (a.data.toList.take k) (b.data.toList.take k)
theorem Bk.farTo_succ (a b : ByteArray) (k : Nat) (h : k < a.size) (h' : k < b.size) : Bk.farTo a b (k + 1) = Bk.farTo a b k + Bk.ones (a[k] ^^^ b[k]) := by
  unfold Bk.farTo
  rw [Bk.take_snoc a k h, Bk.take_snoc b k h', Bk.far_snoc _ _ _ _ (by simp; have := (Array.size_eq_length_toList (xs := a.data)); have : a.data.size = a.size := rfl; have : b.data.size = b.size := rfl; omega)]
theorem Bk.farTo_le (a b : ByteArray) (k : Nat) : Bk.farTo a b k ≤ 8 * k := by
  have := Bk.far_le (a.data.toList.take k) (b.data.toList.take k)
  have := List.length_take_le k a.data.toList
  unfold Bk.farTo; omega
theorem Bk.farTo_all (a b : ByteArray) (h : a.size = b.size) : Bk.farTo a b a.size = Bk.far a.data.toList b.data.toList := by
  unfold Bk.farTo
  have e1 : a.data.toList.length = a.size := Array.length_toList
  have e2 : b.data.toList.length = b.size := Array.length_toList
  rw [List.take_of_length_le (l := a.data.toList) (i := a.size) (by omega), List.take_of_length_le (l := b.data.toList) (i := a.size) (by omega)]
theorem Bk.xor8 (x y : UInt8) : bits .xor .u8 (x.toNat : Int) (y.toNat : Int) = ((x ^^^ y).toNat : Int) := by
  rw [UInt8.toNat_xor]; exact u8_xor_nat _ _ x.toNat_lt y.toNat_lt

set_option maxHeartbeats 1000000 in
theorem distance_any (a b : ByteArray) (w : World) (ha : a.size ≤ 1152921504606846975) (hb : b.size ≤ 9223372036854775807) (hT : TabO w) :
    Calls Tryd.prog 58 #[.string a, .string b] w fun e w' => e = .returned (if a.size = b.size then .tuple #[.int .i64 (Bk.far a.data.toList b.data.toList : Nat), .int .i64 0] else .tuple #[.int .i64 0, .int .i64 11]) ∧ ∃ n, w' = w.drewN n := by
  by_cases hs : a.size = b.size
  · rw [if_pos hs]
    have hall := Bk.farTo_all a b hs
    obtain ⟨R, hR⟩ : ∃ R, Bk.far a.data.toList b.data.toList = R := ⟨_, rfl⟩
    rw [hR] at hall ⊢
    have HA := Lib.hid hall
    have HS := Lib.hid hs
    have u1 : (((a.size : Int)) == (b.size : Int)) = true := by rw [hs]; simp
    have u2 : ((a.size : Int) != (b.size : Int)) = false := by rw [hs]; simp
    clear hall hR hs
    go_enter Tryd.func58, Tryd.ntmps58
    go_wp2_with fail
    go_loopw [6, 7] (fun t i wr => ∃ k : Nat, k ≤ a.size ∧ i = .int .i64 k ∧ t = .int .i64 (Bk.farTo a b k : Nat) ∧ Bk.Dn w wr) (fun _ i _ => a.size - (intOf i).toNat)
    case atStart => exact ⟨0, Nat.zero_le _, rfl, rfl, Bk.Dn.refl w⟩
    case round =>
      obtain ⟨k, hk, rfl, rfl, hD⟩ := hrel
      by_cases hlt : k < a.size
      · have hlb : k < b.size := by have := HS.out; omega
        have hst := Bk.farTo_succ a b k hlt hlb
        have hle := Bk.farTo_le a b k
        have hx := Bk.xor8 a[k] b[k]
        obtain ⟨y, hy⟩ : ∃ y, a[k] ^^^ b[k] = y := ⟨_, rfl⟩
        rw [hy] at hst hx
        clear hy
        have ho := Bk.ones_le y
        have hwt := fun n => weight_any y (wr.drewN n) (hT.dn (hD.more n))
        generalize Bk.farTo a b k = p at *
        generalize Bk.ones y = o at *
        have HST := Lib.hid hst
        clear hst
        clear HA
        go_wp2_with fail
        go_quiet ((go_at_call 68; exact Calls.quiet_of (hwt _)))
        go_wp2_with fail
        go_roundw
        case rel => exact ⟨k + 1, by omega, by go_num, by rw [HST.out]; go_num, hD.more _⟩
        case measure => simp [intOf]; omega
      · obtain rfl : k = a.size := by omega
        have hq := HA.out
        rw [hq]
        clear hq
        go_wp2_with fail
        go_ret2
        exact ⟨rfl, hD⟩
  · rw [if_neg hs]
    have u1 : (((a.size : Int)) == (b.size : Int)) = false := by simp; omega
    have u2 : ((a.size : Int) != (b.size : Int)) = true := by simp; omega
    clear hs
    go_enter Tryd.func58, Tryd.ntmps58
    go_wp2_with fail
    go_ret2
    exact ⟨rfl, 0, rfl⟩

end Go.Proofs.YtlfeibaghfcpaaaDoor
