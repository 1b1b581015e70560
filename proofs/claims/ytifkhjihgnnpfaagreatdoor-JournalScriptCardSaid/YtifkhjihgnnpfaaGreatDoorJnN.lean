/- The journals' names, and the walks of the laws JournalWrite and JournalNames. Conditions: each theorem's own hypotheses; the program's tables hold what their initialisers lay. -/
import Derived.Test.YtifkhjihgnnpfaaGreatDoorJnW

import Derived.Test.YtifkhjihgnnpfaaGreatDoorShelf
import Derived.Lib.AppendIntMem
namespace Go.Proofs.YtifkhjihgnnpfaaGreatDoor
open Go.RowKit
set_option linter.unusedVariables false

/-- The table of the powers of ten. -/
def PowT (w : World) : Prop := Lib.TabIs Tryz.prog w "internal/strconv.uint64pow10" .u64 Lib.pow10Tab
theorem powG : Tryz.prog.globalNamed "internal/strconv.uint64pow10" = some 0 := by kernel_rfl
theorem PowT.below {w w' : World} (h : PowT w) (hb : Below w.heap.size w w') : PowT w' := by
  have hl := World.block_lt_of_cell? w _ (Lib.TabIs.cell h powG 0 (by decide))
  unfold PowT Lib.TabIs World.var? at *
  rw [powG] at *
  simp only [Option.bind_some] at *
  rw [hb.block _ hl]; exact h

theorem nDigits_le (u : Nat) : Lib.nDigits u ≤ u + 1 := by
  induction u using Nat.strongRecOn with
  | _ u ih =>
    rw [Lib.nDigits]
    split
    · omega
    · have := ih (u / 10) (by omega); omega

theorem itoa_any (n : Int) (h0 : -9223372036854775808 ≤ n) (h1 : n ≤ 9223372036854775807) (w : World) (hT : PowT w) (S : ByteArray) (hS : str (Lib.itoa n) = .string S) :
    Calls Tryz.prog 57 #[.int .i64 n] w fun e w' => e = .returned (.string S) ∧ Below w.heap.size w w' := by
  rw [← hS]
  refine (Tryz.strconv_Itoa n h0 h1 w hT).mono fun e w' ⟨he, k, os, hw⟩ => ⟨he, ?_⟩
  subst hw
  exact Lib.below_grow _ _ (Nat.le_refl _) k os

/-- A journal's name. -/
def Jn.name (n : Int) : List UInt8 := if n < 1 ∨ 1099511627776 < n then [] else 106 :: Lib.itoa n

theorem name_any (n : Int) (w : World) (hT : PowT w) (S : ByteArray) (hS : str (Jn.name n) = .string S) :
    Calls Tryz.prog 47 #[.int .i64 n] w fun e w' => e = .returned (.string S) ∧ Below w.heap.size w w' := by
  unfold Jn.name at hS
  by_cases h1 : n < 1
  · rw [if_pos (Or.inl h1)] at hS
    obtain rfl : S = ⟨#[]⟩ := (Value.string.inj hS).symm
    clear hS
    go_enter Tryz.func47, Tryz.ntmps47
    go_wp2_with fail
    go_ret
    exact ⟨rfl, Below.refl _ _⟩
  by_cases h2 : 1099511627776 < n
  · rw [if_pos (Or.inr h2)] at hS
    obtain rfl : S = ⟨#[]⟩ := (Value.string.inj hS).symm
    clear hS
    have h1' : decide (n < 1) = false := by rw [decide_eq_false_iff_not]; omega
    go_enter Tryz.func47, Tryz.ntmps47
    go_wp2_with fail
    go_ret
    exact ⟨rfl, Below.refl _ _⟩
  rw [if_neg (by omega)] at hS
  obtain ⟨D, hD, hDd, hDs⟩ := str_of (Lib.itoa n)
  have hDl : D.size ≤ 1099511627777 := by
    rw [hDs]; unfold Lib.itoa; rw [if_neg (by omega), Lib.decDigits_length]
    have := nDigits_le n.toNat; omega
  have hfin : (⟨#[106]⟩ : ByteArray) ++ D = S := by
    apply Value.string.inj
    rw [← hS, str_eq (show ((⟨#[106]⟩ : ByteArray) ++ D).data.toList = 106 :: Lib.itoa n by rw [data_append, hDd]; rfl)]
  have h1' : decide (n < 1) = false := by rw [decide_eq_false_iff_not]; omega
  have h2' : decide (1099511627776 < n) = false := by rw [decide_eq_false_iff_not]; omega
  have HF := Lib.hid hfin
  have HD := Lib.hid hD
  have HT := Lib.hid hT
  clear hS hD hDd hDs hfin hT
  go_enter Tryz.func47, Tryz.ntmps47
  go_wp2_with fail
  refine (itoa_any n (by omega) (by omega) _ HT.out D HD.out).mono ?_
  rintro e w' ⟨rfl, hB⟩
  have hn1 : ¬ (9223372036854775807 < 1 + D.size) := by omega
  go_wp2_with fail
  go_ret
  refine ⟨?_, hB⟩
  rw [← HF.out]
  rfl

theorem refName_any (n : Int) (w : World) (hT : PowT w) (S : ByteArray) (hS : str (Jn.name n) = .string S) :
    Calls Tryz.prog 29 #[.int .i64 n] w fun e w' => e = .returned (.string S) ∧ Below w.heap.size w w' := by
  unfold Jn.name at hS
  by_cases h1 : n < 1
  · rw [if_pos (Or.inl h1)] at hS
    obtain rfl : S = ⟨#[]⟩ := (Value.string.inj hS).symm
    clear hS
    go_enter Tryz.func29, Tryz.ntmps29
    go_wp2_with fail
    go_ret
    exact ⟨rfl, Below.refl _ _⟩
  by_cases h2 : 1099511627776 < n
  · rw [if_pos (Or.inr h2)] at hS
    obtain rfl : S = ⟨#[]⟩ := (Value.string.inj hS).symm
    clear hS
    have h1' : decide (n < 1) = false := by rw [decide_eq_false_iff_not]; omega
    go_enter Tryz.func29, Tryz.ntmps29
    go_wp2_with fail
    go_ret
    exact ⟨rfl, Below.refl _ _⟩
  rw [if_neg (by omega)] at hS
  obtain ⟨D, hD, hDd, hDs⟩ := str_of (Lib.itoa n)
  have hDl : D.size ≤ 1099511627777 := by
    rw [hDs]; unfold Lib.itoa; rw [if_neg (by omega), Lib.decDigits_length]
    have := nDigits_le n.toNat; omega
  have hfin : (⟨#[106]⟩ : ByteArray) ++ D = S := by
    apply Value.string.inj
    rw [← hS, str_eq (show ((⟨#[106]⟩ : ByteArray) ++ D).data.toList = 106 :: Lib.itoa n by rw [data_append, hDd]; rfl)]
  have h1' : decide (n < 1) = false := by rw [decide_eq_false_iff_not]; omega
  have h2' : decide (1099511627776 < n) = false := by rw [decide_eq_false_iff_not]; omega
  have HF := Lib.hid hfin
  have HD := Lib.hid hD
  have HT := Lib.hid hT
  clear hS hD hDd hDs hfin hT
  go_enter Tryz.func29, Tryz.ntmps29
  go_wp2_with fail
  refine (itoa_any n (by omega) (by omega) _ HT.out D HD.out).mono ?_
  rintro e w' ⟨rfl, hB⟩
  have hn1 : ¬ (9223372036854775807 < 1 + D.size) := by omega
  go_wp2_with fail
  go_ret
  refine ⟨?_, hB⟩
  rw [← HF.out]
  rfl

theorem num_i (x : Int) (w : World) (h1 : -9223372036854775808 ≤ x) (h2 : x ≤ 9223372036854775807) :
    Calls Tryz.prog 23 #[.int .i64 x] w fun e w' => e = .returned (.int .i64 x) ∧ w = w' := by
  go_enter Tryz.func23, Tryz.ntmps23
  go_wp2_with fail
  go_ret
  exact ⟨rfl, rfl⟩

theorem Jn.write_code (q k i : Int) (c : List UInt8) : (Jn.write q k i c).2 ≤ 60 := by
  unfold Jn.write
  repeat' split
  all_goals simp

theorem fixed_cells (x : World) (q k i : Int) (c : ByteArray) (t : TypeId) {x1 : World} (hB : Below (x.alloc (.cells #[.int .i64 q, .int .i64 k, .int .i64 i, .string c] t)).heap.size (x.alloc (.cells #[.int .i64 q, .int .i64 k, .int .i64 i, .string c] t)) x1) :
    x1.cell? ⟨x.heap.size, 0, none⟩ = some (.int .i64 q) ∧ x1.cell? ⟨x.heap.size, 1, none⟩ = some (.int .i64 k) ∧ x1.cell? ⟨x.heap.size, 2, none⟩ = some (.int .i64 i) ∧ x1.cell? ⟨x.heap.size, 3, none⟩ = some (.string c) := by
  have hl : x.heap.size < (x.alloc (.cells #[.int .i64 q, .int .i64 k, .int .i64 i, .string c] t)).heap.size := by simp
  exact ⟨(hB.cell (p := ⟨_, 0, none⟩) hl).trans (World.cell?_alloc_at _ _ _ _ rfl), (hB.cell (p := ⟨_, 1, none⟩) hl).trans (World.cell?_alloc_at _ _ _ _ rfl), (hB.cell (p := ⟨_, 2, none⟩) hl).trans (World.cell?_alloc_at _ _ _ _ rfl), (hB.cell (p := ⟨_, 3, none⟩) hl).trans (World.cell?_alloc_at _ _ _ _ rfl)⟩

end Go.Proofs.YtifkhjihgnnpfaaGreatDoor
