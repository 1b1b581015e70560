/- Names of a store's files: contracts of strings.Cut at a point, and of manifest.Kind. Conditions: each theorem's own hypotheses. -/
import Derived.Test.YtaljcdkgcbdceaaDoorKdB
import Derived.Deep.QuietTactic
import Derived.BigQuiet
import Derived.Deep.Draws
namespace Go.Proofs.YtaljcdkgcbdceaaDoor
open Go.RowKit
set_option linter.unusedVariables false

theorem Kd.index_cut : ∀ l : List UInt8, (Lib.indexByte l 46 = -1 ∧ ∀ c ∈ l, c ≠ 46) ∨ (∃ i : Nat, Lib.indexByte l 46 = i ∧ i < l.length ∧ l = l.take i ++ 46 :: l.drop (i + 1) ∧ ∀ c ∈ l.take i, c ≠ 46)
  | [] => .inl ⟨rfl, fun c hc => by cases hc⟩
  | b :: l => by
    unfold Lib.indexByte
    by_cases hb : b = 46
    · subst hb
      exact .inr ⟨0, by simp, by simp, by simp, fun c hc => by simp at hc⟩
    · have hbf : (b == 46) = false := by rw [beq_eq_false_iff_ne]; exact hb
      rw [hbf]
      simp only [Bool.false_eq_true, if_false]
      rcases Kd.index_cut l with ⟨e, h⟩ | ⟨i, e, hl, e2, h⟩
      · rw [e]
        exact .inl ⟨rfl, fun c hc => by
          rcases List.mem_cons.1 hc with rfl | hc
          · exact hb
          · exact h c hc⟩
      · rw [e]
        have hi : ((i : Int) == -1) = false := by rw [beq_eq_false_iff_ne]; omega
        rw [hi]
        simp only [Bool.false_eq_true, if_false]
        refine .inr ⟨i + 1, by omega, by simp; omega, ?_, fun c hc => ?_⟩
        · rw [List.take_succ_cons, List.drop_succ_cons, List.cons_append]
          exact congrArg (b :: ·) e2
        · rw [List.take_succ_cons] at hc
          rcases List.mem_cons.1 hc with rfl | hc
          · exact hb
          · exact h c hc

theorem kd_dn {B : Nat} {a w : World} (h : Below B a w) (n : Nat) : Below B a (w.drewN n) := ⟨h.os, h.tape, h.output, h.size, h.block⟩

theorem Kd.beqL (l : List UInt8) (s : ByteArray) : (l == s.toList) = decide (l = s.data.toList) := by
  rw [ByteArray.toList_eq]
  by_cases h : l = s.data.toList
  · rw [h]; simp
  · rw [decide_eq_false h]; simpa using h
theorem Kd.beqR (l : List UInt8) (s : ByteArray) : (s.toList == l) = decide (s.data.toList = l) := by
  rw [ByteArray.toList_eq]
  by_cases h : s.data.toList = l
  · rw [h]; simp
  · rw [decide_eq_false h]; simpa using h

set_option maxRecDepth 100000 in
theorem kdIndex_any (s : ByteArray) (w : World) :
    Calls Tryd.prog 32 #[.string s, .string ⟨#[46]⟩] w fun e w' => e = .returned (.int .i64 (Lib.indexByte s.data.toList 46)) ∧ w = w' := by
  have hb := Kd.beqL [46] s
  by_cases h : [46] = s.data.toList
  · rw [decide_eq_true h] at hb
    rw [show Lib.indexByte s.data.toList 46 = 0 from by rw [← h]; rfl]
    clear h
    go_enter Tryd.func32, Tryd.ntmps32
    go_wp2_with fail
    go_ret
    exact ⟨rfl, rfl⟩
  · rw [decide_eq_false h] at hb
    clear h
    go_enter Tryd.func32, Tryd.ntmps32
    go_wp2_with fail
    refine (Tryd.stringslite_IndexByte s _ w).mono ?_
    rintro e w' ⟨rfl, rfl⟩
    go_wp2_with fail
    go_ret
    exact ⟨rfl, rfl⟩

set_option maxRecDepth 100000 in
theorem kdCutLite_any (s : ByteArray) (hs : s.size ≤ 9223372036854775807) (a b : ByteArray) (ha : a.data.toList = (Kd.cut s.data.toList).1) (hb : b.data.toList = (Kd.cut s.data.toList).2) (w : World) :
    Calls Tryd.prog 27 #[.string s, .string ⟨#[46]⟩] w fun e w' => (∃ q, e = .returned (.tuple #[.string a, .string b, .bool q])) ∧ Below w.heap.size w w' := by
  have hi := kdIndex_any s w
  rcases Kd.index_cut s.data.toList with ⟨e, h⟩ | ⟨i, e, hl, e2, h⟩
  · rw [e] at hi
    rw [Kd.cut_none h] at ha hb
    obtain rfl : s = a := Tx.ext ha.symm
    obtain rfl : (⟨#[]⟩ : ByteArray) = b := Tx.ext hb.symm
    have HI := Lib.hid hi
    clear hi ha hb e h
    go_enter Tryd.func27, Tryd.ntmps27
    go_wp2_with fail
    refine HI.out.mono ?_
    rintro e w' ⟨rfl, rfl⟩
    go_wp2_with fail
    go_ret3
    exact ⟨⟨_, rfl⟩, Below.refl _ _⟩
  · rw [e] at hi
    rw [e2, Kd.cut_at h] at ha hb
    rw [← Tx.size] at hl
    have ea : s.extract 0 i = a := Tx.ext (by rw [Tx.extract, ha, List.drop_zero, Nat.sub_zero])
    have eb : s.extract (i + 1) s.size = b := Tx.ext (by rw [Tx.extract, hb, List.take_of_length_le]; rw [List.length_drop, ← Tx.size]; exact Nat.le_refl _)
    obtain ⟨i1, hi1⟩ : ∃ i1, i + 1 = i1 := ⟨_, rfl⟩
    rw [hi1] at eb
    have w1 : IntKind.i64.wrap ((i : Int) + 1) = (i1 : Int) := by unfold IntKind.wrap; simp [IntKind.bits, IntKind.signed]; omega
    have g2 : (i1 : Int) ≤ (s.size : Int) := by omega
    have g3 : i1 ≤ s.size := by omega
    have g5 : (0 : Int) ≤ (i1 : Int) := by omega
    have g6 : (i : Int) ≤ (s.size : Int) := by omega
    have g4 : (0 : Int) ≤ (i : Int) := by omega
    have g7 : i ≤ s.size := by omega
    have HI := Lib.hid hi
    have HE := Lib.hid (And.intro ea eb)
    clear hi ha hb e h e2 hl ea eb hi1
    go_enter Tryd.func27, Tryd.ntmps27
    go_wp2_with fail
    refine HI.out.mono ?_
    rintro e w' ⟨rfl, rfl⟩
    go_wp2_with fail
    go_quiet (fail)
    go_wp2_with fail
    go_ret3
    rw [HE.out.1, HE.out.2]
    exact ⟨⟨_, rfl⟩, kd_dn (Below.refl _ _) _⟩

theorem kdCut_any (s : ByteArray) (hs : s.size ≤ 9223372036854775807) (a b : ByteArray) (ha : a.data.toList = (Kd.cut s.data.toList).1) (hb : b.data.toList = (Kd.cut s.data.toList).2) (w : World) :
    Calls Tryd.prog 14 #[.string s, .string ⟨#[46]⟩] w fun e w' => (∃ q, e = .returned (.tuple #[.string a, .string b, .bool q])) ∧ Below w.heap.size w w' := by
  have HC := Lib.hid (kdCutLite_any s hs a b ha hb w)
  clear ha hb
  go_enter Tryd.func14, Tryd.ntmps14
  go_wp2_with fail
  refine HC.out.mono ?_
  rintro e w1 ⟨⟨q, rfl⟩, B1⟩
  go_wp2_with fail
  go_ret3
  exact ⟨⟨_, rfl⟩, B1⟩
end Go.Proofs.YtaljcdkgcbdceaaDoor
