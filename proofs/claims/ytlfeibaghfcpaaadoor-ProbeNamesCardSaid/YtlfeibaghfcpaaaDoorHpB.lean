/- Contracts of cmp.Compare[string], cmp.Or[int], best.order and the closure of best.newPile. Conditions: each theorem's own hypotheses. -/
import Derived.Test.YtlfeibaghfcpaaaDoorPbP
import Derived.Test.YtlfeibaghfcpaaaDoorTx
import Derived.Test.YtlfeibaghfcpaaaDoorShelf
import Derived.Deep.RegionHeld3
import Derived.Shelf.SlSortCmp.NoneTotal
namespace Go.Proofs.YtlfeibaghfcpaaaDoor
open Go.RowKit Go.Maps Go.Sort Go.Shelf
set_option linter.unusedVariables false
set_option linter.unusedSimpArgs false

theorem Hp.less_eq : ∀ a b : List UInt8, Op.bytesLess a b = decide (a < b)
  | [], [] => by simp [Op.bytesLess]
  | [], _ :: _ => by simp [Op.bytesLess]
  | _ :: _, [] => by simp [Op.bytesLess]
  | a :: s, b :: t => by
    have ih := Hp.less_eq s t
    rw [Bool.eq_iff_iff, decide_eq_true_iff, List.cons_lt_cons_iff]
    simp [Op.bytesLess, ih]
theorem Hp.isNaNS_any (a : ByteArray) (W : World) : Calls Tryd.prog 62 #[.string a] W fun e W' => e = .returned (.bool false) ∧ W = W' := by
  go_enter Tryd.func62, Tryd.ntmps62
  go_wp2_with fail
  go_ret
  exact ⟨by simp, rfl⟩
theorem Hp.run_gtr {P : Program} (a b : ByteArray) (t : TypeId) (q : Bool) (hq : decide (b.data.toList < a.data.toList) = q) (W : World) : (binOp .gtr t (.string a) (.string b)).run P W = .ok (.bool q) W := by
  have h : binOp .gtr t (.string a) (.string b) = pure (.bool !(Op.bytesLess a.toList b.toList || a.toList == b.toList)) := by simp [binOp, Op.stringOp]
  rw [h]
  have e : (Op.bytesLess a.toList b.toList || a.toList == b.toList) = !q := by
    rw [ByteArray.toList_eq, ByteArray.toList_eq, Hp.less_eq, ← hq, Bool.eq_iff_iff, ← decide_not]
    simp only [Bool.or_eq_true, decide_eq_true_eq, beq_iff_eq, List.not_lt]
    exact (List.le_iff_lt_or_eq).symm
  rw [e, Bool.not_not]
  rfl
theorem Hp.compareS_any (a b : ByteArray) (W : World) : Calls Tryd.prog 47 #[.string a, .string b] W fun e W' => e = .returned (.int .i64 (Pb.cmpS a.data.toList b.data.toList)) ∧ W = W' := by
  have hn := fun (s : ByteArray) (WW : World) => Hp.isNaNS_any s WW
  have h1 : Op.bytesLess a.toList b.toList = decide (a.data.toList < b.data.toList) := by rw [ByteArray.toList_eq, ByteArray.toList_eq]; exact Hp.less_eq _ _
  have h2 : Op.bytesLess b.toList a.toList = decide (b.data.toList < a.data.toList) := by rw [ByteArray.toList_eq, ByteArray.toList_eq]; exact Hp.less_eq _ _
  unfold Pb.cmpS
  go_enter Tryd.func47, Tryd.ntmps47
  by_cases c1 : a.data.toList < b.data.toList
  · rw [decide_eq_true c1] at h1
    rw [if_pos c1]
    go_wp2_with (go_at_call 62; refine (hn _ _).mono ?_; rintro e w' ⟨rfl, rfl⟩)
    go_ret
    exact ⟨rfl, rfl⟩
  · rw [decide_eq_false c1] at h1
    rw [if_neg c1]
    by_cases c2 : b.data.toList < a.data.toList
    · have h3 := fun t WW => Hp.run_gtr (P := Tryd.prog) a b t true (decide_eq_true c2) WW
      rw [if_pos c2]
      go_wp2_with (go_at_call 62; refine (hn _ _).mono ?_; rintro e w' ⟨rfl, rfl⟩)
      go_ret
      exact ⟨rfl, rfl⟩
    · have h3 := fun t WW => Hp.run_gtr (P := Tryd.prog) a b t false (decide_eq_false c2) WW
      rw [if_neg c2]
      go_wp2_with (go_at_call 62; refine (hn _ _).mono ?_; rintro e w' ⟨rfl, rfl⟩)
      go_ret
      exact ⟨rfl, rfl⟩
theorem Hp.compareI (x y : Int) : Lib.compareInt x y = Pb.cmpI x y := by
  unfold Lib.compareInt Pb.cmpI
  rfl
theorem Hp.compareI_any (x y : Int) (W : World) : Calls Tryd.prog 46 #[.int .i64 x, .int .i64 y] W fun e W' => e = .returned (.int .i64 (Pb.cmpI x y)) ∧ W = W' :=
  (Tryd.cmp_Compare_int x y W).mono fun e w' ⟨h1, h2⟩ => ⟨by rw [h1, Hp.compareI], h2.symm⟩
/-- The first that is not 0. -/
def Hp.or3 (x y z : Int) : Int := if x ≠ 0 then x else if y ≠ 0 then y else z
theorem Hp.or3_any (g : Nat) (x y z : Int) (W : World) (h0 : W.cell? ⟨g, 0, none⟩ = some (.int .i64 x)) (h1 : W.cell? ⟨g, 1, none⟩ = some (.int .i64 y)) (h2 : W.cell? ⟨g, 2, none⟩ = some (.int .i64 z)) :
    Calls Tryd.prog 45 #[.slice (some ⟨g, 0, none⟩) 3 3] W fun e W' => e = .returned (.int .i64 (Hp.or3 x y z)) ∧ W = W' := by
  unfold Hp.or3
  go_enter Tryd.func45, Tryd.ntmps45
  by_cases c1 : x = 0
  · subst c1
    by_cases c2 : y = 0
    · subst c2
      by_cases c3 : z = 0
      · subst c3
        go_wp2_with fail
        refine wp_loop_rounds 4 ?_
        iterate 4 (rw [rounds_succ]; go_wp2_with fail)
        go_ret
        exact ⟨by simp, rfl⟩
      · have hz : (z != 0) = true := by simp [c3]
        go_wp2_with fail
        refine wp_loop_rounds 4 ?_
        iterate 3 (rw [rounds_succ]; go_wp2_with fail)
        go_ret
        exact ⟨by simp, rfl⟩
    · have hy : (y != 0) = true := by simp [c2]
      go_wp2_with fail
      refine wp_loop_rounds 4 ?_
      iterate 2 (rw [rounds_succ]; go_wp2_with fail)
      go_ret
      exact ⟨by simp [c2], rfl⟩
  · have hx : (x != 0) = true := by simp [c1]
    go_wp2_with fail
    refine wp_loop_rounds 4 ?_
    iterate 1 (rw [rounds_succ]; go_wp2_with fail)
    go_ret
    exact ⟨by simp [c1], rfl⟩
end Go.Proofs.YtlfeibaghfcpaaaDoor
