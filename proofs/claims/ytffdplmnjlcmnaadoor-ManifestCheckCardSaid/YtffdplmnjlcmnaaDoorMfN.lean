/- The law's helper kept. Conditions: each theorem's own hypotheses. -/
import Derived.Test.YtffdplmnjlcmnaaDoorMfM
namespace Go.Proofs.YtffdplmnjlcmnaaDoor
open Go.RowKit Go.Maps
set_option linter.unusedVariables false

theorem Rs.fst {W : World} {B : Nat} {A : Option Addr} {a b : List Run} (H : Rs W B A (a ++ b)) : Rs W B A a := by
  intro h0
  obtain ⟨b', off, hA, hb, hc⟩ := H (by rw [List.length_append]; omega)
  exact ⟨b', off, hA, hb, fun j r hj => hc j r (by rw [List.getElem?_append_left (List.getElem?_eq_some_iff.1 hj).1]; exact hj)⟩

set_option maxRecDepth 100000 in
set_option maxHeartbeats 1000000 in
theorem kept_any (M : Man) (A : Option Addr) (g cap cap' : Nat) (w : World) (H : Rs w w.heap.size A M.runs) (H' : Rs w w.heap.size (some ⟨g, 0, none⟩) (M.runs ++ [mark])) (hc : M.runs.length + 1 ≤ cap) (hcm : cap ≤ 9223372036854775807) (hm : M.runs.length ≤ 4398046511104) :
    Calls Tryd.prog 15 #[manV M (some ⟨g, 0, none⟩) cap, manV M A cap'] w fun e w' => e = .returned (.bool true) ∧ Below w.heap.size w w' := by
  obtain ⟨b', off', r', hA', hbb', hj', f0, f1, f2, f3⟩ := H'.at_ (k := M.runs.length) (by rw [List.length_append]; simp)
  injection hA' with hA'
  injection hA' with q1 q2
  subst q1 q2
  have hr' : r' = mark := by
    rw [List.getElem?_append_right (Nat.le_refl _), Nat.sub_self] at hj'
    exact (Option.some.inj hj').symm
  subst hr'
  clear hj'
  have hs := fun W h1 h2 => same_any M (some ⟨g, 0, none⟩) A cap cap' W h1 h2 hm
  unfold manV
  unfold manV at hs
  have HSM := Lib.hid hs
  clear hs
  go_enter Tryd.func15, Tryd.ntmps15
  have hk1 : ∀ o : Obj, (w.alloc o).heap.size = w.heap.size + 1 := fun o => by simp
  have hb0 : Blk ((w.alloc (.cells (manCells M (some ⟨g, 0, none⟩) cap) 26)).alloc (.cells (manCells M A cap') 26)) w.heap.size 26 (manCells M (some ⟨g, 0, none⟩) cap) := (Blk.new w _ _).alloc _
  have hb1 : Blk ((w.alloc (.cells (manCells M (some ⟨g, 0, none⟩) cap) 26)).alloc (.cells (manCells M A cap') 26)) (w.heap.size + 1) 26 (manCells M A cap') := by rw [← hk1]; exact Blk.new _ _ _
  have BW : Below w.heap.size w ((w.alloc (.cells (manCells M (some ⟨g, 0, none⟩) cap) 26)).alloc (.cells (manCells M A cap') 26)) := ((Below.refl _ _).alloc (Nat.le_refl _) _).alloc (by simp) _
  have HB0 := Lib.hid hb0
  have HB1 := Lib.hid hb1
  clear hb0 hb1
  go_wp2_with (go_at_call 18; refine (HSM.out _ ((H'.fst.below BW).more BW.size) ((H.below BW).more BW.size)).mono ?_; rintro e w1 ⟨rfl, hB⟩;
                    have hd0 := (hB.block w.heap.size HB0.out.lt).trans HB0.out;
                    have hd1 := (hB.block (w.heap.size + 1) HB1.out.lt).trans HB1.out;
                    have B1 : Below w.heap.size w w1 := BW.trans (hB.mono BW.size);
                    have g0 : w1.cell? ⟨g, 0 + M.runs.length * 4, none⟩ = some (.int .i64 (-7)) := (B1.cell (p := ⟨g, 0 + M.runs.length * 4, none⟩) hbb').trans f0;
                    have g1 : w1.cell? ⟨g, 0 + M.runs.length * 4 + 1, none⟩ = some (.int .i64 0) := (B1.cell (p := ⟨g, 0 + M.runs.length * 4 + 1, none⟩) hbb').trans f1;
                    have g2 : w1.cell? ⟨g, 0 + M.runs.length * 4 + 2, none⟩ = some (.int .i64 0) := (B1.cell (p := ⟨g, 0 + M.runs.length * 4 + 2, none⟩) hbb').trans f2;
                    have g3 : w1.cell? ⟨g, 0 + M.runs.length * 4 + 3, none⟩ = some (.int .i64 0) := (B1.cell (p := ⟨g, 0 + M.runs.length * 4 + 3, none⟩) hbb').trans f3;
                    rw [Nat.zero_add] at g0 g1 g2 g3;
                    have c6 : w1.cell? ⟨w.heap.size + 1, 6, none⟩ = some (.slice A M.runs.length cap') := Blk.cell hd1 6;
                    clear f0 f1 f2 f3 hB hd0 hd1)
  go_ret
  exact ⟨rfl, B1⟩
end Go.Proofs.YtffdplmnjlcmnaaDoor
