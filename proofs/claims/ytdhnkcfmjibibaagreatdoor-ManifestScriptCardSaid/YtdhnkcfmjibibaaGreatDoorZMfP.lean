/- The law's helper kept. Conditions: each theorem's own hypotheses. -/
import Derived.Test.YtdhnkcfmjibibaaGreatDoorMfK
namespace Go.Proofs.YtdhnkcfmjibibaaGreatDoor
open Go.RowKit Go.Maps
set_option linter.unusedVariables false

theorem Rs.fst {W : World} {B : Nat} {A : Option Addr} {a b : List Run} (H : Rs W B A (a ++ b)) : Rs W B A a := by
  intro h0
  obtain ⟨b', off, hA, hb, hc⟩ := H (by rw [List.length_append]; omega)
  exact ⟨b', off, hA, hb, fun j r hj => hc j r (by rw [List.getElem?_append_left (List.getElem?_eq_some_iff.1 hj).1]; exact hj)⟩

set_option maxRecDepth 100000 in
set_option maxHeartbeats 1000000 in
theorem kept_any (M : Man) (A : Option Addr) (g cap cap' : Nat) (w : World) (H : Rs w w.heap.size A M.runs) (H' : Rs w w.heap.size (some ⟨g, 0, none⟩) (M.runs ++ [mark])) (hc : M.runs.length + 1 ≤ cap) (hcm : cap ≤ 9223372036854775807) (hm : M.runs.length ≤ 4398046511104) :
    Calls Tryz.prog 8 #[manV M (some ⟨g, 0, none⟩) cap, manV M A cap'] w fun e w' => e = .returned (.bool true) ∧ Below w.heap.size w w' := by
  obtain ⟨b', off', r', hA', hbb', hj', f0, f1, f2, f3⟩ := H'.at_ (k := M.runs.length) (by rw [List.length_append]; simp)
  injection hA' with hA'
  injection hA' with q1 q2
  subst q1 q2
  have hr' : r' = mark := by
    rw [List.getElem?_append_right (Nat.le_refl _), Nat.sub_self] at hj'
    exact (Option.some.inj hj').symm
  subst hr'
  clear hj'
  have hs := fun W h1 h2 => same_any M (some ⟨g, 0, none⟩) A cap cap' W h1 h2 hm
  unfold manV
  unfold manV at hs
  have HSM := Lib.hid hs
  clear hs
  go_enter Tryz.func8, Tryz.ntmps8
  have hk1 : ∀ o : Obj, (w.alloc o).heap.size = w.heap.size + 1 := fun o => by simp
  have hb0 : Blk ((w.alloc (.cells (manCells M (some ⟨g, 0, none⟩) cap) 31)).alloc (.cells (manCells M A cap') 31)) w.heap.size 31 (manCells M (some ⟨g, 0, none⟩) cap) := (Blk.new w _ _).alloc _
  have hb1 : Blk ((w.alloc (.cells (manCells M (some ⟨g, 0, none⟩) cap) 31)).alloc (.cells (manCells M A cap') 31)) (w.heap.size + 1) 31 (manCells M A cap') := by rw [← hk1]; exact Blk.new _ _ _
  have BW : Below w.heap.size w ((w.alloc (.cells (manCells M (some ⟨g, 0, none⟩) cap) 31)).alloc (.cells (manCells M A cap') 31)) := ((Below.refl _ _).alloc (Nat.le_refl _) _).alloc (by simp) _
  have HB0 := Lib.hid hb0
  have HB1 := Lib.hid hb1
  clear hb0 hb1
  go_wp2_with (go_at_call 13; refine (HSM.out _ ((H'.fst.below BW).more BW.size) ((H.below BW).more BW.size)).mono ?_; rintro e w1 ⟨rfl, hB⟩;
                    have hd0 := (hB.block w.heap.size HB0.out.lt).trans HB0.out;
                    have hd1 := (hB.block (w.heap.size + 1) HB1.out.lt).trans HB1.out;
                    have B1 : Below w.heap.size w w1 := BW.trans (hB.mono BW.size);
                    have g0 : w1.cell? ⟨g, 0 + M.runs.length * 4, none⟩ = some (.int .i64 (-7)) := (B1.cell (p := ⟨g, 0 + M.runs.length * 4, none⟩) hbb').trans f0;
                    have g1 : w1.cell? ⟨g, 0 + M.runs.length * 4 + 1, none⟩ = some (.int .i64 0) := (B1.cell (p := ⟨g, 0 + M.runs.length * 4 + 1, none⟩) hbb').trans f1;
                    have g2 : w1.cell? ⟨g, 0 + M.runs.length * 4 + 2, none⟩ = some (.int .i64 0) := (B1.cell (p := ⟨g, 0 + M.runs.length * 4 + 2, none⟩) hbb').trans f2;
                    have g3 : w1.cell? ⟨g, 0 + M.runs.length * 4 + 3, none⟩ = some (.int .i64 0) := (B1.cell (p := ⟨g, 0 + M.runs.length * 4 + 3, none⟩) hbb').trans f3;
                    rw [Nat.zero_add] at g0 g1 g2 g3;
                    have c6 : w1.cell? ⟨w.heap.size + 1, 6, none⟩ = some (.slice A M.runs.length cap') := Blk.cell hd1 6;
                    clear f0 f1 f2 f3 hB hd0 hd1)
  go_ret
  exact ⟨rfl, B1⟩
end Go.Proofs.YtdhnkcfmjibibaaGreatDoor
/- Runs in a row of the call's own, and a run written over. Conditions: each theorem's own hypotheses. -/
namespace Go.Proofs.YtdhnkcfmjibibaaGreatDoor
open Go.RowKit Go.Maps
set_option linter.unusedVariables false

/-- The block's cells from 0 on are these runs; none is frozen. -/
structure Row (W : World) (g : Nat) (hs : List Run) : Prop where
  at_ : ∀ j x, hs[j]? = some x → W.cell? ⟨g, j * 4, none⟩ = some (.int .i64 x.num) ∧ W.cell? ⟨g, j * 4 + 1, none⟩ = some (.int .i64 x.lo) ∧ W.cell? ⟨g, j * 4 + 2, none⟩ = some (.int .i64 x.hi) ∧ W.cell? ⟨g, j * 4 + 3, none⟩ = some (.int .i64 x.cnt)
  free : ∀ j, W.frozen? ⟨g, j, none⟩ = false
  lt : g < W.heap.size
theorem Row.of_own {W : World} {base g cap : Nat} {hs : List Run} (h : Own W base g cap hs) : Row W g hs := by
  refine ⟨fun j x hj => ?_, fun j => ?_, h.lt.2⟩
  · obtain ⟨b, off, hA, hb, hc⟩ := h.rs (by have := (List.getElem?_eq_some_iff.1 hj).1; omega)
    injection hA with hA
    injection hA with q1 q2
    subst q1 q2
    have := hc j x hj
    rwa [Nat.zero_add] at this
  · rcases h.2 with ⟨h0, _⟩ | ⟨g', cap', cur, h0, _, hg, _⟩
    · cases h0
    · injection h0 with h0
      injection h0 with h0
      injection h0 with e1
      subst e1
      exact Blk.frozen hg j
theorem Row.below {W W' : World} {B g : Nat} {hs : List Run} (h : Row W g hs) (hB : Below B W W') (hg : g < B) : Row W' g hs :=
  ⟨fun j x hj => by
    obtain ⟨a, b, c, d⟩ := h.at_ j x hj
    exact ⟨(hB.cell (p := ⟨g, _, none⟩) hg).trans a, (hB.cell (p := ⟨g, _, none⟩) hg).trans b, (hB.cell (p := ⟨g, _, none⟩) hg).trans c, (hB.cell (p := ⟨g, _, none⟩) hg).trans d⟩,
   fun j => (hB.frozen (p := ⟨g, j, none⟩) hg).trans (h.free j), Nat.lt_of_lt_of_le h.lt hB.size⟩
theorem Row.rs {W : World} {g : Nat} {hs : List Run} (h : Row W g hs) : Rs W W.heap.size (some ⟨g, 0, none⟩) hs := fun _ =>
  ⟨g, 0, rfl, h.lt, fun j r hj => by rw [Nat.zero_add]; exact h.at_ j r hj⟩
theorem Row.put {W : World} {g : Nat} {hs : List Run} (h : Row W g hs) {k : Nat} {x : Run} (hk : hs[k]? = some x) (y : Run) :
    Row ((((W.setCell ⟨g, k * 4, none⟩ (.int .i64 y.num)).setCell ⟨g, k * 4 + 1, none⟩ (.int .i64 y.lo)).setCell ⟨g, k * 4 + 2, none⟩ (.int .i64 y.hi)).setCell ⟨g, k * 4 + 3, none⟩ (.int .i64 y.cnt)) g (hs.set k y) := by
  refine ⟨fun j z hj => ?_, fun j => by iterate 4 rw [World.frozen?_setCell]
                                        exact h.free j, by simp; exact h.lt⟩
  obtain ⟨a0, b0, c0, d0⟩ := h.at_ k x hk
  by_cases e : j = k
  · subst e
    rw [List.getElem?_set_self (List.getElem?_eq_some_iff.1 hk).1] at hj
    obtain rfl := Option.some.inj hj
    refine ⟨?_, ?_, ?_, ?_⟩
    · iterate 3 rw [World.cell?_setCell_other _ _ _ _ (by simp)]
      exact World.cell?_setCell_same _ _ _ a0
    · iterate 2 rw [World.cell?_setCell_other _ _ _ _ (by simp)]
      refine World.cell?_setCell_same _ _ _ (u := .int .i64 x.lo) ?_
      rw [World.cell?_setCell_other _ _ _ _ (by simp)]; exact b0
    · rw [World.cell?_setCell_other _ _ _ _ (by simp)]
      refine World.cell?_setCell_same _ _ _ (u := .int .i64 x.hi) ?_
      iterate 2 rw [World.cell?_setCell_other _ _ _ _ (by simp)]
      exact c0
    · refine World.cell?_setCell_same _ _ _ (u := .int .i64 x.cnt) ?_
      iterate 3 rw [World.cell?_setCell_other _ _ _ _ (by simp)]
      exact d0
  · rw [List.getElem?_set_ne (fun e' => e e'.symm)] at hj
    obtain ⟨a, b, c, d⟩ := h.at_ j z hj
    refine ⟨?_, ?_, ?_, ?_⟩ <;> iterate 4 rw [World.cell?_setCell_other _ _ _ _ (by simp; try omega)]
    · exact a
    · exact b
    · exact c
    · exact d
end Go.Proofs.YtdhnkcfmjibibaaGreatDoor
