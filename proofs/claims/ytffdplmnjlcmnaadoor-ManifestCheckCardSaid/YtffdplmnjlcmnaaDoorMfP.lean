/- Runs in a row of the call's own, and a run written over. Conditions: each theorem's own hypotheses. -/
import Derived.Test.YtffdplmnjlcmnaaDoorMfK
namespace Go.Proofs.YtffdplmnjlcmnaaDoor
open Go.RowKit Go.Maps
set_option linter.unusedVariables false

/-- The block's cells from 0 on are these runs; none is frozen. -/
structure Row (W : World) (g : Nat) (hs : List Run) : Prop where
  at_ : ∀ j x, hs[j]? = some x → W.cell? ⟨g, j * 4, none⟩ = some (.int .i64 x.num) ∧ W.cell? ⟨g, j * 4 + 1, none⟩ = some (.int .i64 x.lo) ∧ W.cell? ⟨g, j * 4 + 2, none⟩ = some (.int .i64 x.hi) ∧ W.cell? ⟨g, j * 4 + 3, none⟩ = some (.int .i64 x.cnt)
  free : ∀ j, W.frozen? ⟨g, j, none⟩ = false
  lt : g < W.heap.size
theorem Row.of_own {W : World} {base g cap : Nat} {hs : List Run} (h : Own W base g cap hs) : Row W g hs := by
  refine ⟨fun j x hj => ?_, fun j => ?_, h.lt.2⟩
  · obtain ⟨b, off, hA, hb, hc⟩ := h.rs (by have := (List.getElem?_eq_some_iff.1 hj).1; omega)
    injection hA with hA
    injection hA with q1 q2
    subst q1 q2
    have := hc j x hj
    rwa [Nat.zero_add] at this
  · rcases h.2 with ⟨h0, _⟩ | ⟨g', cap', cur, h0, _, hg, _⟩
    · cases h0
    · injection h0 with h0
      injection h0 with h0
      injection h0 with e1
      subst e1
      exact Blk.frozen hg j
theorem Row.below {W W' : World} {B g : Nat} {hs : List Run} (h : Row W g hs) (hB : Below B W W') (hg : g < B) : Row W' g hs :=
  ⟨fun j x hj => by
    obtain ⟨a, b, c, d⟩ := h.at_ j x hj
    exact ⟨(hB.cell (p := ⟨g, _, none⟩) hg).trans a, (hB.cell (p := ⟨g, _, none⟩) hg).trans b, (hB.cell (p := ⟨g, _, none⟩) hg).trans c, (hB.cell (p := ⟨g, _, none⟩) hg).trans d⟩,
   fun j => (hB.frozen (p := ⟨g, j, none⟩) hg).trans (h.free j), Nat.lt_of_lt_of_le h.lt hB.size⟩
theorem Row.rs {W : World} {g : Nat} {hs : List Run} (h : Row W g hs) : Rs W W.heap.size (some ⟨g, 0, none⟩) hs := fun _ =>
  ⟨g, 0, rfl, h.lt, fun j r hj => by rw [Nat.zero_add]; exact h.at_ j r hj⟩
theorem Row.put {W : World} {g : Nat} {hs : List Run} (h : Row W g hs) {k : Nat} {x : Run} (hk : hs[k]? = some x) (y : Run) :
    Row ((((W.setCell ⟨g, k * 4, none⟩ (.int .i64 y.num)).setCell ⟨g, k * 4 + 1, none⟩ (.int .i64 y.lo)).setCell ⟨g, k * 4 + 2, none⟩ (.int .i64 y.hi)).setCell ⟨g, k * 4 + 3, none⟩ (.int .i64 y.cnt)) g (hs.set k y) := by
  refine ⟨fun j z hj => ?_, fun j => by iterate 4 rw [World.frozen?_setCell]
                                        exact h.free j, by simp; exact h.lt⟩
  obtain ⟨a0, b0, c0, d0⟩ := h.at_ k x hk
  by_cases e : j = k
  · subst e
    rw [List.getElem?_set_self (List.getElem?_eq_some_iff.1 hk).1] at hj
    obtain rfl := Option.some.inj hj
    refine ⟨?_, ?_, ?_, ?_⟩
    · iterate 3 rw [World.cell?_setCell_other _ _ _ _ (by simp)]
      exact World.cell?_setCell_same _ _ _ a0
    · iterate 2 rw [World.cell?_setCell_other _ _ _ _ (by simp)]
      refine World.cell?_setCell_same _ _ _ (u := .int .i64 x.lo) ?_
      rw [World.cell?_setCell_other _ _ _ _ (by simp)]; exact b0
    · rw [World.cell?_setCell_other _ _ _ _ (by simp)]
      refine World.cell?_setCell_same _ _ _ (u := .int .i64 x.hi) ?_
      iterate 2 rw [World.cell?_setCell_other _ _ _ _ (by simp)]
      exact c0
    · refine World.cell?_setCell_same _ _ _ (u := .int .i64 x.cnt) ?_
      iterate 3 rw [World.cell?_setCell_other _ _ _ _ (by simp)]
      exact d0
  · rw [List.getElem?_set_ne (fun e' => e e'.symm)] at hj
    obtain ⟨a, b, c, d⟩ := h.at_ j z hj
    refine ⟨?_, ?_, ?_, ?_⟩ <;> iterate 4 rw [World.cell?_setCell_other _ _ _ _ (by simp; try omega)]
    · exact a
    · exact b
    · exact c
    · exact d
end Go.Proofs.YtffdplmnjlcmnaaDoor
