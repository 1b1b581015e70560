/- The walk of the law RunNames. Conditions: each theorem's own hypotheses. -/
import Derived.Test.YteeopbeeegfomaaGreatDoorNnC
import Derived.Test.YteeopbeeegfomaaGreatDoorMem
import Derived.Carry
import Derived.Defers
namespace Go.Proofs.YteeopbeeegfomaaGreatDoor
open Go.RowKit
set_option linter.unusedVariables false

theorem nnNum_any (e : Int) (w : World) : Calls Tryz.prog 7 #[.int .i64 e] w fun r w' => r = .returned (.int .i64 e) ∧ w = w' := by
  go_enter Tryz.func7, Tryz.ntmps7
  go_wp2_with fail
  go_ret
  exact ⟨rfl, rfl⟩
set_option maxRecDepth 100000 in
theorem nnNew_any (w : World) : Calls Tryz.prog 6 #[.int .i64 1000] w fun e w' => (∃ p, e = .returned (.pointer p)) ∧ Below w.heap.size w w' := by
  have hmm := @run_makeMap Tryz.prog
  go_enter Tryz.func6, Tryz.ntmps6
  go_wp2_with fail
  go_ret
  exact ⟨⟨_, rfl⟩, ((Below.refl _ _).alloc (Nat.le_refl _) _).alloc (by simp) _⟩
set_option maxRecDepth 100000 in
theorem nnWrite_bad (p : Option Addr) (w : World) :
    Calls Tryz.prog 5 #[.pointer p, .int .i64 0, .agg #[.int .i64 0, .int .i64 0, .int .i64 0], .agg #[.int .i64 0, .int .i64 0, .int .i64 0, .int .i64 0], .slice none 0 0] w fun e w' => e = .returned (.int .i64 13) ∧ Below w.heap.size w w' := by
  go_enter_defers Tryz.func5, Tryz.ntmps5
  go_wp2_with fail
  refine (rnGoes_any 0 0 0 0 (by decide) 13 rfl _).mono ?_
  rintro e w1 ⟨rfl, hB⟩
  have hx : ∀ a b c o : Obj, ((((w.alloc a).alloc b).alloc c).alloc o).heap[w.heap.size + 1 + 1 + 1]? = some o := fun a b c o => by
    have := heap_alloc_new (((w.alloc a).alloc b).alloc c) o
    simp only [World.size_alloc] at this
    exact this
  have hb : Blk w1 (w.heap.size + 1 + 1 + 1) 26 #[.int .i64 0] := (hB.block (w.heap.size + 1 + 1 + 1) (by simp)).trans (hx _ _ _ _)
  have c0 : w1.cell? ⟨w.heap.size + 1 + 1 + 1, 0, none⟩ = some (.int .i64 0) := hb.cell 0
  have f0 : w1.frozen? ⟨w.heap.size + 1 + 1 + 1, 0, none⟩ = false := hb.frozen 0
  have B1 : Below w.heap.size w w1 := ((((Below.refl _ w).alloc (Nat.le_refl _) _).alloc (by simp) _).alloc (by simp; omega) _).alloc (by simp; omega) _ |>.trans (hB.mono (by simp; omega))
  clear hx hB
  have HB := Lib.hid hb
  clear hb
  go_wp2_with fail
  refine ⟨.int .i64 13, ?_, rfl, B1.setCell (p := ⟨w.heap.size + 1 + 1 + 1, 0, none⟩) (by simp; omega) _⟩
  have c1 : (w1.setCell ⟨w.heap.size + 1 + 1 + 1, 0, none⟩ (.int .i64 13)).cell? ⟨w.heap.size + 1 + 1 + 1, 0, none⟩ = some (.int .i64 13) := World.cell?_setCell_same _ _ _ c0
  simp [results, Tryz.results5, go_sem, c1]

set_option maxRecDepth 100000 in
theorem names14_law (w : World) (hT : Rn.Pow w) :
    Calls Tryz.prog 3 #[] w fun e w' => e = .returned (.bool true) ∧ Below w.heap.size w w' := by
  have hL : Rn.list 3 64 0 2 = [[114, 51, 46, 48]] := by
    have h3 : Lib.itoa 3 = [51] := by unfold Lib.itoa; rw [if_neg (by decide)]; exact Lib.decDigits_one (i := 3) (by decide)
    have h0 : Lib.itoa 0 = [48] := by unfold Lib.itoa; rw [if_neg (by decide)]; exact Lib.decDigits_one (i := 0) (by decide)
    have hg : Rn.goes 3 64 0 2 = 0 := by decide
    have ht : Rn.tabs 0 2 = 1 := by decide
    unfold Rn.list
    rw [if_pos hg, ht]
    show [Rn.name 3 0] = _
    unfold Rn.name
    rw [h3, h0]; rfl
  have HN := Lib.hid (names_any 3 64 0 2 (by decide) w hT _ hL)
  clear hL
  go_enter Tryz.func3, Tryz.ntmps3
  go_wp2_with fail
  refine HN.out.mono ?_
  rintro e w1 ⟨⟨v, rfl, hr⟩, B1⟩
  obtain ⟨g, cap, rfl⟩ : ∃ g cap, v = .slice (some ⟨g, 0, none⟩) 1 cap := by
    rcases hr.2 with ⟨_, h⟩ | ⟨g, cap, _, h, _⟩
    · cases h
    · exact ⟨g, cap, h⟩
  have hg := (World.ownsRow.lt hr g rfl).2
  have hc : w1.cell? ⟨g, 0, none⟩ = some (.string ⟨#[114, 51, 46, 48]⟩) := hr.cellAt 0 (by decide)
  clear hr
  go_wp2_with fail
  refine (nnNew_any _).mono ?_
  rintro e w2 ⟨⟨p, rfl⟩, B⟩
  have hc2 : w2.cell? ⟨g, 0, none⟩ = some (.string ⟨#[114, 51, 46, 48]⟩) := (B.cell (p := ⟨g, 0, none⟩) hg).trans hc
  have hg2 := Nat.lt_of_lt_of_le hg B.size
  have B2 := B1.trans (B.mono B1.size)
  clear B B1 hc hg
  go_wp2_with fail
  refine (nnWrite_bad p _).mono ?_
  rintro e w3 ⟨rfl, B⟩
  have hc3 : w3.cell? ⟨g, 0, none⟩ = some (.string ⟨#[114, 51, 46, 48]⟩) := (B.cell (p := ⟨g, 0, none⟩) hg2).trans hc2
  have B3 := B2.trans (B.mono B2.size)
  clear B B2 hc2 hg2
  go_wp2_with (go_at_call 7; refine (nnNum_any _ _).mono ?_; rintro e w' ⟨rfl, rfl⟩)
  go_ret
  exact ⟨rfl, B3⟩
end Go.Proofs.YteeopbeeegfomaaGreatDoor
