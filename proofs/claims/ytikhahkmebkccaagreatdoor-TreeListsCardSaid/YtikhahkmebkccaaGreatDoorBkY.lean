/- Contract of the law's begun. Conditions: each theorem's own hypotheses. -/
import Derived.Test.YtikhahkmebkccaaGreatDoorBkX
namespace Go.Proofs.YtikhahkmebkccaaGreatDoor
open Go.RowKit Go.Maps Go.Sort Go.Shelf
set_option linter.unusedVariables false
set_option linter.unusedSimpArgs false

/-- Amid begun: a tree of its own. -/
structure Bk.Bg (W : World) (t : Nat) (T : Bk.T) (F : Nat → Prop) (w : World) : Prop where
  tree : Bk.Tree w t T F
  tab : TabO w
  bel : Below W.heap.size W w
  ge : ∀ k, F k → W.heap.size ≤ k
section
variable {W w w' : World} {t : Nat} {T T' : Bk.T} {F : Nat → Prop}
theorem Bk.Bg.later (h : Bk.Bg W t T F w) (hb : Below w.heap.size w w') : Bk.Bg W t T F w' := ⟨h.tree.later hb (Nat.le_refl _), h.tab.below hb (Nat.le_refl _), h.bel.trans (hb.mono h.bel.size), h.ge⟩
theorem Bk.Bg.led (h : Bk.Bg W t T F w) (hl : Bk.Led w t F T' w') : ∃ F', Bk.Bg W t T' F' w' := by
  obtain ⟨F', h1, h2, h3, h4⟩ := hl
  refine ⟨F', h1, h4, h.bel.trans (h2.below h.bel.size h.ge), fun k hk => ?_⟩
  rcases h3 k hk with h5 | h5
  · exact h.ge k h5
  · have := h.bel.size; omega
theorem Bk.Bg.sought (h : Bk.Bg W t T F w) (h1 : Bk.Tree w' t T' F) (h2 : Bk.Only F w w') (h3 : TabO w') : Bk.Bg W t T' F w' := ⟨h1, h3, h.bel.trans (h2.below h.bel.size h.ge), h.ge⟩
theorem Bk.Bg.add0 (h : Bk.Bg W t ⟨64, [], 0⟩ F w) : Calls Tryz.prog 13 #[.pointer (some ⟨t, 0, none⟩), .string (Bk.cod 0)] w fun e w' => e = .returned (.tuple #[.bool true, .int .i64 0]) ∧ ∃ F', Bk.Bg W t ⟨64, Bk.l0, 0⟩ F' w' := by
  have hx := h.tree.add h.tab (by decide) (Bk.cod 0) (by decide)
  rw [show (Bk.cod 0).data.toList = [0, 0, 0, 0, 0, 0, 0, 0] from rfl, Bk.beg0] at hx
  exact hx.mono fun e w' hy => ⟨hy.1, h.led hy.2⟩
theorem Bk.Bg.add1 (h : Bk.Bg W t ⟨64, Bk.l0, 0⟩ F w) : Calls Tryz.prog 13 #[.pointer (some ⟨t, 0, none⟩), .string (Bk.cod 1)] w fun e w' => e = .returned (.tuple #[.bool true, .int .i64 0]) ∧ ∃ F', Bk.Bg W t ⟨64, Bk.l1, 0⟩ F' w' := by
  have hx := h.tree.add h.tab (by decide) (Bk.cod 1) (by decide)
  rw [show (Bk.cod 1).data.toList = [0, 0, 0, 0, 0, 0, 0, 1] from rfl, Bk.beg1] at hx
  exact hx.mono fun e w' hy => ⟨hy.1, h.led hy.2⟩
theorem Bk.Bg.add7 (h : Bk.Bg W t ⟨64, Bk.l1, 0⟩ F w) : Calls Tryz.prog 13 #[.pointer (some ⟨t, 0, none⟩), .string (Bk.cod 7)] w fun e w' => e = .returned (.tuple #[.bool true, .int .i64 0]) ∧ ∃ F', Bk.Bg W t ⟨64, Bk.l7, 0⟩ F' w' := by
  have hx := h.tree.add h.tab (by decide) (Bk.cod 7) (by decide)
  rw [show (Bk.cod 7).data.toList = [0, 0, 0, 0, 0, 0, 0, 7] from rfl, Bk.beg7] at hx
  exact hx.mono fun e w' hy => ⟨hy.1, h.led hy.2⟩
/-- A row of two hits of which no tree's block is one. -/
structure Bk.Two (w : World) (F : Nat → Prop) (v : Value) (x y : Bk.H) : Prop where
  row : w.ownsRow 0 61 3 v 2 (Bk.hcs [x, y])
  off : ∀ k, v.ownBlock = some k → ¬ F k
theorem Bk.Two.keep {v : Value} {x y : Bk.H} (h : Bk.Two w F v x y) (ho : Bk.Only F w w') : Bk.Two w' F v x y := ⟨Bk.own_of h.row fun k hk => ho.block k (h.row.lt k hk).2 (h.off k hk), h.off⟩
theorem Bk.Two.form {v : Value} {x y : Bk.H} (h : Bk.Two w F v x y) : ∃ g cap, v = .slice (some ⟨g, 0, none⟩) 2 cap ∧ 2 ≤ cap ∧ cap ≤ maxLen ∧ w.cell? ⟨g, 0, none⟩ = some (.int .i64 (x.d : Nat)) ∧ w.cell? ⟨g, 2, none⟩ = some (Tx.v x.c) ∧ w.cell? ⟨g, 3, none⟩ = some (.int .i64 (y.d : Nat)) ∧ w.cell? ⟨g, 5, none⟩ = some (Tx.v y.c) := by
  rcases h.row.2 with ⟨h', h0⟩ | ⟨g, cap', cur, h', hb, hg, h1, h2, _⟩
  · cases h0
  · subst h'
    have r := h.row
    obtain ⟨a0, a1, a2⟩ := Bk.row3 (C := [x, y]) r (j := 0) rfl
    obtain ⟨b0, b1, b2⟩ := Bk.row3 (C := [x, y]) r (j := 1) rfl
    exact ⟨g, cap', rfl, h1, h2, a0, a2, b0, b2⟩
theorem Bk.Bg.within0 (h : Bk.Bg W t ⟨64, Bk.l7, 0⟩ F w) : Calls Tryz.prog 16 #[.pointer (some ⟨t, 0, none⟩), .string (Bk.cod 0), .int .i64 1] w fun e w' => ∃ v, e = .returned (.tuple #[v, .int .i64 0]) ∧ Bk.Bg W t ⟨64, Bk.l7, 2⟩ F w' ∧ Bk.Two w' F v ⟨0, [0, 0, 0, 0, 0, 0, 0, 0]⟩ ⟨1, [0, 0, 0, 0, 0, 0, 0, 1]⟩ := by
  have hx := h.tree.within h.tab (by decide) (Bk.cod 0) (by decide) 1
  rw [show (Bk.cod 0).data.toList = [0, 0, 0, 0, 0, 0, 0, 0] from rfl, Bk.begw] at hx
  exact hx.mono fun e w' ⟨v, h1, h2, h3, h4, h5⟩ => ⟨v, h1, h.sought h3 h4 h5, Bk.own_base h2 (Nat.zero_le _), fun k hk hf => by have := (h2.lt k hk).1; have := h.tree.at'.lt hf; omega⟩
theorem Bk.Bg.nearest3 (h : Bk.Bg W t ⟨64, Bk.l7, 2⟩ F w) : Calls Tryz.prog 18 #[.pointer (some ⟨t, 0, none⟩), .string (Bk.cod 3), .int .i64 1] w fun e w' => ∃ v, e = .returned (.tuple #[v, .int .i64 0]) ∧ Bk.Bg W t ⟨64, Bk.l7, 5⟩ F w' ∧ Bk.Two w' F v ⟨1, [0, 0, 0, 0, 0, 0, 0, 1]⟩ ⟨1, [0, 0, 0, 0, 0, 0, 0, 7]⟩ ∧ Bk.Only F w w' := by
  have hx := h.tree.nearest h.tab (by decide) (Bk.cod 3) (by decide) 1
  rw [show (Bk.cod 3).data.toList = [0, 0, 0, 0, 0, 0, 0, 3] from rfl, Bk.begn] at hx
  exact hx.mono fun e w' ⟨v, h1, h2, h3, h4, h5⟩ => ⟨v, h1, h.sought h3 h4 h5, ⟨Bk.own_base h2 (Nat.zero_le _), fun k hk hf => by have := (h2.lt k hk).1; have := h.tree.at'.lt hf; omega⟩, h4⟩
theorem Bk.Bg.looked5 (h : Bk.Bg W t ⟨64, Bk.l7, 5⟩ F w) : Calls Tryz.prog 17 #[.pointer (some ⟨t, 0, none⟩)] w fun e w' => e = .returned (.int .i64 5) ∧ w = w' := Bk.looked_any h.tree.at'
end
theorem Bk.cod_c (c : UInt8) : Tx.v [0, 0, 0, 0, 0, 0, 0, c] = .string (Bk.cod c) := rfl
structure Bk.C4 (a b : Nat) (w : World) : Prop where
  a3 : w.cell? ⟨a, 3, none⟩ = some (.int .i64 1)
  a5 : w.cell? ⟨a, 5, none⟩ = some (.string (Bk.cod 1))
  b2 : w.cell? ⟨b, 2, none⟩ = some (.string (Bk.cod 1))
  b5 : w.cell? ⟨b, 5, none⟩ = some (.string (Bk.cod 7))
theorem Bk.C4.later {a b : Nat} {w w' : World} (h : Bk.C4 a b w) (hb : Below w.heap.size w w') : Bk.C4 a b w' :=
  ⟨(hb.cell (World.block_lt_of_cell? w _ h.a3)).trans h.a3, (hb.cell (World.block_lt_of_cell? w _ h.a5)).trans h.a5, (hb.cell (World.block_lt_of_cell? w _ h.b2)).trans h.b2, (hb.cell (World.block_lt_of_cell? w _ h.b5)).trans h.b5⟩
end Go.Proofs.YtikhahkmebkccaaGreatDoor
