/- Contract of the law's begun. Conditions: each theorem's own hypotheses. -/
import Derived.Test.YtikhahkmebkccaaDoorBkX
namespace Go.Proofs.YtikhahkmebkccaaDoor
open Go.RowKit Go.Maps Go.Sort Go.Shelf
set_option linter.unusedVariables false
set_option linter.unusedSimpArgs false

/-- Amid begun: a tree of its own. -/
structure Bk.Bg (W : World) (t : Nat) (T : Bk.T) (F : Nat → Prop) (w : World) : Prop where
  tree : Bk.Tree w t T F
  tab : TabO w
  bel : Below W.heap.size W w
  ge : ∀ k, F k → W.heap.size ≤ k
section
variable {W w w' : World} {t : Nat} {T T' : Bk.T} {F : Nat → Prop}
theorem Bk.Bg.later (h : Bk.Bg W t T F w) (hb : Below w.heap.size w w') : Bk.Bg W t T F w' := ⟨h.tree.later hb (Nat.le_refl _), h.tab.below hb (Nat.le_refl _), h.bel.trans (hb.mono h.bel.size), h.ge⟩
theorem Bk.Bg.led (h : Bk.Bg W t T F w) (hl : Bk.Led w t F T' w') : ∃ F', Bk.Bg W t T' F' w' := by
  obtain ⟨F', h1, h2, h3, h4⟩ := hl
  refine ⟨F', h1, h4, h.bel.trans (h2.below h.bel.size h.ge), fun k hk => ?_⟩
  rcases h3 k hk with h5 | h5
  · exact h.ge k h5
  · have := h.bel.size; omega
theorem Bk.Bg.sought (h : Bk.Bg W t T F w) (h1 : Bk.Tree w' t T' F) (h2 : Bk.Only F w w') (h3 : TabO w') : Bk.Bg W t T' F w' := ⟨h1, h3, h.bel.trans (h2.below h.bel.size h.ge), h.ge⟩
theorem Bk.Bg.add0 (h : Bk.Bg W t ⟨64, [], 0⟩ F w) : Calls Tryd.prog 8 #[.pointer (some ⟨t, 0, none⟩), .string (Bk.cod 0)] w fun e w' => e = .returned (.tuple #[.bool true, .int .i64 0]) ∧ ∃ F', Bk.Bg W t ⟨64, Bk.l0, 0⟩ F' w' := by
  have hx := h.tree.add h.tab (by decide) (Bk.cod 0) (by decide)
  rw [show (Bk.cod 0).data.toList = [0, 0, 0, 0, 0, 0, 0, 0] from rfl, Bk.beg0] at hx
  exact hx.mono fun e w' hy => ⟨hy.1, h.led hy.2⟩
theorem Bk.Bg.add1 (h : Bk.Bg W t ⟨64, Bk.l0, 0⟩ F w) : Calls Tryd.prog 8 #[.pointer (some ⟨t, 0, none⟩), .string (Bk.cod 1)] w fun e w' => e = .returned (.tuple #[.bool true, .int .i64 0]) ∧ ∃ F', Bk.Bg W t ⟨64, Bk.l1, 0⟩ F' w' := by
  have hx := h.tree.add h.tab (by decide) (Bk.cod 1) (by decide)
  rw [show (Bk.cod 1).data.toList = [0, 0, 0, 0, 0, 0, 0, 1] from rfl, Bk.beg1] at hx
  exact hx.mono fun e w' hy => ⟨hy.1, h.led hy.2⟩
theorem Bk.Bg.add7 (h : Bk.Bg W t ⟨64, Bk.l1, 0⟩ F w) : Calls Tryd.prog 8 #[.pointer (some ⟨t, 0, none⟩), .string (Bk.cod 7)] w fun e w' => e = .returned (.tuple #[.bool true, .int .i64 0]) ∧ ∃ F', Bk.Bg W t ⟨64, Bk.l7, 0⟩ F' w' := by
  have hx := h.tree.add h.tab (by decide) (Bk.cod 7) (by decide)
  rw [show (Bk.cod 7).data.toList = [0, 0, 0, 0, 0, 0, 0, 7] from rfl, Bk.beg7] at hx
  exact hx.mono fun e w' hy => ⟨hy.1, h.led hy.2⟩
/-- A row of two hits of which no tree's block is one. -/
structure Bk.Two (w : World) (F : Nat → Prop) (v : Value) (x y : Bk.H) : Prop where
  row : w.ownsRow 0 36 3 v 2 (Bk.hcs [x, y])
  off : ∀ k, v.ownBlock = some k → ¬ F k
theorem Bk.Two.keep {v : Value} {x y : Bk.H} (h : Bk.Two w F v x y) (ho : Bk.Only F w w') : Bk.Two w' F v x y := ⟨Bk.own_of h.row fun k hk => ho.block k (h.row.lt k hk).2 (h.off k hk), h.off⟩
theorem Bk.Two.form {v : Value} {x y : Bk.H} (h : Bk.Two w F v x y) : ∃ g cap, v = .slice (some ⟨g, 0, none⟩) 2 cap ∧ 2 ≤ cap ∧ cap ≤ maxLen ∧ w.cell? ⟨g, 0, none⟩ = some (.int .i64 (x.d : Nat)) ∧ w.cell? ⟨g, 2, none⟩ = some (Tx.v x.c) ∧ w.cell? ⟨g, 3, none⟩ = some (.int .i64 (y.d : Nat)) ∧ w.cell? ⟨g, 5, none⟩ = some (Tx.v y.c) := by
  rcases h.row.2 with ⟨h', h0⟩ | ⟨g, cap', cur, h', hb, hg, h1, h2, _⟩
  · cases h0
  · subst h'
    have r := h.row
    obtain ⟨a0, a1, a2⟩ := Bk.row3 (C := [x, y]) r (j := 0) rfl
    obtain ⟨b0, b1, b2⟩ := Bk.row3 (C := [x, y]) r (j := 1) rfl
    exact ⟨g, cap', rfl, h1, h2, a0, a2, b0, b2⟩
theorem Bk.Bg.within0 (h : Bk.Bg W t ⟨64, Bk.l7, 0⟩ F w) : Calls Tryd.prog 13 #[.pointer (some ⟨t, 0, none⟩), .string (Bk.cod 0), .int .i64 1] w fun e w' => ∃ v, e = .returned (.tuple #[v, .int .i64 0]) ∧ Bk.Bg W t ⟨64, Bk.l7, 2⟩ F w' ∧ Bk.Two w' F v ⟨0, [0, 0, 0, 0, 0, 0, 0, 0]⟩ ⟨1, [0, 0, 0, 0, 0, 0, 0, 1]⟩ := by
  have hx := h.tree.within h.tab (by decide) (Bk.cod 0) (by decide) 1
  rw [show (Bk.cod 0).data.toList = [0, 0, 0, 0, 0, 0, 0, 0] from rfl, Bk.begw] at hx
  exact hx.mono fun e w' ⟨v, h1, h2, h3, h4, h5⟩ => ⟨v, h1, h.sought h3 h4 h5, Bk.own_base h2 (Nat.zero_le _), fun k hk hf => by have := (h2.lt k hk).1; have := h.tree.at'.lt hf; omega⟩
theorem Bk.Bg.nearest3 (h : Bk.Bg W t ⟨64, Bk.l7, 2⟩ F w) : Calls Tryd.prog 14 #[.pointer (some ⟨t, 0, none⟩), .string (Bk.cod 3), .int .i64 1] w fun e w' => ∃ v, e = .returned (.tuple #[v, .int .i64 0]) ∧ Bk.Bg W t ⟨64, Bk.l7, 5⟩ F w' ∧ Bk.Two w' F v ⟨1, [0, 0, 0, 0, 0, 0, 0, 1]⟩ ⟨1, [0, 0, 0, 0, 0, 0, 0, 7]⟩ ∧ Bk.Only F w w' := by
  have hx := h.tree.nearest h.tab (by decide) (Bk.cod 3) (by decide) 1
  rw [show (Bk.cod 3).data.toList = [0, 0, 0, 0, 0, 0, 0, 3] from rfl, Bk.begn] at hx
  exact hx.mono fun e w' ⟨v, h1, h2, h3, h4, h5⟩ => ⟨v, h1, h.sought h3 h4 h5, ⟨Bk.own_base h2 (Nat.zero_le _), fun k hk hf => by have := (h2.lt k hk).1; have := h.tree.at'.lt hf; omega⟩, h4⟩
theorem Bk.Bg.looked5 (h : Bk.Bg W t ⟨64, Bk.l7, 5⟩ F w) : Calls Tryd.prog 22 #[.pointer (some ⟨t, 0, none⟩)] w fun e w' => e = .returned (.int .i64 5) ∧ w = w' := Bk.looked_any h.tree.at'
end
theorem Bk.cod_c (c : UInt8) : Tx.v [0, 0, 0, 0, 0, 0, 0, c] = .string (Bk.cod c) := rfl
structure Bk.C4 (a b : Nat) (w : World) : Prop where
  a3 : w.cell? ⟨a, 3, none⟩ = some (.int .i64 1)
  a5 : w.cell? ⟨a, 5, none⟩ = some (.string (Bk.cod 1))
  b2 : w.cell? ⟨b, 2, none⟩ = some (.string (Bk.cod 1))
  b5 : w.cell? ⟨b, 5, none⟩ = some (.string (Bk.cod 7))
theorem Bk.C4.later {a b : Nat} {w w' : World} (h : Bk.C4 a b w) (hb : Below w.heap.size w w') : Bk.C4 a b w' :=
  ⟨(hb.cell (World.block_lt_of_cell? w _ h.a3)).trans h.a3, (hb.cell (World.block_lt_of_cell? w _ h.a5)).trans h.a5, (hb.cell (World.block_lt_of_cell? w _ h.b2)).trans h.b2, (hb.cell (World.block_lt_of_cell? w _ h.b5)).trans h.b5⟩
set_option maxRecDepth 100000 in
set_option maxHeartbeats 16000000 in
theorem Bk.begun_any {W : World} (hT : TabO W) : Calls Tryd.prog 6 #[] W fun e W' => e = .returned (.bool true) ∧ Below W.heap.size W W' := by
  have hnew := Bk.new_tree 64 (by decide) W hT
  have hcod := @Bk.coded_any
  go_enter Tryd.func6, Tryd.ntmps6
  go_upto_region 4 with (go_at_call 7; refine hnew.mono ?_; clear hnew; rintro e w0 ⟨t, F0, rfl, h1, h2, h3, h4⟩; have g0 : Bk.Bg W t ⟨64, [], 0⟩ F0 w0 := ⟨h1, h4, h2, h3⟩; clear h1 h2 h3 h4)
  go_upto_region 5 with (first | (go_at_call 8; refine (Bk.Bg.add0 g1).mono ?_; clear g1; rintro e w2 ⟨rfl, F2, g2⟩) | (go_at_call 24; refine (Bk.coded_any 0 _).mono ?_; rintro e w1 ⟨rfl, hb1⟩; have g1 := g0.later hb1; clear g0 hb1))
  go_upto_region 6 with (first | (go_at_call 8; refine (Bk.Bg.add1 g3).mono ?_; clear g3; rintro e w4 ⟨rfl, F4, g4⟩) | (go_at_call 24; refine (Bk.coded_any 1 _).mono ?_; rintro e w3 ⟨rfl, hb3⟩; have g3 := g2.later hb3; clear g2 hb3))
  go_upto_region 7 with (first | (go_at_call 8; refine (Bk.Bg.add7 g5).mono ?_; clear g5; rintro e w6 ⟨rfl, F6, g6⟩) | (go_at_call 24; refine (Bk.coded_any 7 _).mono ?_; rintro e w5 ⟨rfl, hb5⟩; have g5 := g4.later hb5; clear g4 hb5))
  go_upto_region 8 with (first | (go_at_call 13; refine (Bk.Bg.within0 g7).mono ?_; clear g7; rintro e w8 ⟨v, rfl, g8, r8⟩) | (go_at_call 24; refine (Bk.coded_any 0 _).mono ?_; rintro e w7 ⟨rfl, hb7⟩; have g7 := g6.later hb7; clear g6 hb7))
  go_upto_region 9 with (first | (go_at_call 14; refine (Bk.Bg.nearest3 g9).mono ?_; clear g9; rintro e w10 ⟨u, rfl, g10, r10, o10⟩; have q10 := r9.keep o10; clear r9 o10) | (go_at_call 24; refine (Bk.coded_any 3 _).mono ?_; rintro e w9 ⟨rfl, hb9⟩; have g9 := g8.later hb9; have r9 := r8.keep (.of hb9); clear g8 hb9 r8))
  obtain ⟨a, ca, rfl, ha1, ha2, a0, a2, a3, a5⟩ := q10.form
  obtain ⟨b, cb, rfl, hb1, hb2, b0, b2, b3, b5⟩ := r10.form
  simp only [Bk.cod_c] at a2 a5 b2 b5
  go_upto_region 11 with (go_at_call 22; refine g10.looked5.mono ?_; rintro e w11 ⟨rfl, rfl⟩)
  have C4 : Bk.C4 a b w10.drew := ⟨a3, a5, b2, b5⟩
  have hbel : Below W.heap.size W w10.drew := below_dn g10.bel 1
  clear q10 r10 g10 hT hcod a0 a2 b0 b3
  go_region_with (go_at_call 24; (first | refine (Bk.coded_any 1 _).mono ?_ | refine (Bk.coded_any 7 _).mono ?_); rintro e wx ⟨rfl, hbx⟩; have hbel := hbel.trans (hbx.mono hbel.size); have C4 := C4.later hbx; have a3 := C4.a3; have a5 := C4.a5; have b2 := C4.b2; have b5 := C4.b5)
  all_goals (go_wp2_with fail; go_ret; exact ⟨rfl, hbel⟩)
end Go.Proofs.YtikhahkmebkccaaDoor
