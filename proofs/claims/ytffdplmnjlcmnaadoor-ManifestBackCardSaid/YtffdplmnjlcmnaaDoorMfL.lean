/- The law's helper twin, for manifests: its contract. Conditions: each theorem's own hypotheses. -/
import Derived.Test.YtffdplmnjlcmnaaDoorMfK
namespace Go.Proofs.YtffdplmnjlcmnaaDoor
open Go.RowKit Go.Maps
set_option linter.unusedVariables false

theorem own_keep {w w' : World} {base base' n size : Nat} {e : TypeId} {v : Value} {xs : List Value} (h : w.ownsRow base e size v n xs) (hb : base' ≤ base) (hk : ∀ k, base ≤ k → k < w.heap.size → w'.heap[k]? = w.heap[k]?) : w'.ownsRow base' e size v n xs := by
  refine ⟨h.1, h.2.imp id ?_⟩
  rintro ⟨g, cap, cur, h1, h2, h3, h4⟩
  refine ⟨g, cap, cur, h1, Nat.le_trans hb h2, (hk g h2 ?_).trans h3, h4⟩
  rcases Nat.lt_or_ge g w.heap.size with h' | h'
  · exact h'
  · rw [Array.getElem?_eq_none h'] at h3; cases h3
theorem own_cap {w : World} {base g n cap size : Nat} {e : TypeId} {xs : List Value} (h : w.ownsRow base e size (.slice (some ⟨g, 0, none⟩) (n + 1) cap) (n + 1) xs) : n ≤ cap := by
  rcases h.2 with ⟨h, _⟩ | ⟨g', cap', cur, hv, _, _, hc, _⟩
  · cases h
  · cases hv; omega
set_option maxRecDepth 100000 in
set_option maxHeartbeats 1000000 in
theorem twin_some (M : Man) (ad : Addr) (c : Nat) (w : World) (H : Rs w w.heap.size (some ad) M.runs) (hm : (M.runs.length + 1) * 32 ≤ 140737488355328) :
    Calls Tryd.prog 11 #[manV M (some ad) c] w fun e w' => (∃ g cap, e = .returned (manV M (some ⟨g, 0, none⟩) cap) ∧ Own w' w.heap.size g cap (M.runs ++ [mark])) ∧ Below w.heap.size w w' := by
  obtain ⟨i0, hi, hz0, hz1, hz2⟩ := info_parts infoRun
  unfold manV
  go_enter Tryd.func11, Tryd.ntmps11
  have hk1 : ∀ o : Obj, (w.alloc o).heap.size = w.heap.size + 1 := fun o => by simp
  have hW : ∃ W, (w.alloc (.cells (manCells M (some ad) c) 26)).alloc (.cells zeroMan 26) = W := ⟨_, rfl⟩
  obtain ⟨W, hW⟩ := hW
  have hb0 : Blk W w.heap.size 26 (manCells M (some ad) c) := by rw [← hW]; exact (Blk.new w _ _).alloc _
  have hb1 : Blk W (w.heap.size + 1) 26 zeroMan := by rw [← hW, ← hk1]; exact Blk.new _ _ _
  have hs : W.heap.size = w.heap.size + 2 := by rw [← hW]; simp
  have BW : Below w.heap.size w W := by rw [← hW]; exact ((Below.refl _ _).alloc (Nat.le_refl _) _).alloc (by simp) _
  have hnil := World.ownsRow_nil W W.heap.size 38 4
  have HW := (H.below BW).more BW.size
  unfold manCells zeroMan at hW
  have HWH := Lib.hid hW
  clear hW
  have c6 : W.cell? ⟨w.heap.size, 6, none⟩ = some (.slice (some ad) M.runs.length c) := hb0.cell 6
  have hn2 : M.runs.length + 1 ≤ 4398046511104 := by omega
  go_wp2_with (first
    | (at_builtin; rw [HWH.out]; refine wpList_append_own _ rfl (.const (.slice none 0 0)) (.tmp 6) 24 rfl W.heap.size 38 i0 (.agg #[.int .i64 0, .int .i64 0, .int .i64 0, .int .i64 0]) 4 32 Tryd.underlying24 hi hz0 hz1 hz2 rfl (by decide) _ _ _ rfl hnil ad M.runs.length c (cellsOf M.runs) rfl (cellsOf_len _) HW.cells (cellsOf_one _) (by unfold maxLen; omega) (by omega) (Nat.le_refl _) ?_; intro v1 w1 hown1 hgrow1 _; simp only [Nat.zero_add, List.nil_append] at hown1; have g1 : W.grownBy w1 none := hgrow1; clear hgrow1; have hd0 := hb0.grown g1 (by simp); have hd1 := hb1.grown g1 (by simp))
    | (at_builtin; refine wpList_append_own _ rfl (.tmp 8) (.tmp 10) 24 rfl W.heap.size 38 i0 (.agg #[.int .i64 0, .int .i64 0, .int .i64 0, .int .i64 0]) 4 32 Tryd.underlying24 hi hz0 hz1 hz2 rfl (by decide) _ _ _ rfl (hown1.alloc _) ⟨w1.heap.size, 0, none⟩ 1 1 (cellsOf [mark]) rfl rfl (mark_cells w1) (cellsOf_one _) (by unfold maxLen; omega) (by omega) (by have := g1.size; simp; omega) ?_; intro v2 w2 hown2 hgrow2 _; obtain ⟨g, cap, rfl, hc1, hc2⟩ := hown2.form (by omega);
       have hf0 : Blk w2 w.heap.size 26 (manCells M (some ad) c) := (hd0.alloc _).grown hgrow2 (fun e => by have := (hown1.lt _ e.symm).1; omega);
       have hf1 : Blk w2 (w.heap.size + 1) 26 zeroMan := (hd1.alloc _).grown hgrow2 (fun e => by have := (hown1.lt _ e.symm).1; omega);
       have c0 : w2.cell? ⟨w.heap.size, 0, none⟩ = some (.int .i64 M.w) := hf0.cell 0;
       have c1 : w2.cell? ⟨w.heap.size, 1, none⟩ = some (.int .i64 M.c) := hf0.cell 1;
       have c2 : w2.cell? ⟨w.heap.size, 2, none⟩ = some (.int .i64 M.m) := hf0.cell 2;
       have c3 : w2.cell? ⟨w.heap.size, 3, none⟩ = some (.int .i64 M.seq) := hf0.cell 3;
       have c4 : w2.cell? ⟨w.heap.size, 4, none⟩ = some (.int .i64 M.next) := hf0.cell 4;
       have c5 : w2.cell? ⟨w.heap.size, 5, none⟩ = some (.int .i64 M.jr) := hf0.cell 5;
       have c6 : w2.cell? ⟨w.heap.size, 6, none⟩ = some (.slice (some ad) M.runs.length c) := hf0.cell 6;
       have d6 : ∀ o : Obj, (w2.alloc o).cell? ⟨w.heap.size, 6, none⟩ = some (.slice (some ad) M.runs.length c) := fun o => (hf0.alloc o).cell 6;
       have x0 : ∀ o : Obj, (w2.alloc o).cell? ⟨w.heap.size + 1, 0, none⟩ = some (.int .i64 0) := fun o => (hf1.alloc o).cell 0;
       have f0 : ∀ o : Obj, (w2.alloc o).frozen? ⟨w.heap.size + 1, 0, none⟩ = false := fun o => (hf1.alloc o).frozen 0;
       have x1 : ∀ o : Obj, (w2.alloc o).cell? ⟨w.heap.size + 1, 1, none⟩ = some (.int .i64 0) := fun o => (hf1.alloc o).cell 1;
       have f1 : ∀ o : Obj, (w2.alloc o).frozen? ⟨w.heap.size + 1, 1, none⟩ = false := fun o => (hf1.alloc o).frozen 1;
       have x2 : ∀ o : Obj, (w2.alloc o).cell? ⟨w.heap.size + 1, 2, none⟩ = some (.int .i64 0) := fun o => (hf1.alloc o).cell 2;
       have f2 : ∀ o : Obj, (w2.alloc o).frozen? ⟨w.heap.size + 1, 2, none⟩ = false := fun o => (hf1.alloc o).frozen 2;
       have x3 : ∀ o : Obj, (w2.alloc o).cell? ⟨w.heap.size + 1, 3, none⟩ = some (.int .i64 0) := fun o => (hf1.alloc o).cell 3;
       have f3 : ∀ o : Obj, (w2.alloc o).frozen? ⟨w.heap.size + 1, 3, none⟩ = false := fun o => (hf1.alloc o).frozen 3;
       have x4 : ∀ o : Obj, (w2.alloc o).cell? ⟨w.heap.size + 1, 4, none⟩ = some (.int .i64 0) := fun o => (hf1.alloc o).cell 4;
       have f4 : ∀ o : Obj, (w2.alloc o).frozen? ⟨w.heap.size + 1, 4, none⟩ = false := fun o => (hf1.alloc o).frozen 4;
       have x5 : ∀ o : Obj, (w2.alloc o).cell? ⟨w.heap.size + 1, 5, none⟩ = some (.int .i64 0) := fun o => (hf1.alloc o).cell 5;
       have f5 : ∀ o : Obj, (w2.alloc o).frozen? ⟨w.heap.size + 1, 5, none⟩ = false := fun o => (hf1.alloc o).frozen 5;
       have x6 : ∀ o : Obj, (w2.alloc o).cell? ⟨w.heap.size + 1, 6, none⟩ = some (.slice none 0 0) := fun o => (hf1.alloc o).cell 6;
       have f6 : ∀ o : Obj, (w2.alloc o).frozen? ⟨w.heap.size + 1, 6, none⟩ = false := fun o => (hf1.alloc o).frozen 6;
       have hcp : M.runs.length ≤ cap := own_cap hown2))
  have B1 : Below w.heap.size w w1 := BW.grown g1 BW.size (fun k e => by cases e)
  have B2 : Below w.heap.size w w2 := (B1.alloc B1.size _).grown hgrow2 (by have := B1.size; simp; omega) (fun k hk => by have := (hown1.lt k hk).1; omega)
  refine bodyPost_ret (v := manV M (some ⟨g, 0, none⟩) cap) (by unfold manV; simp [results, Tryd.results11, go_sem, x0, x1, x2, x3, x4, x5, x6]) rfl ⟨⟨g, cap, rfl, ?_⟩, ?_⟩
  · unfold Own
    rw [List.length_append, cellsOf_append]
    refine own_keep hown2 (by omega) fun k hk hl => ?_
    have hk2 : k ≠ w.heap.size + 1 := by omega
    iterate 7 refine (Below.heap_setCell _ _ _ k hk2).trans ?_
    exact Below.heap_alloc _ _ _ hl
  · exact (((((((B2.alloc B2.size _).setCell (p := ⟨w.heap.size + 1, 0, none⟩) (Nat.le_succ _) _).setCell (p := ⟨w.heap.size + 1, 1, none⟩) (Nat.le_succ _) _).setCell (p := ⟨w.heap.size + 1, 2, none⟩) (Nat.le_succ _) _).setCell (p := ⟨w.heap.size + 1, 3, none⟩) (Nat.le_succ _) _).setCell (p := ⟨w.heap.size + 1, 4, none⟩) (Nat.le_succ _) _).setCell (p := ⟨w.heap.size + 1, 5, none⟩) (Nat.le_succ _) _).setCell (p := ⟨w.heap.size + 1, 6, none⟩) (Nat.le_succ _) _

set_option maxRecDepth 100000 in
set_option maxHeartbeats 1000000 in
theorem twin_nil (M : Man) (w : World) (hr : M.runs = []) :
    Calls Tryd.prog 11 #[manV M none 0] w fun e w' => (∃ g cap, e = .returned (manV M (some ⟨g, 0, none⟩) cap) ∧ Own w' w.heap.size g cap (M.runs ++ [mark])) ∧ Below w.heap.size w w' := by
  obtain ⟨i0, hi, hz0, hz1, hz2⟩ := info_parts infoRun
  have hl : M.runs.length = 0 := by rw [hr]; rfl
  have hmc : manCells M none 0 = #[.int .i64 M.w, .int .i64 M.c, .int .i64 M.m, .int .i64 M.seq, .int .i64 M.next, .int .i64 M.jr, .slice none 0 0] := by unfold manCells; rw [hl]
  obtain ⟨MC, hMC⟩ : ∃ MC, manCells M none 0 = MC := ⟨_, rfl⟩
  rw [hMC] at hmc
  have HR := Lib.hid hr
  have HL := Lib.hid hl
  unfold manV
  simp only [hl, hr]
  clear hr hl
  go_enter Tryd.func11, Tryd.ntmps11
  have hk1 : ∀ o : Obj, (w.alloc o).heap.size = w.heap.size + 1 := fun o => by simp
  have hW : ∃ W, (w.alloc (.cells (MC) 26)).alloc (.cells zeroMan 26) = W := ⟨_, rfl⟩
  obtain ⟨W, hW⟩ := hW
  have hb0 : Blk W w.heap.size 26 (MC) := by rw [← hW]; exact (Blk.new w _ _).alloc _
  have hb1 : Blk W (w.heap.size + 1) 26 zeroMan := by rw [← hW, ← hk1]; exact Blk.new _ _ _
  have hs : W.heap.size = w.heap.size + 2 := by rw [← hW]; simp
  have BW : Below w.heap.size w W := by rw [← hW]; exact ((Below.refl _ _).alloc (Nat.le_refl _) _).alloc (by simp) _
  have hnil := World.ownsRow_nil W W.heap.size 38 4
  rw [hmc] at hW
  unfold zeroMan at hW
  have HWH := Lib.hid hW
  have HS := Lib.hid hs
  clear hW hs
  rw [hmc] at hb0
  have c6 : W.cell? ⟨w.heap.size, 6, none⟩ = some (.slice none 0 0) := hb0.cell 6
  go_wp2_with (first
    | (at_builtin; rw [HWH.out]; refine wpList_append_own_none rfl (.const (.slice none 0 0)) (.tmp 6) 24 rfl W.heap.size 38 i0 4 Tryd.underlying24 hi _ _ _ rfl hnil rfl ?_)
    | (at_builtin; refine wpList_append_own _ rfl (.tmp 8) (.tmp 10) 24 rfl W.heap.size 38 i0 (.agg #[.int .i64 0, .int .i64 0, .int .i64 0, .int .i64 0]) 4 32 Tryd.underlying24 hi hz0 hz1 hz2 rfl (by decide) _ _ _ rfl (hnil.alloc _) ⟨W.heap.size, 0, none⟩ 1 1 (cellsOf [mark]) rfl rfl (mark_cells W) (cellsOf_one _) (by unfold maxLen; omega) (by omega) (by simp) ?_; intro v2 w2 hown2 hgrow2 _; obtain ⟨g, cap, rfl, hc1, hc2⟩ := hown2.form (by omega);
       have hf0 : Blk w2 w.heap.size 26 #[.int .i64 M.w, .int .i64 M.c, .int .i64 M.m, .int .i64 M.seq, .int .i64 M.next, .int .i64 M.jr, .slice none 0 0] := (hb0.alloc _).grown hgrow2 (fun e => by have := (hnil.lt _ e.symm).1; have := HS.out; omega);
       have hf1 : Blk w2 (w.heap.size + 1) 26 zeroMan := (hb1.alloc _).grown hgrow2 (fun e => by have := (hnil.lt _ e.symm).1; have := HS.out; omega);
       have c0 : w2.cell? ⟨w.heap.size, 0, none⟩ = some (.int .i64 M.w) := hf0.cell 0;
       have c1 : w2.cell? ⟨w.heap.size, 1, none⟩ = some (.int .i64 M.c) := hf0.cell 1;
       have c2 : w2.cell? ⟨w.heap.size, 2, none⟩ = some (.int .i64 M.m) := hf0.cell 2;
       have c3 : w2.cell? ⟨w.heap.size, 3, none⟩ = some (.int .i64 M.seq) := hf0.cell 3;
       have c4 : w2.cell? ⟨w.heap.size, 4, none⟩ = some (.int .i64 M.next) := hf0.cell 4;
       have c5 : w2.cell? ⟨w.heap.size, 5, none⟩ = some (.int .i64 M.jr) := hf0.cell 5;
       have c6 : w2.cell? ⟨w.heap.size, 6, none⟩ = some (.slice none 0 0) := hf0.cell 6;
       have d6 : ∀ o : Obj, (w2.alloc o).cell? ⟨w.heap.size, 6, none⟩ = some (.slice none 0 0) := fun o => (hf0.alloc o).cell 6;
       have x0 : ∀ o : Obj, (w2.alloc o).cell? ⟨w.heap.size + 1, 0, none⟩ = some (.int .i64 0) := fun o => (hf1.alloc o).cell 0;
       have f0 : ∀ o : Obj, (w2.alloc o).frozen? ⟨w.heap.size + 1, 0, none⟩ = false := fun o => (hf1.alloc o).frozen 0;
       have x1 : ∀ o : Obj, (w2.alloc o).cell? ⟨w.heap.size + 1, 1, none⟩ = some (.int .i64 0) := fun o => (hf1.alloc o).cell 1;
       have f1 : ∀ o : Obj, (w2.alloc o).frozen? ⟨w.heap.size + 1, 1, none⟩ = false := fun o => (hf1.alloc o).frozen 1;
       have x2 : ∀ o : Obj, (w2.alloc o).cell? ⟨w.heap.size + 1, 2, none⟩ = some (.int .i64 0) := fun o => (hf1.alloc o).cell 2;
       have f2 : ∀ o : Obj, (w2.alloc o).frozen? ⟨w.heap.size + 1, 2, none⟩ = false := fun o => (hf1.alloc o).frozen 2;
       have x3 : ∀ o : Obj, (w2.alloc o).cell? ⟨w.heap.size + 1, 3, none⟩ = some (.int .i64 0) := fun o => (hf1.alloc o).cell 3;
       have f3 : ∀ o : Obj, (w2.alloc o).frozen? ⟨w.heap.size + 1, 3, none⟩ = false := fun o => (hf1.alloc o).frozen 3;
       have x4 : ∀ o : Obj, (w2.alloc o).cell? ⟨w.heap.size + 1, 4, none⟩ = some (.int .i64 0) := fun o => (hf1.alloc o).cell 4;
       have f4 : ∀ o : Obj, (w2.alloc o).frozen? ⟨w.heap.size + 1, 4, none⟩ = false := fun o => (hf1.alloc o).frozen 4;
       have x5 : ∀ o : Obj, (w2.alloc o).cell? ⟨w.heap.size + 1, 5, none⟩ = some (.int .i64 0) := fun o => (hf1.alloc o).cell 5;
       have f5 : ∀ o : Obj, (w2.alloc o).frozen? ⟨w.heap.size + 1, 5, none⟩ = false := fun o => (hf1.alloc o).frozen 5;
       have x6 : ∀ o : Obj, (w2.alloc o).cell? ⟨w.heap.size + 1, 6, none⟩ = some (.slice none 0 0) := fun o => (hf1.alloc o).cell 6;
       have f6 : ∀ o : Obj, (w2.alloc o).frozen? ⟨w.heap.size + 1, 6, none⟩ = false := fun o => (hf1.alloc o).frozen 6;
       have hcp : 0 ≤ cap := Nat.zero_le _))
  have hs := HS.out
  have B2 : Below w.heap.size w w2 := (BW.alloc BW.size _).grown hgrow2 (by have := BW.size; simp; omega) (fun k hk => by have := (hnil.lt k hk).1; omega)
  refine bodyPost_ret (v := .agg #[.int .i64 M.w, .int .i64 M.c, .int .i64 M.m, .int .i64 M.seq, .int .i64 M.next, .int .i64 M.jr, .slice (some ⟨g, 0, none⟩) 0 cap]) (by simp [results, Tryd.results11, go_sem, x0, x1, x2, x3, x4, x5, x6]) rfl ⟨⟨g, cap, rfl, ?_⟩, ?_⟩
  · unfold Own
    refine own_keep hown2 (by omega) fun k hk hl => ?_
    have hk2 : k ≠ w.heap.size + 1 := by omega
    iterate 7 refine (Below.heap_setCell _ _ _ k hk2).trans ?_
    exact Below.heap_alloc _ _ _ hl
  · exact (((((((B2.alloc B2.size _).setCell (p := ⟨w.heap.size + 1, 0, none⟩) (Nat.le_succ _) _).setCell (p := ⟨w.heap.size + 1, 1, none⟩) (Nat.le_succ _) _).setCell (p := ⟨w.heap.size + 1, 2, none⟩) (Nat.le_succ _) _).setCell (p := ⟨w.heap.size + 1, 3, none⟩) (Nat.le_succ _) _).setCell (p := ⟨w.heap.size + 1, 4, none⟩) (Nat.le_succ _) _).setCell (p := ⟨w.heap.size + 1, 5, none⟩) (Nat.le_succ _) _).setCell (p := ⟨w.heap.size + 1, 6, none⟩) (Nat.le_succ _) _
end Go.Proofs.YtffdplmnjlcmnaaDoor
