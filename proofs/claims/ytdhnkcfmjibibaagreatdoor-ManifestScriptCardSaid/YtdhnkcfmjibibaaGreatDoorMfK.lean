/- The law's helper twin, for manifests. Conditions: each theorem's own hypotheses. -/
import Derived.Test.YtdhnkcfmjibibaaGreatDoorMfI
import Derived.Laws.AppendOwnNone
import Derived.Deep.AppendLies
namespace Go.Proofs.YtdhnkcfmjibibaaGreatDoor
open Go.RowKit Go.Maps
set_option linter.unusedVariables false
set_option linter.unusedSimpArgs false

theorem infoRun : (Tryz.prog.info? 42).map (fun i => (i.zero, i.size, i.bytes)) = some (some (.agg #[.int .i64 0, .int .i64 0, .int .i64 0, .int .i64 0]), 4, 32) := by kernel_rfl

/-- The runs' cells. -/
def cellsOf : List Run → List Value
  | [] => []
  | h :: l => .int .i64 h.num :: .int .i64 h.lo :: .int .i64 h.hi :: .int .i64 h.cnt :: cellsOf l
theorem cellsOf_len : ∀ l, (cellsOf l).length = l.length * 4
  | [] => rfl
  | h :: l => by rw [cellsOf, List.length_cons, List.length_cons, List.length_cons, List.length_cons, cellsOf_len l, List.length_cons]; omega
theorem cellsOf_append : ∀ a b, cellsOf (a ++ b) = cellsOf a ++ cellsOf b
  | [], _ => rfl
  | h :: a, b => by rw [List.cons_append, cellsOf, cellsOf, cellsOf_append a b]; rfl
theorem cellsOf_one : ∀ (l : List Run), ∀ u ∈ cellsOf l, u.oneCell' = true
  | [], u, hu => by cases hu
  | h :: l, u, hu => by
    rw [cellsOf] at hu
    rcases List.mem_cons.1 hu with rfl | hu
    · rfl
    rcases List.mem_cons.1 hu with rfl | hu
    · rfl
    rcases List.mem_cons.1 hu with rfl | hu
    · rfl
    rcases List.mem_cons.1 hu with rfl | hu
    · rfl
    exact cellsOf_one l u hu
theorem cellsOf_get : ∀ (l : List Run) (q : Nat) (h : Run), l[q]? = some h → (cellsOf l)[q * 4]? = some (.int .i64 h.num) ∧ (cellsOf l)[q * 4 + 1]? = some (.int .i64 h.lo) ∧ (cellsOf l)[q * 4 + 2]? = some (.int .i64 h.hi) ∧ (cellsOf l)[q * 4 + 3]? = some (.int .i64 h.cnt)
  | [], q, h, hq => by simp at hq
  | x :: l, 0, h, hq => by
    obtain rfl := Option.some.inj hq
    exact ⟨rfl, rfl, rfl, rfl⟩
  | x :: l, q + 1, h, hq => by
    have := cellsOf_get l q h hq
    rw [show (q + 1) * 4 = q * 4 + 1 + 1 + 1 + 1 from by omega, cellsOf]
    exact this
theorem cellsOf_of : ∀ (l : List Run) (j : Nat) (u : Value), (cellsOf l)[j]? = some u → ∃ q h, l[q]? = some h ∧ (j = q * 4 ∧ u = .int .i64 h.num ∨ j = q * 4 + 1 ∧ u = .int .i64 h.lo ∨ j = q * 4 + 2 ∧ u = .int .i64 h.hi ∨ j = q * 4 + 3 ∧ u = .int .i64 h.cnt)
  | [], j, u, hu => by simp [cellsOf] at hu
  | x :: l, 0, u, hu => ⟨0, x, rfl, Or.inl ⟨rfl, (Option.some.inj hu).symm⟩⟩
  | x :: l, 1, u, hu => ⟨0, x, rfl, Or.inr (Or.inl ⟨rfl, (Option.some.inj hu).symm⟩)⟩
  | x :: l, 2, u, hu => ⟨0, x, rfl, Or.inr (Or.inr (Or.inl ⟨rfl, (Option.some.inj hu).symm⟩))⟩
  | x :: l, 3, u, hu => ⟨0, x, rfl, Or.inr (Or.inr (Or.inr ⟨rfl, (Option.some.inj hu).symm⟩))⟩
  | x :: l, j + 4, u, hu => by
    rw [cellsOf] at hu
    obtain ⟨q, h, hq, hh⟩ := cellsOf_of l j u hu
    refine ⟨q + 1, h, hq, ?_⟩
    rcases hh with ⟨rfl, hh⟩ | ⟨rfl, hh⟩ | ⟨rfl, hh⟩ | ⟨rfl, hh⟩
    · exact Or.inl ⟨by omega, hh⟩
    · exact Or.inr (Or.inl ⟨by omega, hh⟩)
    · exact Or.inr (Or.inr (Or.inl ⟨by omega, hh⟩))
    · exact Or.inr (Or.inr (Or.inr ⟨by omega, hh⟩))

/-- Where the cells lie the runs lie. -/
theorem Rs.of_cells {W : World} {B b off : Nat} {hs : List Run} (hb : b < B) (hc : ∀ j u, (cellsOf hs)[j]? = some u → W.cell? ⟨b, off + j, none⟩ = some u) : Rs W B (some ⟨b, off, none⟩) hs := by
  intro _
  refine ⟨b, off, rfl, hb, fun j h hj => ?_⟩
  obtain ⟨h0, h1, h2, h3⟩ := cellsOf_get hs j h hj
  exact ⟨hc _ _ h0, hc _ _ h1, hc _ _ h2, hc _ _ h3⟩
theorem Rs.cells {W : World} {B : Nat} {ad : Addr} {hs : List Run} (H : Rs W B (some ad) hs) : ∀ j u, (cellsOf hs)[j]? = some u → W.cell? (ad.add j) = some u := by
  intro j u hu
  obtain ⟨q, h, hq, hh⟩ := cellsOf_of hs j u hu
  have hl : q < hs.length := (List.getElem?_eq_some_iff.1 hq).1
  obtain ⟨b, off, hA, hb, hc⟩ := H (by omega)
  obtain rfl := Option.some.inj hA
  obtain ⟨h0, h1, h2, h3⟩ := hc q h hq
  rw [addLit]
  rcases hh with ⟨rfl, rfl⟩ | ⟨rfl, rfl⟩ | ⟨rfl, rfl⟩ | ⟨rfl, rfl⟩
  · exact h0
  · exact h1
  · exact h2
  · exact h3

/-- The mark behind a twin. -/
def mark : Run := ⟨-7, 0, 0, 0⟩

/-- A row of the call's own that holds these runs. -/
def Own (W : World) (base : Nat) (g cap : Nat) (hs : List Run) : Prop := W.ownsRow base 42 4 (.slice (some ⟨g, 0, none⟩) hs.length cap) hs.length (cellsOf hs)
theorem Own.lt {W : World} {base g cap : Nat} {hs : List Run} (h : Own W base g cap hs) : base ≤ g ∧ g < W.heap.size := World.ownsRow.lt h g rfl
theorem Own.rs {W : World} {base g cap : Nat} {hs : List Run} (h : Own W base g cap hs) : Rs W W.heap.size (some ⟨g, 0, none⟩) hs :=
  Rs.of_cells h.lt.2 fun j u hu => by have := World.ownsRow.cells h (g := g) rfl j u hu; rwa [addLit] at this

theorem mark_cells (w : World) : ∀ j u, (cellsOf [mark])[j]? = some u → (w.alloc (.cells #[.int .i64 (-7), .int .i64 0, .int .i64 0, .int .i64 0] 42)).cell? ((⟨w.heap.size, 0, none⟩ : Addr).add j) = some u := by
  intro j u hu
  rw [addLit]
  obtain ⟨q, h, hq, hh⟩ := cellsOf_of _ j u hu
  have hq0 : q = 0 := by have := (List.getElem?_eq_some_iff.1 hq).1; simp at this; omega
  subst hq0
  obtain rfl := Option.some.inj hq
  rcases hh with ⟨rfl, rfl⟩ | ⟨rfl, rfl⟩ | ⟨rfl, rfl⟩ | ⟨rfl, rfl⟩
  · exact World.cell?_alloc_at _ _ _ _ rfl
  · exact World.cell?_alloc_at _ _ _ _ rfl
  · exact World.cell?_alloc_at _ _ _ _ rfl
  · exact World.cell?_alloc_at _ _ _ _ rfl

def zeroMan : Array Value := #[.int .i64 0, .int .i64 0, .int .i64 0, .int .i64 0, .int .i64 0, .int .i64 0, .slice none 0 0]

end Go.Proofs.YtdhnkcfmjibibaaGreatDoor
/- The law's helper twin, for manifests: its contract. Conditions: each theorem's own hypotheses. -/
namespace Go.Proofs.YtdhnkcfmjibibaaGreatDoor
open Go.RowKit Go.Maps
set_option linter.unusedVariables false
set_option linter.unusedSimpArgs false

theorem own_keep {w w' : World} {base base' n size : Nat} {e : TypeId} {v : Value} {xs : List Value} (h : w.ownsRow base e size v n xs) (hb : base' ≤ base) (hk : ∀ k, base ≤ k → k < w.heap.size → w'.heap[k]? = w.heap[k]?) : w'.ownsRow base' e size v n xs := by
  refine ⟨h.1, h.2.imp id ?_⟩
  rintro ⟨g, cap, cur, h1, h2, h3, h4⟩
  refine ⟨g, cap, cur, h1, Nat.le_trans hb h2, (hk g h2 ?_).trans h3, h4⟩
  rcases Nat.lt_or_ge g w.heap.size with h' | h'
  · exact h'
  · rw [Array.getElem?_eq_none h'] at h3; cases h3
theorem own_cap {w : World} {base g n cap size : Nat} {e : TypeId} {xs : List Value} (h : w.ownsRow base e size (.slice (some ⟨g, 0, none⟩) (n + 1) cap) (n + 1) xs) : n ≤ cap := by
  rcases h.2 with ⟨h, _⟩ | ⟨g', cap', cur, hv, _, _, hc, _⟩
  · cases h
  · cases hv; omega
set_option maxRecDepth 100000 in
set_option maxHeartbeats 1000000 in
theorem twin_some (M : Man) (ad : Addr) (c : Nat) (w : World) (H : Rs w w.heap.size (some ad) M.runs) (hm : (M.runs.length + 1) * 32 ≤ 140737488355328) :
    Calls Tryz.prog 6 #[manV M (some ad) c] w fun e w' => (∃ g cap, e = .returned (manV M (some ⟨g, 0, none⟩) cap) ∧ Own w' w.heap.size g cap (M.runs ++ [mark])) ∧ Below w.heap.size w w' := by
  obtain ⟨i0, hi, hz0, hz1, hz2⟩ := info_parts infoRun
  unfold manV
  go_enter Tryz.func6, Tryz.ntmps6
  have hk1 : ∀ o : Obj, (w.alloc o).heap.size = w.heap.size + 1 := fun o => by simp
  have hW : ∃ W, (w.alloc (.cells (manCells M (some ad) c) 31)).alloc (.cells zeroMan 31) = W := ⟨_, rfl⟩
  obtain ⟨W, hW⟩ := hW
  have hb0 : Blk W w.heap.size 31 (manCells M (some ad) c) := by rw [← hW]; exact (Blk.new w _ _).alloc _
  have hb1 : Blk W (w.heap.size + 1) 31 zeroMan := by rw [← hW, ← hk1]; exact Blk.new _ _ _
  have hs : W.heap.size = w.heap.size + 2 := by rw [← hW]; simp
  have BW : Below w.heap.size w W := by rw [← hW]; exact ((Below.refl _ _).alloc (Nat.le_refl _) _).alloc (by simp) _
  have hnil := World.ownsRow_nil W W.heap.size 42 4
  have HW := (H.below BW).more BW.size
  unfold manCells zeroMan at hW
  have HWH := Lib.hid hW
  clear hW
  have c6 : W.cell? ⟨w.heap.size, 6, none⟩ = some (.slice (some ad) M.runs.length c) := hb0.cell 6
  have hn2 : M.runs.length + 1 ≤ 4398046511104 := by omega
  go_wp2_with (first
    | (at_builtin; rw [HWH.out]; refine wpList_append_own _ rfl (.const (.slice none 0 0)) (.tmp 6) 29 rfl W.heap.size 42 i0 (.agg #[.int .i64 0, .int .i64 0, .int .i64 0, .int .i64 0]) 4 32 Tryz.underlying29 hi hz0 hz1 hz2 rfl (by decide) _ _ _ rfl hnil ad M.runs.length c (cellsOf M.runs) rfl (cellsOf_len _) HW.cells (cellsOf_one _) (by unfold maxLen; omega) (by omega) (Nat.le_refl _) ?_; intro v1 w1 hown1 hgrow1 _; simp only [Nat.zero_add, List.nil_append] at hown1; have g1 : W.grownBy w1 none := hgrow1; clear hgrow1; have hd0 := hb0.grown g1 (by simp); have hd1 := hb1.grown g1 (by simp))
    | (at_builtin; refine wpList_append_own _ rfl (.tmp 8) (.tmp 10) 29 rfl W.heap.size 42 i0 (.agg #[.int .i64 0, .int .i64 0, .int .i64 0, .int .i64 0]) 4 32 Tryz.underlying29 hi hz0 hz1 hz2 rfl (by decide) _ _ _ rfl (hown1.alloc _) ⟨w1.heap.size, 0, none⟩ 1 1 (cellsOf [mark]) rfl rfl (mark_cells w1) (cellsOf_one _) (by unfold maxLen; omega) (by omega) (by have := g1.size; simp; omega) ?_; intro v2 w2 hown2 hgrow2 _; obtain ⟨g, cap, rfl, hc1, hc2⟩ := hown2.form (by omega);
       have hf0 : Blk w2 w.heap.size 31 (manCells M (some ad) c) := (hd0.alloc _).grown hgrow2 (fun e => by have := (hown1.lt _ e.symm).1; omega);
       have hf1 : Blk w2 (w.heap.size + 1) 31 zeroMan := (hd1.alloc _).grown hgrow2 (fun e => by have := (hown1.lt _ e.symm).1; omega);
       have c0 : w2.cell? ⟨w.heap.size, 0, none⟩ = some (.int .i64 M.w) := hf0.cell 0;
       have c1 : w2.cell? ⟨w.heap.size, 1, none⟩ = some (.int .i64 M.c) := hf0.cell 1;
       have c2 : w2.cell? ⟨w.heap.size, 2, none⟩ = some (.int .i64 M.m) := hf0.cell 2;
       have c3 : w2.cell? ⟨w.heap.size, 3, none⟩ = some (.int .i64 M.seq) := hf0.cell 3;
       have c4 : w2.cell? ⟨w.heap.size, 4, none⟩ = some (.int .i64 M.next) := hf0.cell 4;
       have c5 : w2.cell? ⟨w.heap.size, 5, none⟩ = some (.int .i64 M.jr) := hf0.cell 5;
       have c6 : w2.cell? ⟨w.heap.size, 6, none⟩ = some (.slice (some ad) M.runs.length c) := hf0.cell 6;
       have d6 : ∀ o : Obj, (w2.alloc o).cell? ⟨w.heap.size, 6, none⟩ = some (.slice (some ad) M.runs.length c) := fun o => (hf0.alloc o).cell 6;
       have x0 : ∀ o : Obj, (w2.alloc o).cell? ⟨w.heap.size + 1, 0, none⟩ = some (.int .i64 0) := fun o => (hf1.alloc o).cell 0;
       have f0 : ∀ o : Obj, (w2.alloc o).frozen? ⟨w.heap.size + 1, 0, none⟩ = false := fun o => (hf1.alloc o).frozen 0;
       have x1 : ∀ o : Obj, (w2.alloc o).cell? ⟨w.heap.size + 1, 1, none⟩ = some (.int .i64 0) := fun o => (hf1.alloc o).cell 1;
       have f1 : ∀ o : Obj, (w2.alloc o).frozen? ⟨w.heap.size + 1, 1, none⟩ = false := fun o => (hf1.alloc o).frozen 1;
       have x2 : ∀ o : Obj, (w2.alloc o).cell? ⟨w.heap.size + 1, 2, none⟩ = some (.int .i64 0) := fun o => (hf1.alloc o).cell 2;
       have f2 : ∀ o : Obj, (w2.alloc o).frozen? ⟨w.heap.size + 1, 2, none⟩ = false := fun o => (hf1.alloc o).frozen 2;
       have x3 : ∀ o : Obj, (w2.alloc o).cell? ⟨w.heap.size + 1, 3, none⟩ = some (.int .i64 0) := fun o => (hf1.alloc o).cell 3;
       have f3 : ∀ o : Obj, (w2.alloc o).frozen? ⟨w.heap.size + 1, 3, none⟩ = false := fun o => (hf1.alloc o).frozen 3;
       have x4 : ∀ o : Obj, (w2.alloc o).cell? ⟨w.heap.size + 1, 4, none⟩ = some (.int .i64 0) := fun o => (hf1.alloc o).cell 4;
       have f4 : ∀ o : Obj, (w2.alloc o).frozen? ⟨w.heap.size + 1, 4, none⟩ = false := fun o => (hf1.alloc o).frozen 4;
       have x5 : ∀ o : Obj, (w2.alloc o).cell? ⟨w.heap.size + 1, 5, none⟩ = some (.int .i64 0) := fun o => (hf1.alloc o).cell 5;
       have f5 : ∀ o : Obj, (w2.alloc o).frozen? ⟨w.heap.size + 1, 5, none⟩ = false := fun o => (hf1.alloc o).frozen 5;
       have x6 : ∀ o : Obj, (w2.alloc o).cell? ⟨w.heap.size + 1, 6, none⟩ = some (.slice none 0 0) := fun o => (hf1.alloc o).cell 6;
       have f6 : ∀ o : Obj, (w2.alloc o).frozen? ⟨w.heap.size + 1, 6, none⟩ = false := fun o => (hf1.alloc o).frozen 6;
       have hcp : M.runs.length ≤ cap := own_cap hown2))
  have B1 : Below w.heap.size w w1 := BW.grown g1 BW.size (fun k e => by cases e)
  have B2 : Below w.heap.size w w2 := (B1.alloc B1.size _).grown hgrow2 (by have := B1.size; simp; omega) (fun k hk => by have := (hown1.lt k hk).1; omega)
  refine bodyPost_ret (v := manV M (some ⟨g, 0, none⟩) cap) (by unfold manV; simp [results, Tryz.results6, go_sem, x0, x1, x2, x3, x4, x5, x6]) rfl ⟨⟨g, cap, rfl, ?_⟩, ?_⟩
  · unfold Own
    rw [List.length_append, cellsOf_append]
    refine own_keep hown2 (by omega) fun k hk hl => ?_
    have hk2 : k ≠ w.heap.size + 1 := by omega
    iterate 7 refine (Below.heap_setCell _ _ _ k hk2).trans ?_
    exact Below.heap_alloc _ _ _ hl
  · exact (((((((B2.alloc B2.size _).setCell (p := ⟨w.heap.size + 1, 0, none⟩) (Nat.le_succ _) _).setCell (p := ⟨w.heap.size + 1, 1, none⟩) (Nat.le_succ _) _).setCell (p := ⟨w.heap.size + 1, 2, none⟩) (Nat.le_succ _) _).setCell (p := ⟨w.heap.size + 1, 3, none⟩) (Nat.le_succ _) _).setCell (p := ⟨w.heap.size + 1, 4, none⟩) (Nat.le_succ _) _).setCell (p := ⟨w.heap.size + 1, 5, none⟩) (Nat.le_succ _) _).setCell (p := ⟨w.heap.size + 1, 6, none⟩) (Nat.le_succ _) _

set_option maxRecDepth 100000 in
set_option maxHeartbeats 1000000 in
theorem twin_nil (M : Man) (w : World) (hr : M.runs = []) :
    Calls Tryz.prog 6 #[manV M none 0] w fun e w' => (∃ g cap, e = .returned (manV M (some ⟨g, 0, none⟩) cap) ∧ Own w' w.heap.size g cap (M.runs ++ [mark])) ∧ Below w.heap.size w w' := by
  obtain ⟨i0, hi, hz0, hz1, hz2⟩ := info_parts infoRun
  have hl : M.runs.length = 0 := by rw [hr]; rfl
  have hmc : manCells M none 0 = #[.int .i64 M.w, .int .i64 M.c, .int .i64 M.m, .int .i64 M.seq, .int .i64 M.next, .int .i64 M.jr, .slice none 0 0] := by unfold manCells; rw [hl]
  obtain ⟨MC, hMC⟩ : ∃ MC, manCells M none 0 = MC := ⟨_, rfl⟩
  rw [hMC] at hmc
  have HR := Lib.hid hr
  have HL := Lib.hid hl
  unfold manV
  simp only [hl, hr]
  clear hr hl
  go_enter Tryz.func6, Tryz.ntmps6
  have hk1 : ∀ o : Obj, (w.alloc o).heap.size = w.heap.size + 1 := fun o => by simp
  have hW : ∃ W, (w.alloc (.cells (MC) 31)).alloc (.cells zeroMan 31) = W := ⟨_, rfl⟩
  obtain ⟨W, hW⟩ := hW
  have hb0 : Blk W w.heap.size 31 (MC) := by rw [← hW]; exact (Blk.new w _ _).alloc _
  have hb1 : Blk W (w.heap.size + 1) 31 zeroMan := by rw [← hW, ← hk1]; exact Blk.new _ _ _
  have hs : W.heap.size = w.heap.size + 2 := by rw [← hW]; simp
  have BW : Below w.heap.size w W := by rw [← hW]; exact ((Below.refl _ _).alloc (Nat.le_refl _) _).alloc (by simp) _
  have hnil := World.ownsRow_nil W W.heap.size 42 4
  rw [hmc] at hW
  unfold zeroMan at hW
  have HWH := Lib.hid hW
  have HS := Lib.hid hs
  clear hW hs
  rw [hmc] at hb0
  have c6 : W.cell? ⟨w.heap.size, 6, none⟩ = some (.slice none 0 0) := hb0.cell 6
  go_wp2_with (first
    | (at_builtin; rw [HWH.out]; refine wpList_append_own_none rfl (.const (.slice none 0 0)) (.tmp 6) 29 rfl W.heap.size 42 i0 4 Tryz.underlying29 hi _ _ _ rfl hnil rfl ?_)
    | (at_builtin; refine wpList_append_own _ rfl (.tmp 8) (.tmp 10) 29 rfl W.heap.size 42 i0 (.agg #[.int .i64 0, .int .i64 0, .int .i64 0, .int .i64 0]) 4 32 Tryz.underlying29 hi hz0 hz1 hz2 rfl (by decide) _ _ _ rfl (hnil.alloc _) ⟨W.heap.size, 0, none⟩ 1 1 (cellsOf [mark]) rfl rfl (mark_cells W) (cellsOf_one _) (by unfold maxLen; omega) (by omega) (by simp) ?_; intro v2 w2 hown2 hgrow2 _; obtain ⟨g, cap, rfl, hc1, hc2⟩ := hown2.form (by omega);
       have hf0 : Blk w2 w.heap.size 31 #[.int .i64 M.w, .int .i64 M.c, .int .i64 M.m, .int .i64 M.seq, .int .i64 M.next, .int .i64 M.jr, .slice none 0 0] := (hb0.alloc _).grown hgrow2 (fun e => by have := (hnil.lt _ e.symm).1; have := HS.out; omega);
       have hf1 : Blk w2 (w.heap.size + 1) 31 zeroMan := (hb1.alloc _).grown hgrow2 (fun e => by have := (hnil.lt _ e.symm).1; have := HS.out; omega);
       have c0 : w2.cell? ⟨w.heap.size, 0, none⟩ = some (.int .i64 M.w) := hf0.cell 0;
       have c1 : w2.cell? ⟨w.heap.size, 1, none⟩ = some (.int .i64 M.c) := hf0.cell 1;
       have c2 : w2.cell? ⟨w.heap.size, 2, none⟩ = some (.int .i64 M.m) := hf0.cell 2;
       have c3 : w2.cell? ⟨w.heap.size, 3, none⟩ = some (.int .i64 M.seq) := hf0.cell 3;
       have c4 : w2.cell? ⟨w.heap.size, 4, none⟩ = some (.int .i64 M.next) := hf0.cell 4;
       have c5 : w2.cell? ⟨w.heap.size, 5, none⟩ = some (.int .i64 M.jr) := hf0.cell 5;
       have c6 : w2.cell? ⟨w.heap.size, 6, none⟩ = some (.slice none 0 0) := hf0.cell 6;
       have d6 : ∀ o : Obj, (w2.alloc o).cell? ⟨w.heap.size, 6, none⟩ = some (.slice none 0 0) := fun o => (hf0.alloc o).cell 6;
       have x0 : ∀ o : Obj, (w2.alloc o).cell? ⟨w.heap.size + 1, 0, none⟩ = some (.int .i64 0) := fun o => (hf1.alloc o).cell 0;
       have f0 : ∀ o : Obj, (w2.alloc o).frozen? ⟨w.heap.size + 1, 0, none⟩ = false := fun o => (hf1.alloc o).frozen 0;
       have x1 : ∀ o : Obj, (w2.alloc o).cell? ⟨w.heap.size + 1, 1, none⟩ = some (.int .i64 0) := fun o => (hf1.alloc o).cell 1;
       have f1 : ∀ o : Obj, (w2.alloc o).frozen? ⟨w.heap.size + 1, 1, none⟩ = false := fun o => (hf1.alloc o).frozen 1;
       have x2 : ∀ o : Obj, (w2.alloc o).cell? ⟨w.heap.size + 1, 2, none⟩ = some (.int .i64 0) := fun o => (hf1.alloc o).cell 2;
       have f2 : ∀ o : Obj, (w2.alloc o).frozen? ⟨w.heap.size + 1, 2, none⟩ = false := fun o => (hf1.alloc o).frozen 2;
       have x3 : ∀ o : Obj, (w2.alloc o).cell? ⟨w.heap.size + 1, 3, none⟩ = some (.int .i64 0) := fun o => (hf1.alloc o).cell 3;
       have f3 : ∀ o : Obj, (w2.alloc o).frozen? ⟨w.heap.size + 1, 3, none⟩ = false := fun o => (hf1.alloc o).frozen 3;
       have x4 : ∀ o : Obj, (w2.alloc o).cell? ⟨w.heap.size + 1, 4, none⟩ = some (.int .i64 0) := fun o => (hf1.alloc o).cell 4;
       have f4 : ∀ o : Obj, (w2.alloc o).frozen? ⟨w.heap.size + 1, 4, none⟩ = false := fun o => (hf1.alloc o).frozen 4;
       have x5 : ∀ o : Obj, (w2.alloc o).cell? ⟨w.heap.size + 1, 5, none⟩ = some (.int .i64 0) := fun o => (hf1.alloc o).cell 5;
       have f5 : ∀ o : Obj, (w2.alloc o).frozen? ⟨w.heap.size + 1, 5, none⟩ = false := fun o => (hf1.alloc o).frozen 5;
       have x6 : ∀ o : Obj, (w2.alloc o).cell? ⟨w.heap.size + 1, 6, none⟩ = some (.slice none 0 0) := fun o => (hf1.alloc o).cell 6;
       have f6 : ∀ o : Obj, (w2.alloc o).frozen? ⟨w.heap.size + 1, 6, none⟩ = false := fun o => (hf1.alloc o).frozen 6;
       have hcp : 0 ≤ cap := Nat.zero_le _))
  have hs := HS.out
  have B2 : Below w.heap.size w w2 := (BW.alloc BW.size _).grown hgrow2 (by have := BW.size; simp; omega) (fun k hk => by have := (hnil.lt k hk).1; omega)
  refine bodyPost_ret (v := .agg #[.int .i64 M.w, .int .i64 M.c, .int .i64 M.m, .int .i64 M.seq, .int .i64 M.next, .int .i64 M.jr, .slice (some ⟨g, 0, none⟩) 0 cap]) (by simp [results, Tryz.results6, go_sem, x0, x1, x2, x3, x4, x5, x6]) rfl ⟨⟨g, cap, rfl, ?_⟩, ?_⟩
  · unfold Own
    refine own_keep hown2 (by omega) fun k hk hl => ?_
    have hk2 : k ≠ w.heap.size + 1 := by omega
    iterate 7 refine (Below.heap_setCell _ _ _ k hk2).trans ?_
    exact Below.heap_alloc _ _ _ hl
  · exact (((((((B2.alloc B2.size _).setCell (p := ⟨w.heap.size + 1, 0, none⟩) (Nat.le_succ _) _).setCell (p := ⟨w.heap.size + 1, 1, none⟩) (Nat.le_succ _) _).setCell (p := ⟨w.heap.size + 1, 2, none⟩) (Nat.le_succ _) _).setCell (p := ⟨w.heap.size + 1, 3, none⟩) (Nat.le_succ _) _).setCell (p := ⟨w.heap.size + 1, 4, none⟩) (Nat.le_succ _) _).setCell (p := ⟨w.heap.size + 1, 5, none⟩) (Nat.le_succ _) _).setCell (p := ⟨w.heap.size + 1, 6, none⟩) (Nat.le_succ _) _
end Go.Proofs.YtdhnkcfmjibibaaGreatDoor
/- The law's helper same, of a manifest and its copy. Conditions: each theorem's own hypotheses. -/
namespace Go.Proofs.YtdhnkcfmjibibaaGreatDoor
open Go.RowKit Go.Maps
set_option linter.unusedVariables false
set_option linter.unusedSimpArgs false

theorem num_any (e : Int) (w : World) : Calls Tryz.prog 9 #[.int .i64 e] w fun r w' => r = .returned (.int .i64 e) ∧ w' = w := by
  go_enter Tryz.func9, Tryz.ntmps9
  go_wp2_with fail
  go_ret
  exact ⟨rfl, rfl⟩

def SmRel (M : Man) (A A' : Option Addr) (cap cap' : Nat) (w : World) (i : Value) (wr : World) : Prop :=
  ∃ k : Nat, k ≤ M.runs.length ∧ i = .int .i64 k ∧ Blk wr w.heap.size 31 (manCells M A cap) ∧ Blk wr (w.heap.size + 1) 31 (manCells M A' cap') ∧ Below w.heap.size w wr

set_option maxRecDepth 100000 in
set_option maxHeartbeats 1000000 in
theorem same_any (M : Man) (A A' : Option Addr) (cap cap' : Nat) (w : World) (H : Rs w w.heap.size A M.runs) (H' : Rs w w.heap.size A' M.runs) (hm : M.runs.length ≤ 4398046511104) :
    Calls Tryz.prog 13 #[manV M A cap, manV M A' cap'] w fun e w' => e = .returned (.bool true) ∧ Below w.heap.size w w' := by
  unfold manV
  go_enter Tryz.func13, Tryz.ntmps13
  have hk1 : ∀ o : Obj, (w.alloc o).heap.size = w.heap.size + 1 := fun o => by simp
  have hb0 : Blk ((w.alloc (.cells (manCells M A cap) 31)).alloc (.cells (manCells M A' cap') 31)) w.heap.size 31 (manCells M A cap) := (Blk.new w _ _).alloc _
  have hb1 : Blk ((w.alloc (.cells (manCells M A cap) 31)).alloc (.cells (manCells M A' cap') 31)) (w.heap.size + 1) 31 (manCells M A' cap') := by rw [← hk1]; exact Blk.new _ _ _
  have BW : Below w.heap.size w ((w.alloc (.cells (manCells M A cap) 31)).alloc (.cells (manCells M A' cap') 31)) := ((Below.refl _ _).alloc (Nat.le_refl _) _).alloc (by simp) _
  have HB0 := Lib.hid hb0
  have HB1 := Lib.hid hb1
  clear hb0 hb1
  go_wp2_with fail
  go_loopw [5] (fun i wr => SmRel M A A' cap cap' w i wr) (fun i _ => M.runs.length - (intOf i).toNat)
  case atStart => exact ⟨0, Nat.zero_le _, rfl, HB0.out, HB1.out, BW⟩
  case round =>
    obtain ⟨k, hk, rfl, hb, hb', hB⟩ := hrel
    have c6 : wr.cell? ⟨w.heap.size, 6, none⟩ = some (.slice A M.runs.length cap) := hb.cell 6
    have c6' : wr.cell? ⟨w.heap.size + 1, 6, none⟩ = some (.slice A' M.runs.length cap') := hb'.cell 6
    by_cases hlt : k < M.runs.length
    · obtain ⟨b, off, r, rfl, hbb, hj, e0, e1, e2, e3⟩ := (H.below hB).at_ hlt
      obtain ⟨b', off', r', rfl, hbb', hj', f0, f1, f2, f3⟩ := (H'.below hB).at_ hlt
      obtain rfl := Option.some.inj (hj.symm.trans hj')
      have HJ := Lib.hid hj
      clear hj hj'
      have hj0 : (0 : Int) ≤ (k : Int) := by omega
      have hj1 : (k : Int) < (M.runs.length : Int) := by omega
      go_wp2_with fail
      go_quiet (fail)
      all_goals go_wp2_with fail
      go_roundw
      case rel => exact ⟨k + 1, by omega, by go_num, hb, hb', below_dn hB _⟩
      case measure => simp [intOf]; omega
    · obtain rfl : k = M.runs.length := by omega
      go_wp2_with fail
      go_ret
      exact ⟨rfl, hB⟩
end Go.Proofs.YtdhnkcfmjibibaaGreatDoor
