/- Contracts of the law's told. Conditions: each theorem's own hypotheses. -/
import Derived.Test.YtikhahkmebkccaaGreatDoorBrK
import Derived.Test.YtikhahkmebkccaaGreatDoorBkX
namespace Go.Proofs.YtikhahkmebkccaaGreatDoor
open Go.RowKit Go.Maps Go.Sort Go.Shelf
set_option linter.unusedVariables false
set_option linter.unusedSimpArgs false

/-- A tree of the document's in memory, as it always is. -/
structure Br.Tree (W : World) (t : Nat) (T : Bk.T) (F : Nat → Prop) : Prop where
  at' : Br.At W t T F
  good : Bk.Good T.w T.l
  wide : Bt.wide T.w = true
theorem Br.Tree.keep {W W' : World} {t : Nat} {T : Bk.T} {F : Nat → Prop} (h : Br.Tree W t T F) (hk : ∀ k, F k → W'.heap[k]? = W.heap[k]?) : Br.Tree W' t T F := ⟨h.at'.keep hk, h.good, h.wide⟩
theorem Br.Tree.le {W : World} {t : Nat} {T : Bk.T} {F : Nat → Prop} (h : Br.Tree W t T F) : T.w ≤ 1024 := by have := Bt.wide_in h.wide; omega
theorem Br.Tree.ge {W : World} {t : Nat} {T : Bk.T} {F : Nat → Prop} (h : Br.Tree W t T F) : 64 ≤ T.w := by have := Bt.wide_in h.wide; omega
/-- What a call leaves. -/
def Br.Did (W : World) (t : Nat) (F : Nat → Prop) (R : Bk.T × Bk.G) (e : Ending) (W' : World) : Prop :=
  ∃ v F', e = .returned (.agg #[.bool R.2.yes, .int .i64 R.2.e, v, .int .i64 R.2.len, .int .i64 R.2.nodes, .int .i64 R.2.depth, .int .i64 R.2.looked]) ∧
    W'.ownsRow W.heap.size 61 3 v R.2.l.length (Bk.hcs R.2.l) ∧ Br.Tree W' t R.1 F' ∧ Bk.Only F W W' ∧ (∀ k, F' k → F k ∨ W.heap.size ≤ k) ∧ (∀ k, v.ownBlock = some k → ¬ F' k)
theorem Br.seven_at {w : World} {t b : Nat} {T : Bk.T} {F : Nat → Prop} (h : Br.At w t T F) (hb : ¬ F b) (v0 v1 v2 v3 v4 v5 v6 : Value) :
    Br.At (((((((w.setCell ⟨b, 0, none⟩ v0).setCell ⟨b, 1, none⟩ v1).setCell ⟨b, 2, none⟩ v2).setCell ⟨b, 3, none⟩ v3).setCell ⟨b, 4, none⟩ v4).setCell ⟨b, 5, none⟩ v5).setCell ⟨b, 6, none⟩ v6) t T F :=
  h.keep fun k hk => Bk.seven_far (fun e => hb (by rw [← e]; exact hk)) _ _ _ _ _ _ _
theorem Br.did_of {W w3 : World} {t : Nat} {T : Bk.T} {F F' : Nat → Prop} {R : Bk.T × Bk.G} {v : Value} (h : Br.Tree W t T F) (_ : True) (hw3 : Bk.Only F W w3) (hA : Br.At w3 t R.1 F') (hG : Bk.Good R.1.w R.1.l) (hw : Bt.wide R.1.w = true)
    (hF : ∀ k, F' k → F k ∨ W.heap.size + 2 ≤ k) (hrow : w3.ownsRow W.heap.size 61 3 v R.2.l.length (Bk.hcs R.2.l)) (hv : ∀ k, v.ownBlock = some k → ¬ F' k ∧ k ≠ W.heap.size + 1) :
    Br.Did W t F R (.returned (.agg #[.bool R.2.yes, .int .i64 R.2.e, v, .int .i64 R.2.len, .int .i64 R.2.nodes, .int .i64 R.2.depth, .int .i64 R.2.looked]))
      (((((((w3.setCell ⟨W.heap.size + 1, 0, none⟩ (.bool R.2.yes)).setCell ⟨W.heap.size + 1, 1, none⟩ (.int .i64 R.2.e)).setCell ⟨W.heap.size + 1, 2, none⟩ v).setCell ⟨W.heap.size + 1, 3, none⟩ (.int .i64 R.2.len)).setCell ⟨W.heap.size + 1, 4, none⟩ (.int .i64 R.2.nodes)).setCell ⟨W.heap.size + 1, 5, none⟩ (.int .i64 R.2.depth)).setCell ⟨W.heap.size + 1, 6, none⟩ (.int .i64 R.2.looked)) := by
  have o7 := Bk.seven_only hw3 (b := W.heap.size + 1) (Nat.le_succ _) (.bool R.2.yes) (.int .i64 R.2.e) v (.int .i64 R.2.len) (.int .i64 R.2.nodes) (.int .i64 R.2.depth) (.int .i64 R.2.looked)
  have hb : ¬ F' (W.heap.size + 1) := fun hk => by
    rcases hF _ hk with h1 | h1
    · have := h.at'.lt h1; omega
    · omega
  have a7 := Br.seven_at hA (b := W.heap.size + 1) hb (.bool R.2.yes) (.int .i64 R.2.e) v (.int .i64 R.2.len) (.int .i64 R.2.nodes) (.int .i64 R.2.depth) (.int .i64 R.2.looked)
  have r7 := Bk.own_of hrow fun k hk => Bk.seven_far (hv k hk).2 (.bool R.2.yes) (.int .i64 R.2.e) v (.int .i64 R.2.len) (.int .i64 R.2.nodes) (.int .i64 R.2.depth) (.int .i64 R.2.looked)
  exact ⟨v, F', rfl, r7, ⟨a7, hG, hw⟩, o7, fun k hk => (hF k hk).imp id fun h1 => by omega, fun k hk => (hv k hk).1⟩
section
variable {W : World} {t : Nat} {T : Bk.T} {F : Nat → Prop}
set_option maxRecDepth 100000 in
set_option maxHeartbeats 4000000 in
theorem Br.told_add (h : Br.Tree W t T F) (hl : T.l.length ≤ 4398046511103) (c : ByteArray) (hc : c.size ≤ 9223372036854775807) (n : Int) :
    Calls Tryz.prog 10 #[.pointer (some ⟨t, 0, none⟩), .agg #[.int .i64 1, .string c, .int .i64 n]] W (Br.Did W t F (Bk.run T 1 c.data.toList n)) := by
  have ho2 : Bk.Only F W ((W.alloc (.cells #[.int .i64 1, .string c, .int .i64 n] 33)).alloc (.cells #[.bool false, .int .i64 0, .slice none 0 0, .int .i64 0, .int .i64 0, .int .i64 0, .int .i64 0] 30)) := ((Bk.Only.refl _ W).alloc _).alloc _
  have hb2 := Blk.new (W.alloc (.cells #[.int .i64 1, .string c, .int .i64 n] 33)) 30 #[.bool false, .int .i64 0, .slice none 0 0, .int .i64 0, .int .i64 0, .int .i64 0, .int .i64 0]
  have hz2 : ((W.alloc (.cells #[.int .i64 1, .string c, .int .i64 n] 33)).alloc (.cells #[.bool false, .int .i64 0, .slice none 0 0, .int .i64 0, .int .i64 0, .int .i64 0, .int .i64 0] 30)).heap.size = W.heap.size + 2 := by simp
  have hh2 := h.keep (W' := (W.alloc (.cells #[.int .i64 1, .string c, .int .i64 n] 33)).alloc (.cells #[.bool false, .int .i64 0, .slice none 0 0, .int .i64 0, .int .i64 0, .int .i64 0, .int .i64 0] 30)) fun k hk => by
    have := h.at'.lt hk
    exact (Below.heap_alloc _ _ k (by simp; omega)).trans (Below.heap_alloc _ _ k this)
  rw [World.size_alloc] at hb2
  have hcal := Br.add_any hh2.at' hh2.good hh2.le hl c hc
  have hgd := h.good.add c.data.toList
  have R1 : Bk.run T 1 c.data.toList n = ((Bk.add T c.data.toList).1, { yes := (Bk.add T c.data.toList).2.1, e := (Bk.add T c.data.toList).2.2 }) := by unfold Bk.run; rw [if_pos rfl]
  rw [R1]
  generalize hA : Bk.add T c.data.toList = A at hcal hgd ⊢
  obtain ⟨T', y, er⟩ := A
  simp only at hcal hgd ⊢
  have HH := Lib.hid (And.intro h (And.intro True.intro (And.intro ho2 (And.intro hgd hz2))))
  clear R1 h ho2 hA hh2 hgd hz2
  go_enter Tryz.func10, Tryz.ntmps10
  go_wp2_with (go_at_call 22; refine hcal.mono ?_; clear hcal; rintro e w3 ⟨rfl, F', hA3, hO3, hF3⟩; have hw3 := HH.out.2.2.1.trans hO3; have hb3 : Blk w3 (W.heap.size + 1) 30 _ := (hO3.block _ (by have := HH.out.2.2.2.2; omega) fun hk => by have := HH.out.1.at'.lt hk; omega).trans hb2; have c0 := hb3.cell 0; have c1 := hb3.cell 1; have c2 := hb3.cell 2; have c3 := hb3.cell 3; have c4 := hb3.cell 4; have c5 := hb3.cell 5; have c6 := hb3.cell 6; have f0 := hb3.frozen 0; have f1 := hb3.frozen 1; have f2 := hb3.frozen 2; have f3 := hb3.frozen 3; have f4 := hb3.frozen 4; have f5 := hb3.frozen 5; have f6 := hb3.frozen 6; simp only [List.getElem?_toArray, List.getElem?_cons_zero, List.getElem?_cons_succ] at c0 c1 c2 c3 c4 c5 c6; have hF4 : ∀ k, F' k → F k ∨ W.heap.size + 2 ≤ k := (by rw [HH.out.2.2.2.2] at hF3; exact hF3); have HF := Lib.hid (And.intro hF4 (And.intro hA3 (And.intro hO3 (And.intro (show Bk.Good T'.w T'.l from by rw [HH.out.2.2.2.1.2]; exact HH.out.2.2.2.1.1) (show Bt.wide T'.w = true from by rw [HH.out.2.2.2.1.2]; exact HH.out.1.wide))))); clear hb2 hF3 hF4 hA3 hO3)
  have HG := Lib.hid (And.intro (show w3.ownsRow W.heap.size 61 3 (.slice none 0 0) 0 [] from ⟨by simp, .inl ⟨rfl, rfl⟩⟩) (show ∀ k, (Value.slice none 0 0).ownBlock = some k → ¬ F' k ∧ k ≠ W.heap.size + 1 from fun k hk => by simp [Value.ownBlock] at hk))
  obtain ⟨t0, t1, t2, t3, t4, t5, t6⟩ := Bk.seven hb3 (.bool y) (.int .i64 er) (.slice none 0 0) (.int .i64 0) (.int .i64 0) (.int .i64 0) (.int .i64 0)
  have D := Br.did_of (R := (T', { yes := y, e := er })) (v := .slice none 0 0) HH.out.1 HH.out.2.1 hw3 HF.out.2.1 HF.out.2.2.2.1 HF.out.2.2.2.2 HF.out.1 HG.out.1 HG.out.2
  dsimp only at D
  generalize ((((((w3.setCell ⟨W.heap.size + 1, 0, none⟩ (.bool y)).setCell ⟨W.heap.size + 1, 1, none⟩ (.int .i64 er)).setCell ⟨W.heap.size + 1, 2, none⟩ (.slice none 0 0)).setCell ⟨W.heap.size + 1, 3, none⟩ (.int .i64 0)).setCell ⟨W.heap.size + 1, 4, none⟩ (.int .i64 0)).setCell ⟨W.heap.size + 1, 5, none⟩ (.int .i64 0)).setCell ⟨W.heap.size + 1, 6, none⟩ (.int .i64 0) = X at t0 t1 t2 t3 t4 t5 t6 D ⊢
  exact bodyPost_ret (v := .agg #[.bool y, .int .i64 er, .slice none 0 0, .int .i64 0, .int .i64 0, .int .i64 0, .int .i64 0]) (by simp [results, Tryz.results10, go_sem, t0, t1, t2, t3, t4, t5, t6]) rfl D
set_option maxRecDepth 100000 in
set_option maxHeartbeats 4000000 in
theorem Br.told_drop (h : Br.Tree W t T F) (hl : T.l.length ≤ 4398046511103) (c : ByteArray) (hc : c.size ≤ 9223372036854775807) (n : Int) :
    Calls Tryz.prog 10 #[.pointer (some ⟨t, 0, none⟩), .agg #[.int .i64 2, .string c, .int .i64 n]] W (Br.Did W t F (Bk.run T 2 c.data.toList n)) := by
  have ho2 : Bk.Only F W ((W.alloc (.cells #[.int .i64 2, .string c, .int .i64 n] 33)).alloc (.cells #[.bool false, .int .i64 0, .slice none 0 0, .int .i64 0, .int .i64 0, .int .i64 0, .int .i64 0] 30)) := ((Bk.Only.refl _ W).alloc _).alloc _
  have hb2 := Blk.new (W.alloc (.cells #[.int .i64 2, .string c, .int .i64 n] 33)) 30 #[.bool false, .int .i64 0, .slice none 0 0, .int .i64 0, .int .i64 0, .int .i64 0, .int .i64 0]
  have hz2 : ((W.alloc (.cells #[.int .i64 2, .string c, .int .i64 n] 33)).alloc (.cells #[.bool false, .int .i64 0, .slice none 0 0, .int .i64 0, .int .i64 0, .int .i64 0, .int .i64 0] 30)).heap.size = W.heap.size + 2 := by simp
  have hh2 := h.keep (W' := (W.alloc (.cells #[.int .i64 2, .string c, .int .i64 n] 33)).alloc (.cells #[.bool false, .int .i64 0, .slice none 0 0, .int .i64 0, .int .i64 0, .int .i64 0, .int .i64 0] 30)) fun k hk => by
    have := h.at'.lt hk
    exact (Below.heap_alloc _ _ k (by simp; omega)).trans (Below.heap_alloc _ _ k this)
  rw [World.size_alloc] at hb2
  have hcal := Br.drop_any hh2.at' hh2.good hh2.le hl c hc
  have hgd := h.good.drop c.data.toList
  have R1 : Bk.run T 2 c.data.toList n = ((Bk.drop T c.data.toList).1, { yes := (Bk.drop T c.data.toList).2 }) := by unfold Bk.run; rw [if_neg (by decide), if_pos rfl]
  rw [R1]
  generalize hA : Bk.drop T c.data.toList = A at hcal hgd ⊢
  obtain ⟨T', y⟩ := A
  simp only at hcal hgd ⊢
  have HH := Lib.hid (And.intro h (And.intro True.intro (And.intro ho2 (And.intro hgd hz2))))
  clear R1 h ho2 hA hh2 hgd hz2
  go_enter Tryz.func10, Tryz.ntmps10
  go_wp2_with (go_at_call 23; refine hcal.mono ?_; clear hcal; rintro e w3 ⟨rfl, F', hA3, hO3, hF3⟩; have hw3 := HH.out.2.2.1.trans hO3; have hb3 : Blk w3 (W.heap.size + 1) 30 _ := (hO3.block _ (by have := HH.out.2.2.2.2; omega) fun hk => by have := HH.out.1.at'.lt hk; omega).trans hb2; have c0 := hb3.cell 0; have c1 := hb3.cell 1; have c2 := hb3.cell 2; have c3 := hb3.cell 3; have c4 := hb3.cell 4; have c5 := hb3.cell 5; have c6 := hb3.cell 6; have f0 := hb3.frozen 0; have f1 := hb3.frozen 1; have f2 := hb3.frozen 2; have f3 := hb3.frozen 3; have f4 := hb3.frozen 4; have f5 := hb3.frozen 5; have f6 := hb3.frozen 6; simp only [List.getElem?_toArray, List.getElem?_cons_zero, List.getElem?_cons_succ] at c0 c1 c2 c3 c4 c5 c6; have hF4 : ∀ k, F' k → F k ∨ W.heap.size + 2 ≤ k := (by rw [HH.out.2.2.2.2] at hF3; exact hF3); have HF := Lib.hid (And.intro hF4 (And.intro hA3 (And.intro hO3 (And.intro (show Bk.Good T'.w T'.l from by rw [HH.out.2.2.2.1.2]; exact HH.out.2.2.2.1.1) (show Bt.wide T'.w = true from by rw [HH.out.2.2.2.1.2]; exact HH.out.1.wide))))); clear hb2 hF3 hF4 hA3 hO3)
  have HG := Lib.hid (And.intro (show w3.ownsRow W.heap.size 61 3 (.slice none 0 0) 0 [] from ⟨by simp, .inl ⟨rfl, rfl⟩⟩) (show ∀ k, (Value.slice none 0 0).ownBlock = some k → ¬ F' k ∧ k ≠ W.heap.size + 1 from fun k hk => by simp [Value.ownBlock] at hk))
  obtain ⟨t0, t1, t2, t3, t4, t5, t6⟩ := Bk.seven hb3 (.bool y) (.int .i64 0) (.slice none 0 0) (.int .i64 0) (.int .i64 0) (.int .i64 0) (.int .i64 0)
  have D := Br.did_of (R := (T', { yes := y })) (v := .slice none 0 0) HH.out.1 HH.out.2.1 hw3 HF.out.2.1 HF.out.2.2.2.1 HF.out.2.2.2.2 HF.out.1 HG.out.1 HG.out.2
  dsimp only at D
  generalize ((((((w3.setCell ⟨W.heap.size + 1, 0, none⟩ (.bool y)).setCell ⟨W.heap.size + 1, 1, none⟩ (.int .i64 0)).setCell ⟨W.heap.size + 1, 2, none⟩ (.slice none 0 0)).setCell ⟨W.heap.size + 1, 3, none⟩ (.int .i64 0)).setCell ⟨W.heap.size + 1, 4, none⟩ (.int .i64 0)).setCell ⟨W.heap.size + 1, 5, none⟩ (.int .i64 0)).setCell ⟨W.heap.size + 1, 6, none⟩ (.int .i64 0) = X at t0 t1 t2 t3 t4 t5 t6 D ⊢
  exact bodyPost_ret (v := .agg #[.bool y, .int .i64 0, .slice none 0 0, .int .i64 0, .int .i64 0, .int .i64 0, .int .i64 0]) (by simp [results, Tryz.results10, go_sem, t0, t1, t2, t3, t4, t5, t6]) rfl D
set_option maxRecDepth 100000 in
set_option maxHeartbeats 4000000 in
theorem Br.told_has (h : Br.Tree W t T F) (hl : T.l.length ≤ 4398046511103) (c : ByteArray) (hc : c.size ≤ 9223372036854775807) (n : Int) :
    Calls Tryz.prog 10 #[.pointer (some ⟨t, 0, none⟩), .agg #[.int .i64 3, .string c, .int .i64 n]] W (Br.Did W t F (Bk.run T 3 c.data.toList n)) := by
  have ho2 : Bk.Only F W ((W.alloc (.cells #[.int .i64 3, .string c, .int .i64 n] 33)).alloc (.cells #[.bool false, .int .i64 0, .slice none 0 0, .int .i64 0, .int .i64 0, .int .i64 0, .int .i64 0] 30)) := ((Bk.Only.refl _ W).alloc _).alloc _
  have hb2 := Blk.new (W.alloc (.cells #[.int .i64 3, .string c, .int .i64 n] 33)) 30 #[.bool false, .int .i64 0, .slice none 0 0, .int .i64 0, .int .i64 0, .int .i64 0, .int .i64 0]
  have hz2 : ((W.alloc (.cells #[.int .i64 3, .string c, .int .i64 n] 33)).alloc (.cells #[.bool false, .int .i64 0, .slice none 0 0, .int .i64 0, .int .i64 0, .int .i64 0, .int .i64 0] 30)).heap.size = W.heap.size + 2 := by simp
  have hh2 := h.keep (W' := (W.alloc (.cells #[.int .i64 3, .string c, .int .i64 n] 33)).alloc (.cells #[.bool false, .int .i64 0, .slice none 0 0, .int .i64 0, .int .i64 0, .int .i64 0, .int .i64 0] 30)) fun k hk => by
    have := h.at'.lt hk
    exact (Below.heap_alloc _ _ k (by simp; omega)).trans (Below.heap_alloc _ _ k this)
  rw [World.size_alloc] at hb2
  have R1 : Bk.run T 3 c.data.toList n = (T, { yes := Bk.has T c.data.toList }) := by unfold Bk.run; rw [if_neg (by decide), if_neg (by decide), if_pos rfl]
  rw [R1]
  have HH := Lib.hid (And.intro h True.intro)
  clear R1 h hz2
  go_enter Tryz.func10, Tryz.ntmps10
  go_upto_region 8 with fail
  have hc2 : Blk ((W.alloc (.cells #[.int .i64 3, .string c, .int .i64 n] 33)).alloc (.cells #[.bool false, .int .i64 0, .slice none 0 0, .int .i64 0, .int .i64 0, .int .i64 0, .int .i64 0] 30)) W.heap.size 33 #[.int .i64 3, .string c, .int .i64 n] := (Blk.new W 33 #[.int .i64 3, .string c, .int .i64 n]).alloc _
  generalize (W.alloc (.cells #[.int .i64 3, .string c, .int .i64 n] 33)).alloc (.cells #[.bool false, .int .i64 0, .slice none 0 0, .int .i64 0, .int .i64 0, .int .i64 0, .int .i64 0] 30) = w3 at ho2 hb2 hh2 hc2 ⊢
  have HF := Lib.hid (And.intro (show ∀ k, F k → F k ∨ W.heap.size + 2 ≤ k from fun k hk => .inl hk) (And.intro hh2.at' (And.intro hh2.good hh2.wide)))
  have o1 := hc2.cell 1
  have hb3 := hb2
  have hw3 := ho2
  simp only [List.getElem?_toArray, List.getElem?_cons_zero, List.getElem?_cons_succ] at o1
  have c0 := hb3.cell 0
  have c1 := hb3.cell 1
  have c2 := hb3.cell 2
  have c3 := hb3.cell 3
  have c4 := hb3.cell 4
  have c5 := hb3.cell 5
  have c6 := hb3.cell 6
  have f0 := hb3.frozen 0
  have f1 := hb3.frozen 1
  have f2 := hb3.frozen 2
  have f3 := hb3.frozen 3
  have f4 := hb3.frozen 4
  have f5 := hb3.frozen 5
  have f6 := hb3.frozen 6
  simp only [List.getElem?_toArray, List.getElem?_cons_zero, List.getElem?_cons_succ] at c0 c1 c2 c3 c4 c5 c6
  clear hc2 hh2 hb2 ho2
  go_wp2_with (go_at_call 24; refine (Br.has_any HF.out.2.1 (by omega) c).mono ?_; rintro e' w4 ⟨rfl, rfl⟩)
  have HG := Lib.hid (And.intro (show w3.ownsRow W.heap.size 61 3 (.slice none 0 0) 0 [] from ⟨by simp, .inl ⟨rfl, rfl⟩⟩) (show ∀ k, (Value.slice none 0 0).ownBlock = some k → ¬ F k ∧ k ≠ W.heap.size + 1 from fun k hk => by simp [Value.ownBlock] at hk))
  obtain ⟨t0, t1, t2, t3, t4, t5, t6⟩ := Bk.seven hb3 (.bool (Bk.has T c.data.toList)) (.int .i64 0) (.slice none 0 0) (.int .i64 0) (.int .i64 0) (.int .i64 0) (.int .i64 0)
  have D := Br.did_of (R := (T, { yes := Bk.has T c.data.toList })) (v := .slice none 0 0) HH.out.1 HH.out.2 hw3 HF.out.2.1 HF.out.2.2.1 HF.out.2.2.2 HF.out.1 HG.out.1 HG.out.2
  dsimp only at D
  generalize ((((((w3.setCell ⟨W.heap.size + 1, 0, none⟩ (.bool (Bk.has T c.data.toList))).setCell ⟨W.heap.size + 1, 1, none⟩ (.int .i64 0)).setCell ⟨W.heap.size + 1, 2, none⟩ (.slice none 0 0)).setCell ⟨W.heap.size + 1, 3, none⟩ (.int .i64 0)).setCell ⟨W.heap.size + 1, 4, none⟩ (.int .i64 0)).setCell ⟨W.heap.size + 1, 5, none⟩ (.int .i64 0)).setCell ⟨W.heap.size + 1, 6, none⟩ (.int .i64 0) = X at t0 t1 t2 t3 t4 t5 t6 D ⊢
  exact bodyPost_ret (v := .agg #[.bool (Bk.has T c.data.toList), .int .i64 0, .slice none 0 0, .int .i64 0, .int .i64 0, .int .i64 0, .int .i64 0]) (by simp [results, Tryz.results10, go_sem, t0, t1, t2, t3, t4, t5, t6]) rfl D
set_option maxRecDepth 100000 in
set_option maxHeartbeats 4000000 in
theorem Br.told_tell (h : Br.Tree W t T F) (hl : T.l.length ≤ 4398046511104) (c : ByteArray) (hc : c.size ≤ 9223372036854775807) (n : Int) :
    Calls Tryz.prog 10 #[.pointer (some ⟨t, 0, none⟩), .agg #[.int .i64 6, .string c, .int .i64 n]] W (Br.Did W t F (Bk.run T 6 c.data.toList n)) := by
  have ho2 : Bk.Only F W ((W.alloc (.cells #[.int .i64 6, .string c, .int .i64 n] 33)).alloc (.cells #[.bool false, .int .i64 0, .slice none 0 0, .int .i64 0, .int .i64 0, .int .i64 0, .int .i64 0] 30)) := ((Bk.Only.refl _ W).alloc _).alloc _
  have hb2 := Blk.new (W.alloc (.cells #[.int .i64 6, .string c, .int .i64 n] 33)) 30 #[.bool false, .int .i64 0, .slice none 0 0, .int .i64 0, .int .i64 0, .int .i64 0, .int .i64 0]
  have hz2 : ((W.alloc (.cells #[.int .i64 6, .string c, .int .i64 n] 33)).alloc (.cells #[.bool false, .int .i64 0, .slice none 0 0, .int .i64 0, .int .i64 0, .int .i64 0, .int .i64 0] 30)).heap.size = W.heap.size + 2 := by simp
  have hh2 := h.keep (W' := (W.alloc (.cells #[.int .i64 6, .string c, .int .i64 n] 33)).alloc (.cells #[.bool false, .int .i64 0, .slice none 0 0, .int .i64 0, .int .i64 0, .int .i64 0, .int .i64 0] 30)) fun k hk => by
    have := h.at'.lt hk
    exact (Below.heap_alloc _ _ k (by simp; omega)).trans (Below.heap_alloc _ _ k this)
  rw [World.size_alloc] at hb2
  have R1 : Bk.run T 6 c.data.toList n = (T, { len := Bk.live T.l, nodes := T.l.length, depth := Bk.depth (Bk.os T.l), looked := Bk.w64 T.seen }) := by unfold Bk.run; rw [if_neg (by decide), if_neg (by decide), if_neg (by decide), if_neg (by decide), if_neg (by decide), if_pos rfl]
  rw [R1]
  have HH := Lib.hid (And.intro h True.intro)
  clear R1 h hz2
  go_enter Tryz.func10, Tryz.ntmps10
  go_upto_region 16 with fail
  have hc2 : Blk ((W.alloc (.cells #[.int .i64 6, .string c, .int .i64 n] 33)).alloc (.cells #[.bool false, .int .i64 0, .slice none 0 0, .int .i64 0, .int .i64 0, .int .i64 0, .int .i64 0] 30)) W.heap.size 33 #[.int .i64 6, .string c, .int .i64 n] := (Blk.new W 33 #[.int .i64 6, .string c, .int .i64 n]).alloc _
  generalize (W.alloc (.cells #[.int .i64 6, .string c, .int .i64 n] 33)).alloc (.cells #[.bool false, .int .i64 0, .slice none 0 0, .int .i64 0, .int .i64 0, .int .i64 0, .int .i64 0] 30) = w3 at ho2 hb2 hh2 hc2 ⊢
  have HF := Lib.hid (And.intro (show ∀ k, F k → F k ∨ W.heap.size + 2 ≤ k from fun k hk => .inl hk) (And.intro hh2.at' (And.intro hh2.good hh2.wide)))
  have o1 := hc2.cell 1
  have hb3 := hb2
  have hw3 := ho2
  simp only [List.getElem?_toArray, List.getElem?_cons_zero, List.getElem?_cons_succ] at o1
  have c0 := hb3.cell 0
  have c1 := hb3.cell 1
  have c2 := hb3.cell 2
  have c3 := hb3.cell 3
  have c4 := hb3.cell 4
  have c5 := hb3.cell 5
  have c6 := hb3.cell 6
  have f0 := hb3.frozen 0
  have f1 := hb3.frozen 1
  have f2 := hb3.frozen 2
  have f3 := hb3.frozen 3
  have f4 := hb3.frozen 4
  have f5 := hb3.frozen 5
  have f6 := hb3.frozen 6
  simp only [List.getElem?_toArray, List.getElem?_cons_zero, List.getElem?_cons_succ] at c0 c1 c2 c3 c4 c5 c6
  clear hc2 hh2 hb2 ho2
  go_wp2_with (first | (go_at_call 28; refine (Br.len_any HF.out.2.1 (by omega)).mono ?_; rintro e' w4 ⟨rfl, rfl⟩) | (go_at_call 29; refine (Br.nodes_any HF.out.2.1).mono ?_; rintro e' w4 ⟨rfl, rfl⟩) | (go_at_call 30; refine (Br.depth_any HF.out.2.1 HF.out.2.2.1 (by omega)).mono ?_; rintro e' w4 ⟨rfl, rfl⟩) | (go_at_call 26; refine (Br.looked_any HF.out.2.1).mono ?_; rintro e' w4 ⟨rfl, rfl⟩))
  have HG := Lib.hid (And.intro (show w3.ownsRow W.heap.size 61 3 (.slice none 0 0) 0 [] from ⟨by simp, .inl ⟨rfl, rfl⟩⟩) (show ∀ k, (Value.slice none 0 0).ownBlock = some k → ¬ F k ∧ k ≠ W.heap.size + 1 from fun k hk => by simp [Value.ownBlock] at hk))
  obtain ⟨t0, t1, t2, t3, t4, t5, t6⟩ := Bk.seven hb3 (.bool false) (.int .i64 0) (.slice none 0 0) (.int .i64 (Bk.live T.l : Nat)) (.int .i64 (T.l.length : Nat)) (.int .i64 (Bk.depth (Bk.os T.l) : Nat)) (.int .i64 (Bk.w64 T.seen))
  have D := Br.did_of (R := (T, { len := Bk.live T.l, nodes := T.l.length, depth := Bk.depth (Bk.os T.l), looked := Bk.w64 T.seen })) (v := .slice none 0 0) HH.out.1 HH.out.2 hw3 HF.out.2.1 HF.out.2.2.1 HF.out.2.2.2 HF.out.1 HG.out.1 HG.out.2
  dsimp only at D
  generalize ((((((w3.setCell ⟨W.heap.size + 1, 0, none⟩ (.bool false)).setCell ⟨W.heap.size + 1, 1, none⟩ (.int .i64 0)).setCell ⟨W.heap.size + 1, 2, none⟩ (.slice none 0 0)).setCell ⟨W.heap.size + 1, 3, none⟩ (.int .i64 (Bk.live T.l : Nat))).setCell ⟨W.heap.size + 1, 4, none⟩ (.int .i64 (T.l.length : Nat))).setCell ⟨W.heap.size + 1, 5, none⟩ (.int .i64 (Bk.depth (Bk.os T.l) : Nat))).setCell ⟨W.heap.size + 1, 6, none⟩ (.int .i64 (Bk.w64 T.seen)) = X at t0 t1 t2 t3 t4 t5 t6 D ⊢
  exact bodyPost_ret (v := .agg #[.bool false, .int .i64 0, .slice none 0 0, .int .i64 (Bk.live T.l : Nat), .int .i64 (T.l.length : Nat), .int .i64 (Bk.depth (Bk.os T.l) : Nat), .int .i64 (Bk.w64 T.seen)]) (by simp [results, Tryz.results10, go_sem, t0, t1, t2, t3, t4, t5, t6]) rfl D
set_option maxRecDepth 100000 in
set_option maxHeartbeats 4000000 in
theorem Br.told_none (h : Br.Tree W t T F) (hl : T.l.length ≤ 4398046511103) (c : ByteArray) (hc : c.size ≤ 9223372036854775807) (n : Int) (kd : Int) (k1 : kd ≠ 1) (k2 : kd ≠ 2) (k3 : kd ≠ 3) (k4 : kd ≠ 4) (k5 : kd ≠ 5) (k6 : kd ≠ 6) :
    Calls Tryz.prog 10 #[.pointer (some ⟨t, 0, none⟩), .agg #[.int .i64 kd, .string c, .int .i64 n]] W (Br.Did W t F (Bk.run T kd c.data.toList n)) := by
  have ho2 : Bk.Only F W ((W.alloc (.cells #[.int .i64 kd, .string c, .int .i64 n] 33)).alloc (.cells #[.bool false, .int .i64 0, .slice none 0 0, .int .i64 0, .int .i64 0, .int .i64 0, .int .i64 0] 30)) := ((Bk.Only.refl _ W).alloc _).alloc _
  have hb2 := Blk.new (W.alloc (.cells #[.int .i64 kd, .string c, .int .i64 n] 33)) 30 #[.bool false, .int .i64 0, .slice none 0 0, .int .i64 0, .int .i64 0, .int .i64 0, .int .i64 0]
  have hz2 : ((W.alloc (.cells #[.int .i64 kd, .string c, .int .i64 n] 33)).alloc (.cells #[.bool false, .int .i64 0, .slice none 0 0, .int .i64 0, .int .i64 0, .int .i64 0, .int .i64 0] 30)).heap.size = W.heap.size + 2 := by simp
  have hh2 := h.keep (W' := (W.alloc (.cells #[.int .i64 kd, .string c, .int .i64 n] 33)).alloc (.cells #[.bool false, .int .i64 0, .slice none 0 0, .int .i64 0, .int .i64 0, .int .i64 0, .int .i64 0] 30)) fun k hk => by
    have := h.at'.lt hk
    exact (Below.heap_alloc _ _ k (by simp; omega)).trans (Below.heap_alloc _ _ k this)
  rw [World.size_alloc] at hb2
  have R1 : Bk.run T kd c.data.toList n = (T, {}) := by unfold Bk.run; rw [if_neg k1, if_neg k2, if_neg k3, if_neg k4, if_neg k5, if_neg k6]
  rw [R1]
  have HH := Lib.hid (And.intro h True.intro)
  have u1 : (kd == 1) = false := by simpa using k1
  have u2 : (kd == 2) = false := by simpa using k2
  have u3 : (kd == 3) = false := by simpa using k3
  have u4 : (kd == 4) = false := by simpa using k4
  have u5 : (kd == 5) = false := by simpa using k5
  have u6 : (kd == 6) = false := by simpa using k6
  clear R1 h hz2
  go_enter Tryz.func10, Tryz.ntmps10
  go_upto_region 17 with fail
  have hc2 : Blk ((W.alloc (.cells #[.int .i64 kd, .string c, .int .i64 n] 33)).alloc (.cells #[.bool false, .int .i64 0, .slice none 0 0, .int .i64 0, .int .i64 0, .int .i64 0, .int .i64 0] 30)) W.heap.size 33 #[.int .i64 kd, .string c, .int .i64 n] := (Blk.new W 33 #[.int .i64 kd, .string c, .int .i64 n]).alloc _
  generalize (W.alloc (.cells #[.int .i64 kd, .string c, .int .i64 n] 33)).alloc (.cells #[.bool false, .int .i64 0, .slice none 0 0, .int .i64 0, .int .i64 0, .int .i64 0, .int .i64 0] 30) = w3 at ho2 hb2 hh2 hc2 ⊢
  have HF := Lib.hid (And.intro (show ∀ k, F k → F k ∨ W.heap.size + 2 ≤ k from fun k hk => .inl hk) (And.intro hh2.at' (And.intro hh2.good hh2.wide)))
  have o1 := hc2.cell 1
  have hb3 := hb2
  have hw3 := ho2
  simp only [List.getElem?_toArray, List.getElem?_cons_zero, List.getElem?_cons_succ] at o1
  have c0 := hb3.cell 0
  have c1 := hb3.cell 1
  have c2 := hb3.cell 2
  have c3 := hb3.cell 3
  have c4 := hb3.cell 4
  have c5 := hb3.cell 5
  have c6 := hb3.cell 6
  have f0 := hb3.frozen 0
  have f1 := hb3.frozen 1
  have f2 := hb3.frozen 2
  have f3 := hb3.frozen 3
  have f4 := hb3.frozen 4
  have f5 := hb3.frozen 5
  have f6 := hb3.frozen 6
  simp only [List.getElem?_toArray, List.getElem?_cons_zero, List.getElem?_cons_succ] at c0 c1 c2 c3 c4 c5 c6
  clear hc2 hh2 hb2 ho2
  go_wp2_with fail
  have HG := Lib.hid (And.intro (show w3.ownsRow W.heap.size 61 3 (.slice none 0 0) 0 [] from ⟨by simp, .inl ⟨rfl, rfl⟩⟩) (show ∀ k, (Value.slice none 0 0).ownBlock = some k → ¬ F k ∧ k ≠ W.heap.size + 1 from fun k hk => by simp [Value.ownBlock] at hk))
  obtain ⟨t0, t1, t2, t3, t4, t5, t6⟩ := Bk.seven hb3 (.bool false) (.int .i64 0) (.slice none 0 0) (.int .i64 0) (.int .i64 0) (.int .i64 0) (.int .i64 0)
  have D := Br.did_of (R := (T, {})) (v := .slice none 0 0) HH.out.1 HH.out.2 hw3 HF.out.2.1 HF.out.2.2.1 HF.out.2.2.2 HF.out.1 HG.out.1 HG.out.2
  dsimp only at D
  generalize ((((((w3.setCell ⟨W.heap.size + 1, 0, none⟩ (.bool false)).setCell ⟨W.heap.size + 1, 1, none⟩ (.int .i64 0)).setCell ⟨W.heap.size + 1, 2, none⟩ (.slice none 0 0)).setCell ⟨W.heap.size + 1, 3, none⟩ (.int .i64 0)).setCell ⟨W.heap.size + 1, 4, none⟩ (.int .i64 0)).setCell ⟨W.heap.size + 1, 5, none⟩ (.int .i64 0)).setCell ⟨W.heap.size + 1, 6, none⟩ (.int .i64 0) = X at t0 t1 t2 t3 t4 t5 t6 D ⊢
  exact bodyPost_ret (v := .agg #[.bool false, .int .i64 0, .slice none 0 0, .int .i64 0, .int .i64 0, .int .i64 0, .int .i64 0]) (by simp [results, Tryz.results10, go_sem, t0, t1, t2, t3, t4, t5, t6]) rfl D
set_option maxRecDepth 100000 in
set_option maxHeartbeats 4000000 in
theorem Br.told_within (h : Br.Tree W t T F) (hl : T.l.length ≤ 4398046511104) (c : ByteArray) (hc : c.size ≤ 9223372036854775807) (n : Int) :
    Calls Tryz.prog 10 #[.pointer (some ⟨t, 0, none⟩), .agg #[.int .i64 4, .string c, .int .i64 n]] W (Br.Did W t F (Bk.run T 4 c.data.toList n)) := by
  have ho2 : Bk.Only F W ((W.alloc (.cells #[.int .i64 4, .string c, .int .i64 n] 33)).alloc (.cells #[.bool false, .int .i64 0, .slice none 0 0, .int .i64 0, .int .i64 0, .int .i64 0, .int .i64 0] 30)) := ((Bk.Only.refl _ W).alloc _).alloc _
  have hb2 := Blk.new (W.alloc (.cells #[.int .i64 4, .string c, .int .i64 n] 33)) 30 #[.bool false, .int .i64 0, .slice none 0 0, .int .i64 0, .int .i64 0, .int .i64 0, .int .i64 0]
  have hz2 : ((W.alloc (.cells #[.int .i64 4, .string c, .int .i64 n] 33)).alloc (.cells #[.bool false, .int .i64 0, .slice none 0 0, .int .i64 0, .int .i64 0, .int .i64 0, .int .i64 0] 30)).heap.size = W.heap.size + 2 := by simp
  have hh2 := h.keep (W' := (W.alloc (.cells #[.int .i64 4, .string c, .int .i64 n] 33)).alloc (.cells #[.bool false, .int .i64 0, .slice none 0 0, .int .i64 0, .int .i64 0, .int .i64 0, .int .i64 0] 30)) fun k hk => by
    have := h.at'.lt hk
    exact (Below.heap_alloc _ _ k (by simp; omega)).trans (Below.heap_alloc _ _ k this)
  rw [World.size_alloc] at hb2
  have hcal := Br.Within_any hh2.at' hh2.good hh2.ge hh2.le hl c hc n
  have R1 : Bk.run T 4 c.data.toList n = ((Bk.within T c.data.toList n).1, { l := (Bk.within T c.data.toList n).2.1, e := (Bk.within T c.data.toList n).2.2, looked := Bk.w64 (Bk.within T c.data.toList n).1.seen }) := by unfold Bk.run; rw [if_neg (by decide), if_neg (by decide), if_neg (by decide), if_pos rfl]
  have hTl : (Bk.within T c.data.toList n).1.l = T.l ∧ (Bk.within T c.data.toList n).1.w = T.w := Bk.within_l T c.data.toList n
  rw [R1]
  generalize hA : Bk.within T c.data.toList n = A at hcal hTl ⊢
  obtain ⟨T', l, er⟩ := A
  simp only at hcal hTl ⊢
  have HH := Lib.hid (And.intro h (And.intro True.intro (And.intro ho2 (And.intro hTl hz2))))
  clear R1 h ho2 hA hh2 hTl hz2
  go_enter Tryz.func10, Tryz.ntmps10
  go_upto_region 11 with (go_at_call 25; refine hcal.mono ?_; clear hcal; rintro e w3 ⟨v, rfl, hrow, hA3, hO3⟩; obtain ⟨A, cap, rfl⟩ := Bk.row_form hrow)
  have hw3 := HH.out.2.2.1.trans hO3
  have hb3 : Blk w3 (W.heap.size + 1) 30 _ := (hO3.block _ (by have := HH.out.2.2.2.2; omega) fun hk => by have := HH.out.1.at'.lt hk; omega).trans hb2
  have c0 := hb3.cell 0
  have c1 := hb3.cell 1
  have c2 := hb3.cell 2
  have c3 := hb3.cell 3
  have c4 := hb3.cell 4
  have c5 := hb3.cell 5
  have c6 := hb3.cell 6
  have f0 := hb3.frozen 0
  have f1 := hb3.frozen 1
  have f2 := hb3.frozen 2
  have f3 := hb3.frozen 3
  have f4 := hb3.frozen 4
  have f5 := hb3.frozen 5
  have f6 := hb3.frozen 6
  simp only [List.getElem?_toArray, List.getElem?_cons_zero, List.getElem?_cons_succ] at c0 c1 c2 c3 c4 c5 c6
  have hv2 : ∀ k, (Value.slice A l.length cap).ownBlock = some k → ¬ F k ∧ k ≠ W.heap.size + 1 := fun k hk => by
    have h1 := (hrow.lt k hk).1
    rw [HH.out.2.2.2.2] at h1
    exact ⟨fun hf => by have := HH.out.1.at'.lt hf; omega, by omega⟩
  have hro := Bk.own_base hrow (B' := W.heap.size) (by have := HH.out.2.2.2.2; omega)
  have HF := Lib.hid (And.intro (show ∀ k, F k → F k ∨ W.heap.size + 2 ≤ k from fun k hk => .inl hk) (And.intro hA3 (And.intro (show Bk.Good T'.w T'.l from by rw [HH.out.2.2.2.1.1, HH.out.2.2.2.1.2]; exact HH.out.1.good) (show Bt.wide T'.w = true from by rw [HH.out.2.2.2.1.2]; exact HH.out.1.wide))))
  have HG := Lib.hid (And.intro hro hv2)
  clear hb2 hrow hro hv2 hA3 hO3
  go_wp2_with (go_at_call 26; refine (Br.looked_any HF.out.2.1).mono ?_; rintro e' w4 ⟨rfl, rfl⟩)
  obtain ⟨t0, t1, t2, t3, t4, t5, t6⟩ := Bk.seven hb3 (.bool false) (.int .i64 er) (.slice A l.length cap) (.int .i64 0) (.int .i64 0) (.int .i64 0) ((.int .i64 (Bk.w64 T'.seen)))
  have D := Br.did_of (R := (T', { l := l, e := er, looked := Bk.w64 T'.seen })) (v := .slice A l.length cap) HH.out.1 HH.out.2.1 hw3 HF.out.2.1 HF.out.2.2.1 HF.out.2.2.2 HF.out.1 HG.out.1 HG.out.2
  dsimp only at D
  generalize ((((((w3.setCell ⟨W.heap.size + 1, 0, none⟩ (.bool false)).setCell ⟨W.heap.size + 1, 1, none⟩ (.int .i64 er)).setCell ⟨W.heap.size + 1, 2, none⟩ (.slice A l.length cap)).setCell ⟨W.heap.size + 1, 3, none⟩ (.int .i64 0)).setCell ⟨W.heap.size + 1, 4, none⟩ (.int .i64 0)).setCell ⟨W.heap.size + 1, 5, none⟩ (.int .i64 0)).setCell ⟨W.heap.size + 1, 6, none⟩ ((.int .i64 (Bk.w64 T'.seen))) = X at t0 t1 t2 t3 t4 t5 t6 D ⊢
  exact bodyPost_ret (v := .agg #[.bool false, .int .i64 er, .slice A l.length cap, .int .i64 0, .int .i64 0, .int .i64 0, (.int .i64 (Bk.w64 T'.seen))]) (by simp [results, Tryz.results10, go_sem, t0, t1, t2, t3, t4, t5, t6]) rfl D
set_option maxRecDepth 100000 in
set_option maxHeartbeats 4000000 in
theorem Br.told_nearest (h : Br.Tree W t T F) (hl : T.l.length ≤ 4398046511104) (c : ByteArray) (hc : c.size ≤ 9223372036854775807) (n : Int) :
    Calls Tryz.prog 10 #[.pointer (some ⟨t, 0, none⟩), .agg #[.int .i64 5, .string c, .int .i64 n]] W (Br.Did W t F (Bk.run T 5 c.data.toList n)) := by
  have ho2 : Bk.Only F W ((W.alloc (.cells #[.int .i64 5, .string c, .int .i64 n] 33)).alloc (.cells #[.bool false, .int .i64 0, .slice none 0 0, .int .i64 0, .int .i64 0, .int .i64 0, .int .i64 0] 30)) := ((Bk.Only.refl _ W).alloc _).alloc _
  have hb2 := Blk.new (W.alloc (.cells #[.int .i64 5, .string c, .int .i64 n] 33)) 30 #[.bool false, .int .i64 0, .slice none 0 0, .int .i64 0, .int .i64 0, .int .i64 0, .int .i64 0]
  have hz2 : ((W.alloc (.cells #[.int .i64 5, .string c, .int .i64 n] 33)).alloc (.cells #[.bool false, .int .i64 0, .slice none 0 0, .int .i64 0, .int .i64 0, .int .i64 0, .int .i64 0] 30)).heap.size = W.heap.size + 2 := by simp
  have hh2 := h.keep (W' := (W.alloc (.cells #[.int .i64 5, .string c, .int .i64 n] 33)).alloc (.cells #[.bool false, .int .i64 0, .slice none 0 0, .int .i64 0, .int .i64 0, .int .i64 0, .int .i64 0] 30)) fun k hk => by
    have := h.at'.lt hk
    exact (Below.heap_alloc _ _ k (by simp; omega)).trans (Below.heap_alloc _ _ k this)
  rw [World.size_alloc] at hb2
  have hcal := Br.Nearest_any hh2.at' hh2.good hh2.ge hh2.le hl c hc n
  have R1 : Bk.run T 5 c.data.toList n = ((Bk.nearest T c.data.toList n).1, { l := (Bk.nearest T c.data.toList n).2.1, e := (Bk.nearest T c.data.toList n).2.2, looked := Bk.w64 (Bk.nearest T c.data.toList n).1.seen }) := by unfold Bk.run; rw [if_neg (by decide), if_neg (by decide), if_neg (by decide), if_neg (by decide), if_pos rfl]
  have hTl : (Bk.nearest T c.data.toList n).1.l = T.l ∧ (Bk.nearest T c.data.toList n).1.w = T.w := Bk.nearest_l T c.data.toList n
  rw [R1]
  generalize hA : Bk.nearest T c.data.toList n = A at hcal hTl ⊢
  obtain ⟨T', l, er⟩ := A
  simp only at hcal hTl ⊢
  have HH := Lib.hid (And.intro h (And.intro True.intro (And.intro ho2 (And.intro hTl hz2))))
  clear R1 h ho2 hA hh2 hTl hz2
  go_enter Tryz.func10, Tryz.ntmps10
  go_upto_region 14 with (go_at_call 27; refine hcal.mono ?_; clear hcal; rintro e w3 ⟨v, rfl, hrow, hA3, hO3⟩; obtain ⟨A, cap, rfl⟩ := Bk.row_form hrow)
  have hw3 := HH.out.2.2.1.trans hO3
  have hb3 : Blk w3 (W.heap.size + 1) 30 _ := (hO3.block _ (by have := HH.out.2.2.2.2; omega) fun hk => by have := HH.out.1.at'.lt hk; omega).trans hb2
  have c0 := hb3.cell 0
  have c1 := hb3.cell 1
  have c2 := hb3.cell 2
  have c3 := hb3.cell 3
  have c4 := hb3.cell 4
  have c5 := hb3.cell 5
  have c6 := hb3.cell 6
  have f0 := hb3.frozen 0
  have f1 := hb3.frozen 1
  have f2 := hb3.frozen 2
  have f3 := hb3.frozen 3
  have f4 := hb3.frozen 4
  have f5 := hb3.frozen 5
  have f6 := hb3.frozen 6
  simp only [List.getElem?_toArray, List.getElem?_cons_zero, List.getElem?_cons_succ] at c0 c1 c2 c3 c4 c5 c6
  have hv2 : ∀ k, (Value.slice A l.length cap).ownBlock = some k → ¬ F k ∧ k ≠ W.heap.size + 1 := fun k hk => by
    have h1 := (hrow.lt k hk).1
    rw [HH.out.2.2.2.2] at h1
    exact ⟨fun hf => by have := HH.out.1.at'.lt hf; omega, by omega⟩
  have hro := Bk.own_base hrow (B' := W.heap.size) (by have := HH.out.2.2.2.2; omega)
  have HF := Lib.hid (And.intro (show ∀ k, F k → F k ∨ W.heap.size + 2 ≤ k from fun k hk => .inl hk) (And.intro hA3 (And.intro (show Bk.Good T'.w T'.l from by rw [HH.out.2.2.2.1.1, HH.out.2.2.2.1.2]; exact HH.out.1.good) (show Bt.wide T'.w = true from by rw [HH.out.2.2.2.1.2]; exact HH.out.1.wide))))
  have HG := Lib.hid (And.intro hro hv2)
  clear hb2 hrow hro hv2 hA3 hO3
  go_wp2_with (go_at_call 26; refine (Br.looked_any HF.out.2.1).mono ?_; rintro e' w4 ⟨rfl, rfl⟩)
  obtain ⟨t0, t1, t2, t3, t4, t5, t6⟩ := Bk.seven hb3 (.bool false) (.int .i64 er) (.slice A l.length cap) (.int .i64 0) (.int .i64 0) (.int .i64 0) ((.int .i64 (Bk.w64 T'.seen)))
  have D := Br.did_of (R := (T', { l := l, e := er, looked := Bk.w64 T'.seen })) (v := .slice A l.length cap) HH.out.1 HH.out.2.1 hw3 HF.out.2.1 HF.out.2.2.1 HF.out.2.2.2 HF.out.1 HG.out.1 HG.out.2
  dsimp only at D
  generalize ((((((w3.setCell ⟨W.heap.size + 1, 0, none⟩ (.bool false)).setCell ⟨W.heap.size + 1, 1, none⟩ (.int .i64 er)).setCell ⟨W.heap.size + 1, 2, none⟩ (.slice A l.length cap)).setCell ⟨W.heap.size + 1, 3, none⟩ (.int .i64 0)).setCell ⟨W.heap.size + 1, 4, none⟩ (.int .i64 0)).setCell ⟨W.heap.size + 1, 5, none⟩ (.int .i64 0)).setCell ⟨W.heap.size + 1, 6, none⟩ ((.int .i64 (Bk.w64 T'.seen))) = X at t0 t1 t2 t3 t4 t5 t6 D ⊢
  exact bodyPost_ret (v := .agg #[.bool false, .int .i64 er, .slice A l.length cap, .int .i64 0, .int .i64 0, .int .i64 0, (.int .i64 (Bk.w64 T'.seen))]) (by simp [results, Tryz.results10, go_sem, t0, t1, t2, t3, t4, t5, t6]) rfl D
end
theorem Br.told_any {W : World} {t : Nat} {T : Bk.T} {F : Nat → Prop} (h : Br.Tree W t T F) (hl : T.l.length ≤ 4398046511103) (c : ByteArray) (hc : c.size ≤ 9223372036854775807) (kd n : Int) :
    Calls Tryz.prog 10 #[.pointer (some ⟨t, 0, none⟩), .agg #[.int .i64 kd, .string c, .int .i64 n]] W (Br.Did W t F (Bk.run T kd c.data.toList n)) := by
  by_cases k1 : kd = 1
  · subst k1; exact Br.told_add h hl c hc n
  by_cases k2 : kd = 2
  · subst k2; exact Br.told_drop h hl c hc n
  by_cases k3 : kd = 3
  · subst k3; exact Br.told_has h hl c hc n
  by_cases k4 : kd = 4
  · subst k4; exact Br.told_within h (by omega) c hc n
  by_cases k5 : kd = 5
  · subst k5; exact Br.told_nearest h (by omega) c hc n
  by_cases k6 : kd = 6
  · subst k6; exact Br.told_tell h (by omega) c hc n
  exact Br.told_none h hl c hc n kd k1 k2 k3 k4 k5 k6
end Go.Proofs.YtikhahkmebkccaaGreatDoor
