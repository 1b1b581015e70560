/- Contract of the law's do. Conditions: each theorem's own hypotheses. -/
import Derived.Test.YtikhahkmebkccaaGreatDoorBkU
import Derived.Test.YtikhahkmebkccaaGreatDoorBkV
namespace Go.Proofs.YtikhahkmebkccaaGreatDoor
open Go.RowKit Go.Maps Go.Sort Go.Shelf
set_option linter.unusedVariables false
set_option linter.unusedSimpArgs false

/-- What a call answered. -/
structure Bk.G where
  yes : Bool := false
  e : Int := 0
  l : List Bk.H := []
  len : Nat := 0
  nodes : Nat := 0
  depth : Nat := 0
  looked : Int := 0
def Bk.run (T : Bk.T) (k : Int) (c : List UInt8) (n : Int) : Bk.T × Bk.G :=
  if k = 1 then ((Bk.add T c).1, { yes := (Bk.add T c).2.1, e := (Bk.add T c).2.2 })
  else if k = 2 then ((Bk.drop T c).1, { yes := (Bk.drop T c).2 })
  else if k = 3 then (T, { yes := Bk.has T c })
  else if k = 4 then ((Bk.within T c n).1, { l := (Bk.within T c n).2.1, e := (Bk.within T c n).2.2, looked := Bk.w64 (Bk.within T c n).1.seen })
  else if k = 5 then ((Bk.nearest T c n).1, { l := (Bk.nearest T c n).2.1, e := (Bk.nearest T c n).2.2, looked := Bk.w64 (Bk.nearest T c n).1.seen })
  else if k = 6 then (T, { len := Bk.live T.l, nodes := T.l.length, depth := Bk.depth (Bk.os T.l), looked := Bk.w64 T.seen })
  else (T, {})
/-- A tree in memory, as it always is. -/
structure Bk.Tree (W : World) (t : Nat) (T : Bk.T) (F : Nat → Prop) : Prop where
  at' : Bk.At W t T F
  good : Bk.Good T.w T.l
  wide : Bt.wide T.w = true
  off : ∀ k, F k → k ≠ 1
theorem Bk.Tree.keep {W W' : World} {t : Nat} {T : Bk.T} {F : Nat → Prop} (h : Bk.Tree W t T F) (hk : ∀ k, F k → W'.heap[k]? = W.heap[k]?) : Bk.Tree W' t T F := ⟨h.at'.keep hk, h.good, h.wide, h.off⟩
theorem Bk.Tree.tab {W w : World} {t : Nat} {T : Bk.T} {F : Nat → Prop} (h : Bk.Tree W t T F) (hT : TabO W) (ho : Bk.Only F W w) : TabO w := hT.keep (ho.block _ hT.pos fun e => h.off _ e rfl)
theorem Bk.Tree.le {W : World} {t : Nat} {T : Bk.T} {F : Nat → Prop} (h : Bk.Tree W t T F) : T.w ≤ 1024 := by have := Bt.wide_in h.wide; omega
theorem Bk.own_base {w : World} {B B' : Nat} {e : TypeId} {size n : Nat} {v : Value} {xs : List Value} (h : w.ownsRow B e size v n xs) (hB : B' ≤ B) : w.ownsRow B' e size v n xs := by
  rcases h.2 with h1 | ⟨g, cap, cur, e1, e2, r⟩
  · exact ⟨h.1, .inl h1⟩
  · exact ⟨h.1, .inr ⟨g, cap, cur, e1, by omega, r⟩⟩
/-- What a call leaves. -/
def Bk.Did (W : World) (t : Nat) (F : Nat → Prop) (R : Bk.T × Bk.G) (e : Ending) (W' : World) : Prop :=
  ∃ v F', e = .returned (.agg #[.bool R.2.yes, .int .i64 R.2.e, v, .int .i64 R.2.len, .int .i64 R.2.nodes, .int .i64 R.2.depth, .int .i64 R.2.looked]) ∧
    W'.ownsRow W.heap.size 61 3 v R.2.l.length (Bk.hcs R.2.l) ∧ Bk.Tree W' t R.1 F' ∧ Bk.Only F W W' ∧ (∀ k, F' k → F k ∨ W.heap.size ≤ k) ∧ (∀ k, v.ownBlock = some k → ¬ F' k) ∧ TabO W'
/-- Seven cells are written. -/
theorem Bk.seven {w : World} {b : Nat} {u0 u1 u2 u3 u4 u5 u6 : Value} (h : Blk w b 30 #[u0, u1, u2, u3, u4, u5, u6]) (v0 v1 v2 v3 v4 v5 v6 : Value) :
    (((((((w.setCell ⟨b, 0, none⟩ v0).setCell ⟨b, 1, none⟩ v1).setCell ⟨b, 2, none⟩ v2).setCell ⟨b, 3, none⟩ v3).setCell ⟨b, 4, none⟩ v4).setCell ⟨b, 5, none⟩ v5).setCell ⟨b, 6, none⟩ v6).cell? ⟨b, 0, none⟩ = some v0 ∧
    (((((((w.setCell ⟨b, 0, none⟩ v0).setCell ⟨b, 1, none⟩ v1).setCell ⟨b, 2, none⟩ v2).setCell ⟨b, 3, none⟩ v3).setCell ⟨b, 4, none⟩ v4).setCell ⟨b, 5, none⟩ v5).setCell ⟨b, 6, none⟩ v6).cell? ⟨b, 1, none⟩ = some v1 ∧
    (((((((w.setCell ⟨b, 0, none⟩ v0).setCell ⟨b, 1, none⟩ v1).setCell ⟨b, 2, none⟩ v2).setCell ⟨b, 3, none⟩ v3).setCell ⟨b, 4, none⟩ v4).setCell ⟨b, 5, none⟩ v5).setCell ⟨b, 6, none⟩ v6).cell? ⟨b, 2, none⟩ = some v2 ∧
    (((((((w.setCell ⟨b, 0, none⟩ v0).setCell ⟨b, 1, none⟩ v1).setCell ⟨b, 2, none⟩ v2).setCell ⟨b, 3, none⟩ v3).setCell ⟨b, 4, none⟩ v4).setCell ⟨b, 5, none⟩ v5).setCell ⟨b, 6, none⟩ v6).cell? ⟨b, 3, none⟩ = some v3 ∧
    (((((((w.setCell ⟨b, 0, none⟩ v0).setCell ⟨b, 1, none⟩ v1).setCell ⟨b, 2, none⟩ v2).setCell ⟨b, 3, none⟩ v3).setCell ⟨b, 4, none⟩ v4).setCell ⟨b, 5, none⟩ v5).setCell ⟨b, 6, none⟩ v6).cell? ⟨b, 4, none⟩ = some v4 ∧
    (((((((w.setCell ⟨b, 0, none⟩ v0).setCell ⟨b, 1, none⟩ v1).setCell ⟨b, 2, none⟩ v2).setCell ⟨b, 3, none⟩ v3).setCell ⟨b, 4, none⟩ v4).setCell ⟨b, 5, none⟩ v5).setCell ⟨b, 6, none⟩ v6).cell? ⟨b, 5, none⟩ = some v5 ∧
    (((((((w.setCell ⟨b, 0, none⟩ v0).setCell ⟨b, 1, none⟩ v1).setCell ⟨b, 2, none⟩ v2).setCell ⟨b, 3, none⟩ v3).setCell ⟨b, 4, none⟩ v4).setCell ⟨b, 5, none⟩ v5).setCell ⟨b, 6, none⟩ v6).cell? ⟨b, 6, none⟩ = some v6 := by
  have h7 := ((((((h.set_ 0 v0).set_ 1 v1).set_ 2 v2).set_ 3 v3).set_ 4 v4).set_ 5 v5).set_ 6 v6
  generalize (((((((w.setCell ⟨b, 0, none⟩ v0).setCell ⟨b, 1, none⟩ v1).setCell ⟨b, 2, none⟩ v2).setCell ⟨b, 3, none⟩ v3).setCell ⟨b, 4, none⟩ v4).setCell ⟨b, 5, none⟩ v5).setCell ⟨b, 6, none⟩ v6) = X at h7 ⊢
  simp only [List.setIfInBounds_toArray, List.set_cons_zero, List.set_cons_succ] at h7
  exact ⟨h7.cell 0, h7.cell 1, h7.cell 2, h7.cell 3, h7.cell 4, h7.cell 5, h7.cell 6⟩
theorem Bk.seven_only {W w : World} {b : Nat} {F : Nat → Prop} (h : Bk.Only F W w) (hb : W.heap.size ≤ b) (v0 v1 v2 v3 v4 v5 v6 : Value) :
    Bk.Only F W (((((((w.setCell ⟨b, 0, none⟩ v0).setCell ⟨b, 1, none⟩ v1).setCell ⟨b, 2, none⟩ v2).setCell ⟨b, 3, none⟩ v3).setCell ⟨b, 4, none⟩ v4).setCell ⟨b, 5, none⟩ v5).setCell ⟨b, 6, none⟩ v6) :=
  ((((((h.setCell (p := ⟨b, 0, none⟩) (.inr hb) v0).setCell (p := ⟨b, 1, none⟩) (.inr hb) v1).setCell (p := ⟨b, 2, none⟩) (.inr hb) v2).setCell (p := ⟨b, 3, none⟩) (.inr hb) v3).setCell (p := ⟨b, 4, none⟩) (.inr hb) v4).setCell (p := ⟨b, 5, none⟩) (.inr hb) v5).setCell (p := ⟨b, 6, none⟩) (.inr hb) v6
theorem Bk.seven_far {w : World} {b j : Nat} (h : j ≠ b) (v0 v1 v2 v3 v4 v5 v6 : Value) : (((((((w.setCell ⟨b, 0, none⟩ v0).setCell ⟨b, 1, none⟩ v1).setCell ⟨b, 2, none⟩ v2).setCell ⟨b, 3, none⟩ v3).setCell ⟨b, 4, none⟩ v4).setCell ⟨b, 5, none⟩ v5).setCell ⟨b, 6, none⟩ v6).heap[j]? = w.heap[j]? := by
  rw [Below.heap_setCell _ ⟨b, 6, none⟩ v6 j h, Below.heap_setCell _ ⟨b, 5, none⟩ v5 j h, Below.heap_setCell _ ⟨b, 4, none⟩ v4 j h, Below.heap_setCell _ ⟨b, 3, none⟩ v3 j h, Below.heap_setCell _ ⟨b, 2, none⟩ v2 j h, Below.heap_setCell _ ⟨b, 1, none⟩ v1 j h, Below.heap_setCell _ ⟨b, 0, none⟩ v0 j h]
theorem Bk.seven_at {w : World} {t b : Nat} {T : Bk.T} {F : Nat → Prop} (h : Bk.At w t T F) (hb : ¬ F b) (v0 v1 v2 v3 v4 v5 v6 : Value) :
    Bk.At (((((((w.setCell ⟨b, 0, none⟩ v0).setCell ⟨b, 1, none⟩ v1).setCell ⟨b, 2, none⟩ v2).setCell ⟨b, 3, none⟩ v3).setCell ⟨b, 4, none⟩ v4).setCell ⟨b, 5, none⟩ v5).setCell ⟨b, 6, none⟩ v6) t T F :=
  h.keep fun k hk => Bk.seven_far (fun e => hb (by rw [← e]; exact hk)) _ _ _ _ _ _ _
theorem Bk.did_of {W w3 : World} {t : Nat} {T : Bk.T} {F F' : Nat → Prop} {R : Bk.T × Bk.G} {v : Value} (h : Bk.Tree W t T F) (hT : TabO W) (hw3 : Bk.Only F W w3) (hA : Bk.At w3 t R.1 F') (hG : Bk.Good R.1.w R.1.l) (hw : Bt.wide R.1.w = true)
    (hF : ∀ k, F' k → F k ∨ W.heap.size + 2 ≤ k) (hrow : w3.ownsRow W.heap.size 61 3 v R.2.l.length (Bk.hcs R.2.l)) (hv : ∀ k, v.ownBlock = some k → ¬ F' k ∧ k ≠ W.heap.size + 1) :
    Bk.Did W t F R (.returned (.agg #[.bool R.2.yes, .int .i64 R.2.e, v, .int .i64 R.2.len, .int .i64 R.2.nodes, .int .i64 R.2.depth, .int .i64 R.2.looked]))
      (((((((w3.setCell ⟨W.heap.size + 1, 0, none⟩ (.bool R.2.yes)).setCell ⟨W.heap.size + 1, 1, none⟩ (.int .i64 R.2.e)).setCell ⟨W.heap.size + 1, 2, none⟩ v).setCell ⟨W.heap.size + 1, 3, none⟩ (.int .i64 R.2.len)).setCell ⟨W.heap.size + 1, 4, none⟩ (.int .i64 R.2.nodes)).setCell ⟨W.heap.size + 1, 5, none⟩ (.int .i64 R.2.depth)).setCell ⟨W.heap.size + 1, 6, none⟩ (.int .i64 R.2.looked)) := by
  have o7 := Bk.seven_only hw3 (b := W.heap.size + 1) (Nat.le_succ _) (.bool R.2.yes) (.int .i64 R.2.e) v (.int .i64 R.2.len) (.int .i64 R.2.nodes) (.int .i64 R.2.depth) (.int .i64 R.2.looked)
  have a7 := Bk.seven_at hA (b := W.heap.size + 1) (fun hk => by
    rcases hF _ hk with h1 | h1
    · have := h.at'.lt h1; omega
    · omega) (.bool R.2.yes) (.int .i64 R.2.e) v (.int .i64 R.2.len) (.int .i64 R.2.nodes) (.int .i64 R.2.depth) (.int .i64 R.2.looked)
  have r7 := Bk.own_of hrow fun k hk => Bk.seven_far (hv k hk).2 (.bool R.2.yes) (.int .i64 R.2.e) v (.int .i64 R.2.len) (.int .i64 R.2.nodes) (.int .i64 R.2.depth) (.int .i64 R.2.looked)
  refine ⟨v, F', rfl, r7, ⟨a7, hG, hw, fun k hk => ?_⟩, o7, fun k hk => (hF k hk).imp id fun h1 => by omega, fun k hk => (hv k hk).1, h.tab hT o7⟩
  have := hT.pos
  rcases hF k hk with h1 | h1
  · exact h.off k h1
  · omega
theorem Bk.within_l (T : Bk.T) (c : List UInt8) (n : Int) : (Bk.within T c n).1.l = T.l ∧ (Bk.within T c n).1.w = T.w := by
  unfold Bk.within
  (repeat' split) <;> exact ⟨rfl, rfl⟩
theorem Bk.nearest_l (T : Bk.T) (c : List UInt8) (n : Int) : (Bk.nearest T c n).1.l = T.l ∧ (Bk.nearest T c n).1.w = T.w := by
  unfold Bk.nearest
  (repeat' split) <;> exact ⟨rfl, rfl⟩
section
variable {W : World} {t : Nat} {T : Bk.T} {F : Nat → Prop}
set_option maxRecDepth 100000 in
set_option maxHeartbeats 4000000 in
theorem Bk.do_add (h : Bk.Tree W t T F) (hT : TabO W) (hl : T.l.length ≤ 4398046511104) (c : ByteArray) (hc : c.size ≤ 9223372036854775807) (n : Int) :
    Calls Tryz.prog 9 #[.pointer (some ⟨t, 0, none⟩), .agg #[.int .i64 1, .string c, .int .i64 n]] W (Bk.Did W t F (Bk.run T 1 c.data.toList n)) := by
  have ho2 : Bk.Only F W ((W.alloc (.cells #[.int .i64 1, .string c, .int .i64 n] 33)).alloc (.cells #[.bool false, .int .i64 0, .slice none 0 0, .int .i64 0, .int .i64 0, .int .i64 0, .int .i64 0] 30)) := ((Bk.Only.refl _ W).alloc _).alloc _
  have hb2 := Blk.new (W.alloc (.cells #[.int .i64 1, .string c, .int .i64 n] 33)) 30 #[.bool false, .int .i64 0, .slice none 0 0, .int .i64 0, .int .i64 0, .int .i64 0, .int .i64 0]
  have hz2 : ((W.alloc (.cells #[.int .i64 1, .string c, .int .i64 n] 33)).alloc (.cells #[.bool false, .int .i64 0, .slice none 0 0, .int .i64 0, .int .i64 0, .int .i64 0, .int .i64 0] 30)).heap.size = W.heap.size + 2 := by simp
  have hh2 := h.keep (W' := (W.alloc (.cells #[.int .i64 1, .string c, .int .i64 n] 33)).alloc (.cells #[.bool false, .int .i64 0, .slice none 0 0, .int .i64 0, .int .i64 0, .int .i64 0, .int .i64 0] 30)) fun k hk => by
    have := h.at'.lt hk
    exact (Below.heap_alloc _ _ k (by simp; omega)).trans (Below.heap_alloc _ _ k this)
  rw [World.size_alloc] at hb2
  have hcal := Bk.add_any hh2.at' hh2.good hh2.wide c hc hl fun w hw => h.tab hT (ho2.trans hw)
  have hgd := h.good.add c.data.toList
  have R1 : Bk.run T 1 c.data.toList n = ((Bk.add T c.data.toList).1, { yes := (Bk.add T c.data.toList).2.1, e := (Bk.add T c.data.toList).2.2 }) := by unfold Bk.run; rw [if_pos rfl]
  rw [R1]
  generalize hA : Bk.add T c.data.toList = A at hcal hgd ⊢
  obtain ⟨T', y, er⟩ := A
  simp only at hcal hgd ⊢
  have HH := Lib.hid (And.intro h (And.intro hT (And.intro ho2 (And.intro hgd hz2))))
  clear R1 h hT ho2 hA hh2 hgd hz2
  go_enter Tryz.func9, Tryz.ntmps9
  go_wp2_with (go_at_call 13; refine hcal.mono ?_; clear hcal; rintro e w3 ⟨rfl, F', hA3, hO3, hF3⟩; have hw3 := HH.out.2.2.1.trans hO3; have hb3 : Blk w3 (W.heap.size + 1) 30 _ := (hO3.block _ (by have := HH.out.2.2.2.2; omega) fun hk => by have := HH.out.1.at'.lt hk; omega).trans hb2; have c0 := hb3.cell 0; have c1 := hb3.cell 1; have c2 := hb3.cell 2; have c3 := hb3.cell 3; have c4 := hb3.cell 4; have c5 := hb3.cell 5; have c6 := hb3.cell 6; have f0 := hb3.frozen 0; have f1 := hb3.frozen 1; have f2 := hb3.frozen 2; have f3 := hb3.frozen 3; have f4 := hb3.frozen 4; have f5 := hb3.frozen 5; have f6 := hb3.frozen 6; simp only [List.getElem?_toArray, List.getElem?_cons_zero, List.getElem?_cons_succ] at c0 c1 c2 c3 c4 c5 c6; have hF4 : ∀ k, F' k → F k ∨ W.heap.size + 2 ≤ k := (by rw [HH.out.2.2.2.2] at hF3; exact hF3); have HF := Lib.hid (And.intro hF4 (And.intro hA3 (And.intro hO3 (And.intro (show Bk.Good T'.w T'.l from by rw [HH.out.2.2.2.1.2]; exact HH.out.2.2.2.1.1) (show Bt.wide T'.w = true from by rw [HH.out.2.2.2.1.2]; exact HH.out.1.wide))))); clear hb2 hF3 hF4 hA3 hO3)
  have HG := Lib.hid (And.intro (show w3.ownsRow W.heap.size 61 3 (.slice none 0 0) 0 [] from ⟨by simp, .inl ⟨rfl, rfl⟩⟩) (show ∀ k, (Value.slice none 0 0).ownBlock = some k → ¬ F' k ∧ k ≠ W.heap.size + 1 from fun k hk => by simp [Value.ownBlock] at hk))
  obtain ⟨t0, t1, t2, t3, t4, t5, t6⟩ := Bk.seven hb3 (.bool y) (.int .i64 er) (.slice none 0 0) (.int .i64 0) (.int .i64 0) (.int .i64 0) (.int .i64 0)
  have D := Bk.did_of (R := (T', { yes := y, e := er })) (v := .slice none 0 0) HH.out.1 HH.out.2.1 hw3 HF.out.2.1 HF.out.2.2.2.1 HF.out.2.2.2.2 HF.out.1 HG.out.1 HG.out.2
  dsimp only at D
  generalize ((((((w3.setCell ⟨W.heap.size + 1, 0, none⟩ (.bool y)).setCell ⟨W.heap.size + 1, 1, none⟩ (.int .i64 er)).setCell ⟨W.heap.size + 1, 2, none⟩ (.slice none 0 0)).setCell ⟨W.heap.size + 1, 3, none⟩ (.int .i64 0)).setCell ⟨W.heap.size + 1, 4, none⟩ (.int .i64 0)).setCell ⟨W.heap.size + 1, 5, none⟩ (.int .i64 0)).setCell ⟨W.heap.size + 1, 6, none⟩ (.int .i64 0) = X at t0 t1 t2 t3 t4 t5 t6 D ⊢
  exact bodyPost_ret (v := .agg #[.bool y, .int .i64 er, .slice none 0 0, .int .i64 0, .int .i64 0, .int .i64 0, .int .i64 0]) (by simp [results, Tryz.results9, go_sem, t0, t1, t2, t3, t4, t5, t6]) rfl D
set_option maxRecDepth 100000 in
set_option maxHeartbeats 4000000 in
theorem Bk.do_drop (h : Bk.Tree W t T F) (hT : TabO W) (hl : T.l.length ≤ 4398046511104) (c : ByteArray) (hc : c.size ≤ 9223372036854775807) (n : Int) :
    Calls Tryz.prog 9 #[.pointer (some ⟨t, 0, none⟩), .agg #[.int .i64 2, .string c, .int .i64 n]] W (Bk.Did W t F (Bk.run T 2 c.data.toList n)) := by
  have ho2 : Bk.Only F W ((W.alloc (.cells #[.int .i64 2, .string c, .int .i64 n] 33)).alloc (.cells #[.bool false, .int .i64 0, .slice none 0 0, .int .i64 0, .int .i64 0, .int .i64 0, .int .i64 0] 30)) := ((Bk.Only.refl _ W).alloc _).alloc _
  have hb2 := Blk.new (W.alloc (.cells #[.int .i64 2, .string c, .int .i64 n] 33)) 30 #[.bool false, .int .i64 0, .slice none 0 0, .int .i64 0, .int .i64 0, .int .i64 0, .int .i64 0]
  have hz2 : ((W.alloc (.cells #[.int .i64 2, .string c, .int .i64 n] 33)).alloc (.cells #[.bool false, .int .i64 0, .slice none 0 0, .int .i64 0, .int .i64 0, .int .i64 0, .int .i64 0] 30)).heap.size = W.heap.size + 2 := by simp
  have hh2 := h.keep (W' := (W.alloc (.cells #[.int .i64 2, .string c, .int .i64 n] 33)).alloc (.cells #[.bool false, .int .i64 0, .slice none 0 0, .int .i64 0, .int .i64 0, .int .i64 0, .int .i64 0] 30)) fun k hk => by
    have := h.at'.lt hk
    exact (Below.heap_alloc _ _ k (by simp; omega)).trans (Below.heap_alloc _ _ k this)
  rw [World.size_alloc] at hb2
  have hcal := Bk.drop_any hh2.at' hh2.good hh2.le c hc hl fun w hw => h.tab hT (ho2.trans hw)
  have hgd := h.good.drop c.data.toList
  have R1 : Bk.run T 2 c.data.toList n = ((Bk.drop T c.data.toList).1, { yes := (Bk.drop T c.data.toList).2 }) := by unfold Bk.run; rw [if_neg (by decide), if_pos rfl]
  rw [R1]
  generalize hA : Bk.drop T c.data.toList = A at hcal hgd ⊢
  obtain ⟨T', y⟩ := A
  simp only at hcal hgd ⊢
  have HH := Lib.hid (And.intro h (And.intro hT (And.intro ho2 (And.intro hgd hz2))))
  clear R1 h hT ho2 hA hh2 hgd hz2
  go_enter Tryz.func9, Tryz.ntmps9
  go_wp2_with (go_at_call 14; refine hcal.mono ?_; clear hcal; rintro e w3 ⟨rfl, F', hA3, hO3, hF3⟩; have hw3 := HH.out.2.2.1.trans hO3; have hb3 : Blk w3 (W.heap.size + 1) 30 _ := (hO3.block _ (by have := HH.out.2.2.2.2; omega) fun hk => by have := HH.out.1.at'.lt hk; omega).trans hb2; have c0 := hb3.cell 0; have c1 := hb3.cell 1; have c2 := hb3.cell 2; have c3 := hb3.cell 3; have c4 := hb3.cell 4; have c5 := hb3.cell 5; have c6 := hb3.cell 6; have f0 := hb3.frozen 0; have f1 := hb3.frozen 1; have f2 := hb3.frozen 2; have f3 := hb3.frozen 3; have f4 := hb3.frozen 4; have f5 := hb3.frozen 5; have f6 := hb3.frozen 6; simp only [List.getElem?_toArray, List.getElem?_cons_zero, List.getElem?_cons_succ] at c0 c1 c2 c3 c4 c5 c6; have hF4 : ∀ k, F' k → F k ∨ W.heap.size + 2 ≤ k := (by rw [HH.out.2.2.2.2] at hF3; exact hF3); have HF := Lib.hid (And.intro hF4 (And.intro hA3 (And.intro hO3 (And.intro (show Bk.Good T'.w T'.l from by rw [HH.out.2.2.2.1.2]; exact HH.out.2.2.2.1.1) (show Bt.wide T'.w = true from by rw [HH.out.2.2.2.1.2]; exact HH.out.1.wide))))); clear hb2 hF3 hF4 hA3 hO3)
  have HG := Lib.hid (And.intro (show w3.ownsRow W.heap.size 61 3 (.slice none 0 0) 0 [] from ⟨by simp, .inl ⟨rfl, rfl⟩⟩) (show ∀ k, (Value.slice none 0 0).ownBlock = some k → ¬ F' k ∧ k ≠ W.heap.size + 1 from fun k hk => by simp [Value.ownBlock] at hk))
  obtain ⟨t0, t1, t2, t3, t4, t5, t6⟩ := Bk.seven hb3 (.bool y) (.int .i64 0) (.slice none 0 0) (.int .i64 0) (.int .i64 0) (.int .i64 0) (.int .i64 0)
  have D := Bk.did_of (R := (T', { yes := y })) (v := .slice none 0 0) HH.out.1 HH.out.2.1 hw3 HF.out.2.1 HF.out.2.2.2.1 HF.out.2.2.2.2 HF.out.1 HG.out.1 HG.out.2
  dsimp only at D
  generalize ((((((w3.setCell ⟨W.heap.size + 1, 0, none⟩ (.bool y)).setCell ⟨W.heap.size + 1, 1, none⟩ (.int .i64 0)).setCell ⟨W.heap.size + 1, 2, none⟩ (.slice none 0 0)).setCell ⟨W.heap.size + 1, 3, none⟩ (.int .i64 0)).setCell ⟨W.heap.size + 1, 4, none⟩ (.int .i64 0)).setCell ⟨W.heap.size + 1, 5, none⟩ (.int .i64 0)).setCell ⟨W.heap.size + 1, 6, none⟩ (.int .i64 0) = X at t0 t1 t2 t3 t4 t5 t6 D ⊢
  exact bodyPost_ret (v := .agg #[.bool y, .int .i64 0, .slice none 0 0, .int .i64 0, .int .i64 0, .int .i64 0, .int .i64 0]) (by simp [results, Tryz.results9, go_sem, t0, t1, t2, t3, t4, t5, t6]) rfl D
set_option maxRecDepth 100000 in
set_option maxHeartbeats 4000000 in
theorem Bk.do_has (h : Bk.Tree W t T F) (hT : TabO W) (hl : T.l.length ≤ 4398046511104) (c : ByteArray) (hc : c.size ≤ 9223372036854775807) (n : Int) :
    Calls Tryz.prog 9 #[.pointer (some ⟨t, 0, none⟩), .agg #[.int .i64 3, .string c, .int .i64 n]] W (Bk.Did W t F (Bk.run T 3 c.data.toList n)) := by
  have ho2 : Bk.Only F W ((W.alloc (.cells #[.int .i64 3, .string c, .int .i64 n] 33)).alloc (.cells #[.bool false, .int .i64 0, .slice none 0 0, .int .i64 0, .int .i64 0, .int .i64 0, .int .i64 0] 30)) := ((Bk.Only.refl _ W).alloc _).alloc _
  have hb2 := Blk.new (W.alloc (.cells #[.int .i64 3, .string c, .int .i64 n] 33)) 30 #[.bool false, .int .i64 0, .slice none 0 0, .int .i64 0, .int .i64 0, .int .i64 0, .int .i64 0]
  have hz2 : ((W.alloc (.cells #[.int .i64 3, .string c, .int .i64 n] 33)).alloc (.cells #[.bool false, .int .i64 0, .slice none 0 0, .int .i64 0, .int .i64 0, .int .i64 0, .int .i64 0] 30)).heap.size = W.heap.size + 2 := by simp
  have hh2 := h.keep (W' := (W.alloc (.cells #[.int .i64 3, .string c, .int .i64 n] 33)).alloc (.cells #[.bool false, .int .i64 0, .slice none 0 0, .int .i64 0, .int .i64 0, .int .i64 0, .int .i64 0] 30)) fun k hk => by
    have := h.at'.lt hk
    exact (Below.heap_alloc _ _ k (by simp; omega)).trans (Below.heap_alloc _ _ k this)
  rw [World.size_alloc] at hb2
  have R1 : Bk.run T 3 c.data.toList n = (T, { yes := Bk.has T c.data.toList }) := by unfold Bk.run; rw [if_neg (by decide), if_neg (by decide), if_pos rfl]
  rw [R1]
  have HH := Lib.hid (And.intro h hT)
  clear R1 h hT hz2
  go_enter Tryz.func9, Tryz.ntmps9
  go_upto_region 8 with fail
  have hc2 : Blk ((W.alloc (.cells #[.int .i64 3, .string c, .int .i64 n] 33)).alloc (.cells #[.bool false, .int .i64 0, .slice none 0 0, .int .i64 0, .int .i64 0, .int .i64 0, .int .i64 0] 30)) W.heap.size 33 #[.int .i64 3, .string c, .int .i64 n] := (Blk.new W 33 #[.int .i64 3, .string c, .int .i64 n]).alloc _
  generalize (W.alloc (.cells #[.int .i64 3, .string c, .int .i64 n] 33)).alloc (.cells #[.bool false, .int .i64 0, .slice none 0 0, .int .i64 0, .int .i64 0, .int .i64 0, .int .i64 0] 30) = w3 at ho2 hb2 hh2 hc2 ⊢
  have HF := Lib.hid (And.intro (show ∀ k, F k → F k ∨ W.heap.size + 2 ≤ k from fun k hk => .inl hk) (And.intro hh2.at' (And.intro hh2.good hh2.wide)))
  have o1 := hc2.cell 1
  have hb3 := hb2
  have hw3 := ho2
  simp only [List.getElem?_toArray, List.getElem?_cons_zero, List.getElem?_cons_succ] at o1
  have c0 := hb3.cell 0
  have c1 := hb3.cell 1
  have c2 := hb3.cell 2
  have c3 := hb3.cell 3
  have c4 := hb3.cell 4
  have c5 := hb3.cell 5
  have c6 := hb3.cell 6
  have f0 := hb3.frozen 0
  have f1 := hb3.frozen 1
  have f2 := hb3.frozen 2
  have f3 := hb3.frozen 3
  have f4 := hb3.frozen 4
  have f5 := hb3.frozen 5
  have f6 := hb3.frozen 6
  simp only [List.getElem?_toArray, List.getElem?_cons_zero, List.getElem?_cons_succ] at c0 c1 c2 c3 c4 c5 c6
  clear hc2 hh2 hb2 ho2
  go_wp2_with (go_at_call 15; refine (Bk.has_any HF.out.2.1 c hc).mono ?_; rintro e' w4 ⟨rfl, rfl⟩)
  have HG := Lib.hid (And.intro (show w3.ownsRow W.heap.size 61 3 (.slice none 0 0) 0 [] from ⟨by simp, .inl ⟨rfl, rfl⟩⟩) (show ∀ k, (Value.slice none 0 0).ownBlock = some k → ¬ F k ∧ k ≠ W.heap.size + 1 from fun k hk => by simp [Value.ownBlock] at hk))
  obtain ⟨t0, t1, t2, t3, t4, t5, t6⟩ := Bk.seven hb3 (.bool (Bk.has T c.data.toList)) (.int .i64 0) (.slice none 0 0) (.int .i64 0) (.int .i64 0) (.int .i64 0) (.int .i64 0)
  have D := Bk.did_of (R := (T, { yes := Bk.has T c.data.toList })) (v := .slice none 0 0) HH.out.1 HH.out.2 hw3 HF.out.2.1 HF.out.2.2.1 HF.out.2.2.2 HF.out.1 HG.out.1 HG.out.2
  dsimp only at D
  generalize ((((((w3.setCell ⟨W.heap.size + 1, 0, none⟩ (.bool (Bk.has T c.data.toList))).setCell ⟨W.heap.size + 1, 1, none⟩ (.int .i64 0)).setCell ⟨W.heap.size + 1, 2, none⟩ (.slice none 0 0)).setCell ⟨W.heap.size + 1, 3, none⟩ (.int .i64 0)).setCell ⟨W.heap.size + 1, 4, none⟩ (.int .i64 0)).setCell ⟨W.heap.size + 1, 5, none⟩ (.int .i64 0)).setCell ⟨W.heap.size + 1, 6, none⟩ (.int .i64 0) = X at t0 t1 t2 t3 t4 t5 t6 D ⊢
  exact bodyPost_ret (v := .agg #[.bool (Bk.has T c.data.toList), .int .i64 0, .slice none 0 0, .int .i64 0, .int .i64 0, .int .i64 0, .int .i64 0]) (by simp [results, Tryz.results9, go_sem, t0, t1, t2, t3, t4, t5, t6]) rfl D
set_option maxRecDepth 100000 in
set_option maxHeartbeats 4000000 in
theorem Bk.do_tell (h : Bk.Tree W t T F) (hT : TabO W) (hl : T.l.length ≤ 4398046511104) (c : ByteArray) (hc : c.size ≤ 9223372036854775807) (n : Int) :
    Calls Tryz.prog 9 #[.pointer (some ⟨t, 0, none⟩), .agg #[.int .i64 6, .string c, .int .i64 n]] W (Bk.Did W t F (Bk.run T 6 c.data.toList n)) := by
  have ho2 : Bk.Only F W ((W.alloc (.cells #[.int .i64 6, .string c, .int .i64 n] 33)).alloc (.cells #[.bool false, .int .i64 0, .slice none 0 0, .int .i64 0, .int .i64 0, .int .i64 0, .int .i64 0] 30)) := ((Bk.Only.refl _ W).alloc _).alloc _
  have hb2 := Blk.new (W.alloc (.cells #[.int .i64 6, .string c, .int .i64 n] 33)) 30 #[.bool false, .int .i64 0, .slice none 0 0, .int .i64 0, .int .i64 0, .int .i64 0, .int .i64 0]
  have hz2 : ((W.alloc (.cells #[.int .i64 6, .string c, .int .i64 n] 33)).alloc (.cells #[.bool false, .int .i64 0, .slice none 0 0, .int .i64 0, .int .i64 0, .int .i64 0, .int .i64 0] 30)).heap.size = W.heap.size + 2 := by simp
  have hh2 := h.keep (W' := (W.alloc (.cells #[.int .i64 6, .string c, .int .i64 n] 33)).alloc (.cells #[.bool false, .int .i64 0, .slice none 0 0, .int .i64 0, .int .i64 0, .int .i64 0, .int .i64 0] 30)) fun k hk => by
    have := h.at'.lt hk
    exact (Below.heap_alloc _ _ k (by simp; omega)).trans (Below.heap_alloc _ _ k this)
  rw [World.size_alloc] at hb2
  have R1 : Bk.run T 6 c.data.toList n = (T, { len := Bk.live T.l, nodes := T.l.length, depth := Bk.depth (Bk.os T.l), looked := Bk.w64 T.seen }) := by unfold Bk.run; rw [if_neg (by decide), if_neg (by decide), if_neg (by decide), if_neg (by decide), if_neg (by decide), if_pos rfl]
  rw [R1]
  have HH := Lib.hid (And.intro h hT)
  clear R1 h hT hz2
  go_enter Tryz.func9, Tryz.ntmps9
  go_upto_region 16 with fail
  have hc2 : Blk ((W.alloc (.cells #[.int .i64 6, .string c, .int .i64 n] 33)).alloc (.cells #[.bool false, .int .i64 0, .slice none 0 0, .int .i64 0, .int .i64 0, .int .i64 0, .int .i64 0] 30)) W.heap.size 33 #[.int .i64 6, .string c, .int .i64 n] := (Blk.new W 33 #[.int .i64 6, .string c, .int .i64 n]).alloc _
  generalize (W.alloc (.cells #[.int .i64 6, .string c, .int .i64 n] 33)).alloc (.cells #[.bool false, .int .i64 0, .slice none 0 0, .int .i64 0, .int .i64 0, .int .i64 0, .int .i64 0] 30) = w3 at ho2 hb2 hh2 hc2 ⊢
  have HF := Lib.hid (And.intro (show ∀ k, F k → F k ∨ W.heap.size + 2 ≤ k from fun k hk => .inl hk) (And.intro hh2.at' (And.intro hh2.good hh2.wide)))
  have o1 := hc2.cell 1
  have hb3 := hb2
  have hw3 := ho2
  simp only [List.getElem?_toArray, List.getElem?_cons_zero, List.getElem?_cons_succ] at o1
  have c0 := hb3.cell 0
  have c1 := hb3.cell 1
  have c2 := hb3.cell 2
  have c3 := hb3.cell 3
  have c4 := hb3.cell 4
  have c5 := hb3.cell 5
  have c6 := hb3.cell 6
  have f0 := hb3.frozen 0
  have f1 := hb3.frozen 1
  have f2 := hb3.frozen 2
  have f3 := hb3.frozen 3
  have f4 := hb3.frozen 4
  have f5 := hb3.frozen 5
  have f6 := hb3.frozen 6
  simp only [List.getElem?_toArray, List.getElem?_cons_zero, List.getElem?_cons_succ] at c0 c1 c2 c3 c4 c5 c6
  clear hc2 hh2 hb2 ho2
  go_wp2_with (first | (go_at_call 19; refine (Bk.len_any HF.out.2.1).mono ?_; rintro e' w4 ⟨rfl, rfl⟩) | (go_at_call 20; refine (Bk.nodes_any HF.out.2.1).mono ?_; rintro e' w4 ⟨rfl, rfl⟩) | (go_at_call 21; refine (Bk.depth_any HF.out.2.1).mono ?_; rintro e' w4 ⟨rfl, rfl⟩) | (go_at_call 17; refine (Bk.looked_any HF.out.2.1).mono ?_; rintro e' w4 ⟨rfl, rfl⟩))
  have HG := Lib.hid (And.intro (show w3.ownsRow W.heap.size 61 3 (.slice none 0 0) 0 [] from ⟨by simp, .inl ⟨rfl, rfl⟩⟩) (show ∀ k, (Value.slice none 0 0).ownBlock = some k → ¬ F k ∧ k ≠ W.heap.size + 1 from fun k hk => by simp [Value.ownBlock] at hk))
  obtain ⟨t0, t1, t2, t3, t4, t5, t6⟩ := Bk.seven hb3 (.bool false) (.int .i64 0) (.slice none 0 0) (.int .i64 (Bk.live T.l : Nat)) (.int .i64 (T.l.length : Nat)) (.int .i64 (Bk.depth (Bk.os T.l) : Nat)) (.int .i64 (Bk.w64 T.seen))
  have D := Bk.did_of (R := (T, { len := Bk.live T.l, nodes := T.l.length, depth := Bk.depth (Bk.os T.l), looked := Bk.w64 T.seen })) (v := .slice none 0 0) HH.out.1 HH.out.2 hw3 HF.out.2.1 HF.out.2.2.1 HF.out.2.2.2 HF.out.1 HG.out.1 HG.out.2
  dsimp only at D
  generalize ((((((w3.setCell ⟨W.heap.size + 1, 0, none⟩ (.bool false)).setCell ⟨W.heap.size + 1, 1, none⟩ (.int .i64 0)).setCell ⟨W.heap.size + 1, 2, none⟩ (.slice none 0 0)).setCell ⟨W.heap.size + 1, 3, none⟩ (.int .i64 (Bk.live T.l : Nat))).setCell ⟨W.heap.size + 1, 4, none⟩ (.int .i64 (T.l.length : Nat))).setCell ⟨W.heap.size + 1, 5, none⟩ (.int .i64 (Bk.depth (Bk.os T.l) : Nat))).setCell ⟨W.heap.size + 1, 6, none⟩ (.int .i64 (Bk.w64 T.seen)) = X at t0 t1 t2 t3 t4 t5 t6 D ⊢
  exact bodyPost_ret (v := .agg #[.bool false, .int .i64 0, .slice none 0 0, .int .i64 (Bk.live T.l : Nat), .int .i64 (T.l.length : Nat), .int .i64 (Bk.depth (Bk.os T.l) : Nat), .int .i64 (Bk.w64 T.seen)]) (by simp [results, Tryz.results9, go_sem, t0, t1, t2, t3, t4, t5, t6]) rfl D
set_option maxRecDepth 100000 in
set_option maxHeartbeats 4000000 in
theorem Bk.do_none (h : Bk.Tree W t T F) (hT : TabO W) (hl : T.l.length ≤ 4398046511104) (c : ByteArray) (hc : c.size ≤ 9223372036854775807) (n : Int) (kd : Int) (k1 : kd ≠ 1) (k2 : kd ≠ 2) (k3 : kd ≠ 3) (k4 : kd ≠ 4) (k5 : kd ≠ 5) (k6 : kd ≠ 6) :
    Calls Tryz.prog 9 #[.pointer (some ⟨t, 0, none⟩), .agg #[.int .i64 kd, .string c, .int .i64 n]] W (Bk.Did W t F (Bk.run T kd c.data.toList n)) := by
  have ho2 : Bk.Only F W ((W.alloc (.cells #[.int .i64 kd, .string c, .int .i64 n] 33)).alloc (.cells #[.bool false, .int .i64 0, .slice none 0 0, .int .i64 0, .int .i64 0, .int .i64 0, .int .i64 0] 30)) := ((Bk.Only.refl _ W).alloc _).alloc _
  have hb2 := Blk.new (W.alloc (.cells #[.int .i64 kd, .string c, .int .i64 n] 33)) 30 #[.bool false, .int .i64 0, .slice none 0 0, .int .i64 0, .int .i64 0, .int .i64 0, .int .i64 0]
  have hz2 : ((W.alloc (.cells #[.int .i64 kd, .string c, .int .i64 n] 33)).alloc (.cells #[.bool false, .int .i64 0, .slice none 0 0, .int .i64 0, .int .i64 0, .int .i64 0, .int .i64 0] 30)).heap.size = W.heap.size + 2 := by simp
  have hh2 := h.keep (W' := (W.alloc (.cells #[.int .i64 kd, .string c, .int .i64 n] 33)).alloc (.cells #[.bool false, .int .i64 0, .slice none 0 0, .int .i64 0, .int .i64 0, .int .i64 0, .int .i64 0] 30)) fun k hk => by
    have := h.at'.lt hk
    exact (Below.heap_alloc _ _ k (by simp; omega)).trans (Below.heap_alloc _ _ k this)
  rw [World.size_alloc] at hb2
  have R1 : Bk.run T kd c.data.toList n = (T, {}) := by unfold Bk.run; rw [if_neg k1, if_neg k2, if_neg k3, if_neg k4, if_neg k5, if_neg k6]
  rw [R1]
  have HH := Lib.hid (And.intro h hT)
  have u1 : (kd == 1) = false := by simpa using k1
  have u2 : (kd == 2) = false := by simpa using k2
  have u3 : (kd == 3) = false := by simpa using k3
  have u4 : (kd == 4) = false := by simpa using k4
  have u5 : (kd == 5) = false := by simpa using k5
  have u6 : (kd == 6) = false := by simpa using k6
  clear R1 h hT hz2
  go_enter Tryz.func9, Tryz.ntmps9
  go_upto_region 17 with fail
  have hc2 : Blk ((W.alloc (.cells #[.int .i64 kd, .string c, .int .i64 n] 33)).alloc (.cells #[.bool false, .int .i64 0, .slice none 0 0, .int .i64 0, .int .i64 0, .int .i64 0, .int .i64 0] 30)) W.heap.size 33 #[.int .i64 kd, .string c, .int .i64 n] := (Blk.new W 33 #[.int .i64 kd, .string c, .int .i64 n]).alloc _
  generalize (W.alloc (.cells #[.int .i64 kd, .string c, .int .i64 n] 33)).alloc (.cells #[.bool false, .int .i64 0, .slice none 0 0, .int .i64 0, .int .i64 0, .int .i64 0, .int .i64 0] 30) = w3 at ho2 hb2 hh2 hc2 ⊢
  have HF := Lib.hid (And.intro (show ∀ k, F k → F k ∨ W.heap.size + 2 ≤ k from fun k hk => .inl hk) (And.intro hh2.at' (And.intro hh2.good hh2.wide)))
  have o1 := hc2.cell 1
  have hb3 := hb2
  have hw3 := ho2
  simp only [List.getElem?_toArray, List.getElem?_cons_zero, List.getElem?_cons_succ] at o1
  have c0 := hb3.cell 0
  have c1 := hb3.cell 1
  have c2 := hb3.cell 2
  have c3 := hb3.cell 3
  have c4 := hb3.cell 4
  have c5 := hb3.cell 5
  have c6 := hb3.cell 6
  have f0 := hb3.frozen 0
  have f1 := hb3.frozen 1
  have f2 := hb3.frozen 2
  have f3 := hb3.frozen 3
  have f4 := hb3.frozen 4
  have f5 := hb3.frozen 5
  have f6 := hb3.frozen 6
  simp only [List.getElem?_toArray, List.getElem?_cons_zero, List.getElem?_cons_succ] at c0 c1 c2 c3 c4 c5 c6
  clear hc2 hh2 hb2 ho2
  go_wp2_with fail
  have HG := Lib.hid (And.intro (show w3.ownsRow W.heap.size 61 3 (.slice none 0 0) 0 [] from ⟨by simp, .inl ⟨rfl, rfl⟩⟩) (show ∀ k, (Value.slice none 0 0).ownBlock = some k → ¬ F k ∧ k ≠ W.heap.size + 1 from fun k hk => by simp [Value.ownBlock] at hk))
  obtain ⟨t0, t1, t2, t3, t4, t5, t6⟩ := Bk.seven hb3 (.bool false) (.int .i64 0) (.slice none 0 0) (.int .i64 0) (.int .i64 0) (.int .i64 0) (.int .i64 0)
  have D := Bk.did_of (R := (T, {})) (v := .slice none 0 0) HH.out.1 HH.out.2 hw3 HF.out.2.1 HF.out.2.2.1 HF.out.2.2.2 HF.out.1 HG.out.1 HG.out.2
  dsimp only at D
  generalize ((((((w3.setCell ⟨W.heap.size + 1, 0, none⟩ (.bool false)).setCell ⟨W.heap.size + 1, 1, none⟩ (.int .i64 0)).setCell ⟨W.heap.size + 1, 2, none⟩ (.slice none 0 0)).setCell ⟨W.heap.size + 1, 3, none⟩ (.int .i64 0)).setCell ⟨W.heap.size + 1, 4, none⟩ (.int .i64 0)).setCell ⟨W.heap.size + 1, 5, none⟩ (.int .i64 0)).setCell ⟨W.heap.size + 1, 6, none⟩ (.int .i64 0) = X at t0 t1 t2 t3 t4 t5 t6 D ⊢
  exact bodyPost_ret (v := .agg #[.bool false, .int .i64 0, .slice none 0 0, .int .i64 0, .int .i64 0, .int .i64 0, .int .i64 0]) (by simp [results, Tryz.results9, go_sem, t0, t1, t2, t3, t4, t5, t6]) rfl D
set_option maxRecDepth 100000 in
set_option maxHeartbeats 4000000 in
theorem Bk.do_within (h : Bk.Tree W t T F) (hT : TabO W) (hl : T.l.length ≤ 4398046511104) (c : ByteArray) (hc : c.size ≤ 9223372036854775807) (n : Int) :
    Calls Tryz.prog 9 #[.pointer (some ⟨t, 0, none⟩), .agg #[.int .i64 4, .string c, .int .i64 n]] W (Bk.Did W t F (Bk.run T 4 c.data.toList n)) := by
  have ho2 : Bk.Only F W ((W.alloc (.cells #[.int .i64 4, .string c, .int .i64 n] 33)).alloc (.cells #[.bool false, .int .i64 0, .slice none 0 0, .int .i64 0, .int .i64 0, .int .i64 0, .int .i64 0] 30)) := ((Bk.Only.refl _ W).alloc _).alloc _
  have hb2 := Blk.new (W.alloc (.cells #[.int .i64 4, .string c, .int .i64 n] 33)) 30 #[.bool false, .int .i64 0, .slice none 0 0, .int .i64 0, .int .i64 0, .int .i64 0, .int .i64 0]
  have hz2 : ((W.alloc (.cells #[.int .i64 4, .string c, .int .i64 n] 33)).alloc (.cells #[.bool false, .int .i64 0, .slice none 0 0, .int .i64 0, .int .i64 0, .int .i64 0, .int .i64 0] 30)).heap.size = W.heap.size + 2 := by simp
  have hh2 := h.keep (W' := (W.alloc (.cells #[.int .i64 4, .string c, .int .i64 n] 33)).alloc (.cells #[.bool false, .int .i64 0, .slice none 0 0, .int .i64 0, .int .i64 0, .int .i64 0, .int .i64 0] 30)) fun k hk => by
    have := h.at'.lt hk
    exact (Below.heap_alloc _ _ k (by simp; omega)).trans (Below.heap_alloc _ _ k this)
  rw [World.size_alloc] at hb2
  have hcal := Bk.within_any hh2.at' hh2.good hh2.wide c hc n hl (fun i => Nat.le_trans (hh2.good.deep hh2.le i) (by omega)) (h.tab hT ho2) h.off
  have R1 : Bk.run T 4 c.data.toList n = ((Bk.within T c.data.toList n).1, { l := (Bk.within T c.data.toList n).2.1, e := (Bk.within T c.data.toList n).2.2, looked := Bk.w64 (Bk.within T c.data.toList n).1.seen }) := by unfold Bk.run; rw [if_neg (by decide), if_neg (by decide), if_neg (by decide), if_pos rfl]
  have hTl : (Bk.within T c.data.toList n).1.l = T.l ∧ (Bk.within T c.data.toList n).1.w = T.w := Bk.within_l T c.data.toList n
  rw [R1]
  generalize hA : Bk.within T c.data.toList n = A at hcal hTl ⊢
  obtain ⟨T', l, er⟩ := A
  simp only at hcal hTl ⊢
  have HH := Lib.hid (And.intro h (And.intro hT (And.intro ho2 (And.intro hTl hz2))))
  clear R1 h hT ho2 hA hh2 hTl hz2
  go_enter Tryz.func9, Tryz.ntmps9
  go_upto_region 11 with (go_at_call 16; refine hcal.mono ?_; clear hcal; rintro e w3 ⟨v, rfl, hrow, hA3, hO3⟩; obtain ⟨A, cap, rfl⟩ := Bk.row_form hrow)
  have hw3 := HH.out.2.2.1.trans hO3
  have hb3 : Blk w3 (W.heap.size + 1) 30 _ := (hO3.block _ (by have := HH.out.2.2.2.2; omega) fun hk => by have := HH.out.1.at'.lt hk; omega).trans hb2
  have c0 := hb3.cell 0
  have c1 := hb3.cell 1
  have c2 := hb3.cell 2
  have c3 := hb3.cell 3
  have c4 := hb3.cell 4
  have c5 := hb3.cell 5
  have c6 := hb3.cell 6
  have f0 := hb3.frozen 0
  have f1 := hb3.frozen 1
  have f2 := hb3.frozen 2
  have f3 := hb3.frozen 3
  have f4 := hb3.frozen 4
  have f5 := hb3.frozen 5
  have f6 := hb3.frozen 6
  simp only [List.getElem?_toArray, List.getElem?_cons_zero, List.getElem?_cons_succ] at c0 c1 c2 c3 c4 c5 c6
  have hv2 : ∀ k, (Value.slice A l.length cap).ownBlock = some k → ¬ F k ∧ k ≠ W.heap.size + 1 := fun k hk => by
    have h1 := (hrow.lt k hk).1
    rw [HH.out.2.2.2.2] at h1
    exact ⟨fun hf => by have := HH.out.1.at'.lt hf; omega, by omega⟩
  have hro := Bk.own_base hrow (B' := W.heap.size) (by have := HH.out.2.2.2.2; omega)
  have HF := Lib.hid (And.intro (show ∀ k, F k → F k ∨ W.heap.size + 2 ≤ k from fun k hk => .inl hk) (And.intro hA3 (And.intro (show Bk.Good T'.w T'.l from by rw [HH.out.2.2.2.1.1, HH.out.2.2.2.1.2]; exact HH.out.1.good) (show Bt.wide T'.w = true from by rw [HH.out.2.2.2.1.2]; exact HH.out.1.wide))))
  have HG := Lib.hid (And.intro hro hv2)
  clear hb2 hrow hro hv2 hA3 hO3
  go_wp2_with (go_at_call 17; refine (Bk.looked_any HF.out.2.1).mono ?_; rintro e' w4 ⟨rfl, rfl⟩)
  obtain ⟨t0, t1, t2, t3, t4, t5, t6⟩ := Bk.seven hb3 (.bool false) (.int .i64 er) (.slice A l.length cap) (.int .i64 0) (.int .i64 0) (.int .i64 0) ((.int .i64 (Bk.w64 T'.seen)))
  have D := Bk.did_of (R := (T', { l := l, e := er, looked := Bk.w64 T'.seen })) (v := .slice A l.length cap) HH.out.1 HH.out.2.1 hw3 HF.out.2.1 HF.out.2.2.1 HF.out.2.2.2 HF.out.1 HG.out.1 HG.out.2
  dsimp only at D
  generalize ((((((w3.setCell ⟨W.heap.size + 1, 0, none⟩ (.bool false)).setCell ⟨W.heap.size + 1, 1, none⟩ (.int .i64 er)).setCell ⟨W.heap.size + 1, 2, none⟩ (.slice A l.length cap)).setCell ⟨W.heap.size + 1, 3, none⟩ (.int .i64 0)).setCell ⟨W.heap.size + 1, 4, none⟩ (.int .i64 0)).setCell ⟨W.heap.size + 1, 5, none⟩ (.int .i64 0)).setCell ⟨W.heap.size + 1, 6, none⟩ ((.int .i64 (Bk.w64 T'.seen))) = X at t0 t1 t2 t3 t4 t5 t6 D ⊢
  exact bodyPost_ret (v := .agg #[.bool false, .int .i64 er, .slice A l.length cap, .int .i64 0, .int .i64 0, .int .i64 0, (.int .i64 (Bk.w64 T'.seen))]) (by simp [results, Tryz.results9, go_sem, t0, t1, t2, t3, t4, t5, t6]) rfl D
set_option maxRecDepth 100000 in
set_option maxHeartbeats 4000000 in
theorem Bk.do_nearest (h : Bk.Tree W t T F) (hT : TabO W) (hl : T.l.length ≤ 4398046511104) (c : ByteArray) (hc : c.size ≤ 9223372036854775807) (n : Int) :
    Calls Tryz.prog 9 #[.pointer (some ⟨t, 0, none⟩), .agg #[.int .i64 5, .string c, .int .i64 n]] W (Bk.Did W t F (Bk.run T 5 c.data.toList n)) := by
  have ho2 : Bk.Only F W ((W.alloc (.cells #[.int .i64 5, .string c, .int .i64 n] 33)).alloc (.cells #[.bool false, .int .i64 0, .slice none 0 0, .int .i64 0, .int .i64 0, .int .i64 0, .int .i64 0] 30)) := ((Bk.Only.refl _ W).alloc _).alloc _
  have hb2 := Blk.new (W.alloc (.cells #[.int .i64 5, .string c, .int .i64 n] 33)) 30 #[.bool false, .int .i64 0, .slice none 0 0, .int .i64 0, .int .i64 0, .int .i64 0, .int .i64 0]
  have hz2 : ((W.alloc (.cells #[.int .i64 5, .string c, .int .i64 n] 33)).alloc (.cells #[.bool false, .int .i64 0, .slice none 0 0, .int .i64 0, .int .i64 0, .int .i64 0, .int .i64 0] 30)).heap.size = W.heap.size + 2 := by simp
  have hh2 := h.keep (W' := (W.alloc (.cells #[.int .i64 5, .string c, .int .i64 n] 33)).alloc (.cells #[.bool false, .int .i64 0, .slice none 0 0, .int .i64 0, .int .i64 0, .int .i64 0, .int .i64 0] 30)) fun k hk => by
    have := h.at'.lt hk
    exact (Below.heap_alloc _ _ k (by simp; omega)).trans (Below.heap_alloc _ _ k this)
  rw [World.size_alloc] at hb2
  have hcal := Bk.nearest_any hh2.at' hh2.good hh2.wide c hc n hl (fun i => Nat.le_trans (hh2.good.deep hh2.le i) (by omega)) (h.tab hT ho2) h.off
  have R1 : Bk.run T 5 c.data.toList n = ((Bk.nearest T c.data.toList n).1, { l := (Bk.nearest T c.data.toList n).2.1, e := (Bk.nearest T c.data.toList n).2.2, looked := Bk.w64 (Bk.nearest T c.data.toList n).1.seen }) := by unfold Bk.run; rw [if_neg (by decide), if_neg (by decide), if_neg (by decide), if_neg (by decide), if_pos rfl]
  have hTl : (Bk.nearest T c.data.toList n).1.l = T.l ∧ (Bk.nearest T c.data.toList n).1.w = T.w := Bk.nearest_l T c.data.toList n
  rw [R1]
  generalize hA : Bk.nearest T c.data.toList n = A at hcal hTl ⊢
  obtain ⟨T', l, er⟩ := A
  simp only at hcal hTl ⊢
  have HH := Lib.hid (And.intro h (And.intro hT (And.intro ho2 (And.intro hTl hz2))))
  clear R1 h hT ho2 hA hh2 hTl hz2
  go_enter Tryz.func9, Tryz.ntmps9
  go_upto_region 14 with (go_at_call 18; refine hcal.mono ?_; clear hcal; rintro e w3 ⟨v, rfl, hrow, hA3, hO3⟩; obtain ⟨A, cap, rfl⟩ := Bk.row_form hrow)
  have hw3 := HH.out.2.2.1.trans hO3
  have hb3 : Blk w3 (W.heap.size + 1) 30 _ := (hO3.block _ (by have := HH.out.2.2.2.2; omega) fun hk => by have := HH.out.1.at'.lt hk; omega).trans hb2
  have c0 := hb3.cell 0
  have c1 := hb3.cell 1
  have c2 := hb3.cell 2
  have c3 := hb3.cell 3
  have c4 := hb3.cell 4
  have c5 := hb3.cell 5
  have c6 := hb3.cell 6
  have f0 := hb3.frozen 0
  have f1 := hb3.frozen 1
  have f2 := hb3.frozen 2
  have f3 := hb3.frozen 3
  have f4 := hb3.frozen 4
  have f5 := hb3.frozen 5
  have f6 := hb3.frozen 6
  simp only [List.getElem?_toArray, List.getElem?_cons_zero, List.getElem?_cons_succ] at c0 c1 c2 c3 c4 c5 c6
  have hv2 : ∀ k, (Value.slice A l.length cap).ownBlock = some k → ¬ F k ∧ k ≠ W.heap.size + 1 := fun k hk => by
    have h1 := (hrow.lt k hk).1
    rw [HH.out.2.2.2.2] at h1
    exact ⟨fun hf => by have := HH.out.1.at'.lt hf; omega, by omega⟩
  have hro := Bk.own_base hrow (B' := W.heap.size) (by have := HH.out.2.2.2.2; omega)
  have HF := Lib.hid (And.intro (show ∀ k, F k → F k ∨ W.heap.size + 2 ≤ k from fun k hk => .inl hk) (And.intro hA3 (And.intro (show Bk.Good T'.w T'.l from by rw [HH.out.2.2.2.1.1, HH.out.2.2.2.1.2]; exact HH.out.1.good) (show Bt.wide T'.w = true from by rw [HH.out.2.2.2.1.2]; exact HH.out.1.wide))))
  have HG := Lib.hid (And.intro hro hv2)
  clear hb2 hrow hro hv2 hA3 hO3
  go_wp2_with (go_at_call 17; refine (Bk.looked_any HF.out.2.1).mono ?_; rintro e' w4 ⟨rfl, rfl⟩)
  obtain ⟨t0, t1, t2, t3, t4, t5, t6⟩ := Bk.seven hb3 (.bool false) (.int .i64 er) (.slice A l.length cap) (.int .i64 0) (.int .i64 0) (.int .i64 0) ((.int .i64 (Bk.w64 T'.seen)))
  have D := Bk.did_of (R := (T', { l := l, e := er, looked := Bk.w64 T'.seen })) (v := .slice A l.length cap) HH.out.1 HH.out.2.1 hw3 HF.out.2.1 HF.out.2.2.1 HF.out.2.2.2 HF.out.1 HG.out.1 HG.out.2
  dsimp only at D
  generalize ((((((w3.setCell ⟨W.heap.size + 1, 0, none⟩ (.bool false)).setCell ⟨W.heap.size + 1, 1, none⟩ (.int .i64 er)).setCell ⟨W.heap.size + 1, 2, none⟩ (.slice A l.length cap)).setCell ⟨W.heap.size + 1, 3, none⟩ (.int .i64 0)).setCell ⟨W.heap.size + 1, 4, none⟩ (.int .i64 0)).setCell ⟨W.heap.size + 1, 5, none⟩ (.int .i64 0)).setCell ⟨W.heap.size + 1, 6, none⟩ ((.int .i64 (Bk.w64 T'.seen))) = X at t0 t1 t2 t3 t4 t5 t6 D ⊢
  exact bodyPost_ret (v := .agg #[.bool false, .int .i64 er, .slice A l.length cap, .int .i64 0, .int .i64 0, .int .i64 0, (.int .i64 (Bk.w64 T'.seen))]) (by simp [results, Tryz.results9, go_sem, t0, t1, t2, t3, t4, t5, t6]) rfl D
end
end Go.Proofs.YtikhahkmebkccaaGreatDoor
