/- Contract of walk: the stack that makes the visits. Conditions: each theorem's own hypotheses. -/
import Derived.Test.YtikhahkmebkccaaGreatDoorBkI
import Derived.Deep.AppendLies
namespace Go.Proofs.YtikhahkmebkccaaGreatDoor
open Go.RowKit Go.Maps Go.Sort
set_option linter.unusedVariables false

theorem Bk.Dn.cell {w w' : World} (h : Bk.Dn w w') (p : Addr) : w'.cell? p = w.cell? p := by
  obtain ⟨n, rfl⟩ := h
  rfl
/-- What a walk comes to. -/
def Bk.Res (T : Bk.T) (q : List UInt8) (r : List Bk.H → Nat) : List Bk.H × Nat := if T.l.length = 0 then ([], T.seen) else Bk.V T.w T.l q r 0 ([], T.seen)
section
variable {W0 w : World} {t bm : Nat} {T : Bk.T} {L : List Bk.X} {q : ByteArray} {b4 b5 b7 b8 : Nat} {fv : Value} {G0 G : Nat → Prop} {st : List Bk.Fr} {s : List Bk.H × Nat} {I : List Bk.H → (Nat → Prop) → World → Prop}
/-- The first state of a walk. -/
theorem Bk.Wk.start (hS : Bk.Stand W0 t bm T L) (hI : I [] G0 W0) (hk : ∀ {F G w} {w' : World}, I F G w → (∀ k, G k → w'.heap[k]? = w.heap[k]?) → I F G w') (hlt : ∀ {F G w k}, I F G w → G k → k < w.heap.size)
    (hsep : ∀ k, Bk.foot t bm L k → ¬ G0 k) (hT : TabO W0) (hG0 : ¬ G0 1) (hft : ∀ k, Bk.foot t bm L k → k ≠ 1) :
    Bk.Wk W0 t bm T L q W0.heap.size (W0.heap.size + 1) (W0.heap.size + 2) (W0.heap.size + 3) fv G0 I [] ([], T.seen) G0
      ((((W0.alloc (.cells #[.pointer (some ⟨t, 0, none⟩)] 23)).alloc (.cells #[.string q] 9)).alloc (.cells #[fv] 68)).alloc (.cells #[.slice none 0 0] 84)) := by
  have hB := ((((Below.refl _ W0).alloc (Nat.le_refl _) (.cells #[.pointer (some ⟨t, 0, none⟩)] 23)).alloc (by simp) (.cells #[.string q] 9)).alloc (by simp; omega) (.cells #[fv] 68)).alloc (by simp; omega) (.cells #[.slice none 0 0] 84)
  have m4 := (((Blk.new W0 23 #[.pointer (some ⟨t, 0, none⟩)]).alloc (.cells #[.string q] 9)).alloc (.cells #[fv] 68)).alloc (.cells #[.slice none 0 0] 84)
  have m5 := ((Blk.new (W0.alloc (.cells #[.pointer (some ⟨t, 0, none⟩)] 23)) 9 #[.string q]).alloc (.cells #[fv] 68)).alloc (.cells #[.slice none 0 0] 84)
  have m7 := (Blk.new ((W0.alloc (.cells #[.pointer (some ⟨t, 0, none⟩)] 23)).alloc (.cells #[.string q] 9)) 68 #[fv]).alloc (.cells #[.slice none 0 0] 84)
  have m8 := Blk.new (((W0.alloc (.cells #[.pointer (some ⟨t, 0, none⟩)] 23)).alloc (.cells #[.string q] 9)).alloc (.cells #[fv] 68)) 84 #[.slice none 0 0]
  simp only [World.size_alloc] at m5 m7 m8
  have hlt' : ∀ k, W0.heap.size ≤ k → ¬ G0 k := fun k hk hg => by have := hlt hI hg; omega
  refine ⟨hS.later hB (Nat.le_refl _), hk hI fun k hg => hB.block k (hlt hI hg), m4, m5, m7, ⟨none, 0, m8, ⟨by simp, .inl ⟨rfl, rfl⟩⟩, fun k e => by simp [Value.ownBlock] at e⟩, fun f hf => (List.not_mem_nil hf).elim, fun j f hf => by simp at hf,
    ⟨⟨hlt' _ (Nat.le_refl _), hlt' _ (by omega), hlt' _ (by omega), hlt' _ (by omega)⟩, hsep, hG0, hft⟩, hT.below hB (Nat.le_refl _), ⟨Nat.le_refl _, by omega, by omega, by omega⟩, fun k hk => hS.lt hk, hT.pos, Bk.Only.of hB, fun k hk => .inl hk⟩
/-- The node at the end of the way. -/
theorem Bk.Wk.top {f : Bk.Fr} (h : Bk.Wk W0 t bm T L q b4 b5 b7 b8 fv G0 I (st ++ [f]) s G w) : ∃ (g cap : Nat) (x : Bk.X) (n : Bk.N), T.l[f.i]? = some n ∧ L[f.i]? = some x ∧ g < w.heap.size ∧ Blk w b8 84 #[.slice (some ⟨g, 0, none⟩) (st ++ [f]).length cap] ∧ (st ++ [f]).length ≤ cap ∧ cap ≤ maxLen ∧
    w.ownsRow W0.heap.size 86 3 (.slice (some ⟨g, 0, none⟩) (st ++ [f]).length cap) (st ++ [f]).length ((st ++ [f]).flatMap (Bk.frCells T.l L q.data.toList)) ∧ ¬ G g ∧
    w.cell? ⟨g, st.length * 3, none⟩ = some (.pointer (some ⟨x.blk, 0, none⟩)) ∧ w.cell? ⟨g, st.length * 3 + 1, none⟩ = some (.int .i64 (Bk.far n.code q.data.toList : Nat)) ∧ w.cell? ⟨g, st.length * 3 + 2, none⟩ = some f.v := by
  obtain ⟨A, cap, hb, hr, hn⟩ := h.way
  obtain ⟨g, cap', hv, hbase, hlt⟩ := hr.form (by simp)
  injection hv with hA _ hc
  subst hA hc
  obtain ⟨hfi, _, _⟩ := h.ok st.length f (by rw [List.getElem?_append_right (Nat.le_refl _), Nat.sub_self]; rfl)
  have hn' : T.l[f.i]? = some T.l[f.i] := List.getElem?_eq_getElem hfi
  obtain ⟨x, hx⟩ := h.tree.at' hn'
  have hcells : ∀ i u, (Bk.frCells T.l L q.data.toList f)[i]? = some u → w.cell? ⟨g, st.length * 3 + i, none⟩ = some u := by
    intro i u hu
    have h1 := hr.cells (g := g) rfl (st.length * 3 + i) u (by rw [List.flatMap_append, List.flatMap_singleton, List.getElem?_append_right (by rw [Bk.frs_len]; omega), Bk.frs_len, Nat.add_sub_cancel_left]; exact hu)
    have e1 : (⟨g, 0, none⟩ : Addr).add (st.length * 3 + i) = ⟨g, st.length * 3 + i, none⟩ := by
      unfold Addr.add; split
      · rename_i h0; rw [h0]
      · simp
    rw [e1] at h1
    exact h1
  have hcc : cap ≤ maxLen ∧ (st ++ [f]).length ≤ cap := by
    rcases hr.2 with ⟨h', _⟩ | ⟨g', cap', cur, h', _, _, h1, h2, _⟩
    · simp at h'
    · injection h' with _ _ h3
      subst h3
      exact ⟨h2, h1⟩
  refine ⟨g, cap, x, _, hn', hx, hlt, hb, hcc.2, hcc.1, hr, hn g rfl, ?_, ?_, hcells 2 _ rfl⟩
  · exact hcells 0 _ (by unfold Bk.frCells; rw [Bk.adr_at hx]; rfl)
  · exact hcells 1 _ (by unfold Bk.frCells; rw [Bk.code_at hn']; rfl)
end
theorem Bk.deeps_at : ∀ (os : List Int) (i : Nat) (o : Int), os[i]? = some o → o < (i : Int) → (Bk.deeps os).getD i 0 = if o < 0 then 1 else (Bk.deeps os).getD o.toNat 0 + 1 := by
  refine Bk.deeps_rev _ (fun i o h => by simp at h) fun os o' ih i o h hlt => ?_
  have hl := Bk.deeps_len os
  rw [Bk.deeps_snoc]
  by_cases hi : i < os.length
  · rw [List.getElem?_append_left hi] at h
    have h1 : ∀ j, j < os.length → (Bk.deeps os ++ [if o' < 0 then 1 else (Bk.deeps os).getD o'.toNat 0 + 1]).getD j 0 = (Bk.deeps os).getD j 0 := fun j hj => by
      simp only [List.getD_eq_getElem?_getD]
      rw [List.getElem?_append_left (by omega)]
    rw [h1 i hi, ih i o h hlt]
    split
    · rfl
    · rw [h1 _ (by omega)]
  · have hb := (List.getElem?_eq_some_iff.1 h).1
    rw [List.length_append, List.length_singleton] at hb
    have hi' : i = os.length := by omega
    subst hi'
    rw [List.getElem?_append_right (Nat.le_refl _), Nat.sub_self] at h
    obtain rfl := Option.some.inj h
    rw [List.getD_eq_getElem?_getD, List.getElem?_append_right (by omega), hl, Nat.sub_self]
    simp only [List.getElem?_cons_zero, Option.getD_some]
    split
    · rfl
    · simp only [List.getD_eq_getElem?_getD]
      rw [List.getElem?_append_left (by omega)]
theorem Bk.Good.deep_root {w : Nat} {l : List Bk.N} (h : Bk.Good w l) (h0 : l.length ≠ 0) : (Bk.deeps (Bk.os l)).getD 0 0 = 1 := by
  have hn : l[0]? = some (l[0]'(by omega)) := List.getElem?_eq_getElem (by omega)
  rcases h.over 0 _ hn with ⟨_, ho, _⟩ | ⟨p, m, _, h2, _⟩
  · rw [Bk.deeps_at _ 0 (-1) (by simp [Bk.os, hn, ho]) (by omega)]
    rfl
  · omega
theorem Bk.Good.deep_child {w : Nat} {l : List Bk.N} (h : Bk.Good w l) {i e k : Nat} (hc : Bk.child l i e = some k) : (Bk.deeps (Bk.os l)).getD k 0 = (Bk.deeps (Bk.os l)).getD i 0 + 1 := by
  obtain ⟨n, hk, ho, _⟩ := Bk.child_some hc
  obtain ⟨h1, h2⟩ := h.child_lt hc
  rw [Bk.deeps_at _ k (i : Int) (by simp [Bk.os, hk, ho]) (by omega), if_neg (by omega)]
  simp
theorem Bk.foldl_ge {w : Nat} {l : List Bk.N} {q : List UInt8} {r : List Bk.H → Nat} {g : Nat → List Bk.H × Nat → List Bk.H × Nat} (hg : ∀ i s, s.2 ≤ (g i s).2) {d : Nat} : ∀ (left : List (Nat × Nat)) (s : List Bk.H × Nat), s.2 ≤ (left.foldl (fun s ec => if Bk.near d ec.1 (r s.1) = true then g ec.2 s else s) s).2
  | [], s => Nat.le_refl _
  | ec :: left, s => by
    rw [List.foldl_cons]
    refine Nat.le_trans ?_ (Bk.foldl_ge (w := w) (l := l) (q := q) hg left _)
    split
    · exact hg _ _
    · exact Nat.le_refl _
theorem Bk.visit_ge (w : Nat) (l : List Bk.N) (q : List UInt8) (r : List Bk.H → Nat) : ∀ f i s, s.2 ≤ (Bk.visit w l q r f i s).2
  | 0, _, _ => Nat.le_refl _
  | f + 1, i, s => by
    unfold Bk.visit
    have h := Bk.foldl_ge (w := w) (l := l) (q := q) (r := r) (g := Bk.visit w l q r f) (d := Bk.far (Bk.code l i) q) (fun i s => Bk.visit_ge w l q r f i s) (Bk.kids w l i) (Bk.look l q i s)
    exact Nat.le_trans (Nat.le_succ s.2) h
theorem Bk.finish_ge (w : Nat) (l : List Bk.N) (q : List UInt8) (r : List Bk.H → Nat) (s : List Bk.H × Nat) : ∀ st, s.2 ≤ (Bk.finish w l q r st s).2
  | [] => Nat.le_refl _
  | f :: st => by
    show s.2 ≤ (Bk.rest w l q r f.1 f.2 (Bk.finish w l q r st s)).2
    refine Nat.le_trans (Bk.finish_ge w l q r s st) ?_
    unfold Bk.rest
    exact Bk.foldl_ge (w := w) (l := l) (q := q) (g := Bk.V w l q r) (fun i s => Bk.visit_ge w l q r _ i s) _ _
theorem Bk.look_len (l : List Bk.N) (q : List UInt8) (i : Nat) (s : List Bk.H × Nat) : (Bk.look l q i s).1.length ≤ s.1.length + 1 ∧ (Bk.look l q i s).2 = s.2 + 1 := by
  unfold Bk.look
  refine ⟨?_, rfl⟩
  show (if _ then _ else _ : List Bk.H).length ≤ _
  split
  · simp
  · omega
theorem Bk.Res_some {T : Bk.T} {q : List UInt8} {r : List Bk.H → Nat} (hG : Bk.Good T.w T.l) (h : T.l.length ≠ 0) : Bk.Res T q r = Bk.finish T.w T.l q r [(0, Bk.kids T.w T.l 0)] (Bk.look T.l q 0 ([], T.seen)) := by
  unfold Bk.Res
  rw [if_neg h, hG.V_eq q r 0]; rfl
/-- Between two rounds of a walk. -/
def Bk.WJ (W0 : World) (t bm : Nat) (T : Bk.T) (L : List Bk.X) (q : ByteArray) (b4 b5 b7 b8 : Nat) (fv : Value) (G0 : Nat → Prop) (r : List Bk.H → Nat) (I : List Bk.H → (Nat → Prop) → World → Prop) (k : Nat) (wr : World) : Prop :=
  ∃ st s G, k = Bk.costs T.w T.l (st.map Bk.fr2) ∧ Bk.Wk W0 t bm T L q b4 b5 b7 b8 fv G0 I st s G wr ∧ Bk.finish T.w T.l q.data.toList r (st.map Bk.fr2) s = Bk.Res T q.data.toList r ∧ s.1.length + T.seen ≤ s.2
set_option maxRecDepth 100000 in
set_option maxHeartbeats 8000000 in
theorem Bk.walk_any {W : World} {t bm : Nat} {T : Bk.T} {L : List Bk.X} {G0 : Nat → Prop} {gb gf wd N : Nat} {cb cf : Array Value} {r : List Bk.H → Nat} {I : List Bk.H → (Nat → Prop) → World → Prop} (C : Bk.Cli gb cb gf cf wd N r I) (hS : Bk.Stand W t bm T L) (hI : I [] G0 W)
    (hsep : ∀ k, Bk.foot t bm L k → ¬ G0 k) (hT : TabO W) (hG0 : ¬ G0 1) (hft : ∀ k, Bk.foot t bm L k → k ≠ 1)
    (hG : Bk.Good T.w T.l) (hw : T.w ≤ 1024) (hw8 : T.w % 8 = 0) (hwd : T.w ≤ wd) (hl : T.l.length ≤ 4398046511104) (q : ByteArray) (hq : q.size = T.w / 8) (hN : N ≤ 4398046511104) (hR : (Bk.Res T q.data.toList r).2 ≤ T.seen + N) (hD : ∀ i, (Bk.deeps (Bk.os T.l)).getD i 0 ≤ 2199023255552) :
    Calls Tryz.prog 34 #[.pointer (some ⟨t, 0, none⟩), .string q, .func (.func gb) #[] cb, .func (.func gf) #[] cf] W fun e w' =>
      e = .returned (.tuple #[]) ∧ ∃ G', Bk.Stand w' t bm { T with seen := (Bk.Res T q.data.toList r).2 } L ∧ I (Bk.Res T q.data.toList r).1 G' w' ∧ Bk.Only (fun k => k = t ∨ G0 k) W w' ∧ ∀ k, G' k → G0 k ∨ W.heap.size ≤ k := by
  obtain ⟨c0, c1, c2, c3, c4, c5⟩ := hS.six
  have ht := hS.tree.lt
  have Wk0 := Bk.Wk.start (q := q) (fv := .func (.func gf) #[] cf) hS hI C.keep C.lt hsep hT hG0 hft
  go_enter Tryz.func34, Tryz.ntmps34
  go_upto_region 3 with fail
  generalize ((((W.alloc (.cells #[.pointer (some ⟨t, 0, none⟩)] 23)).alloc (.cells #[.string q] 9)).alloc (.cells #[.func (.func gf) #[] cf] 68)).alloc (.cells #[.slice none 0 0] 84)) = w1 at Wk0 ⊢
  generalize hb8 : W.heap.size + 3 = b8 at Wk0 ⊢
  generalize hb7 : W.heap.size + 2 = b7 at Wk0 hb8 ⊢
  generalize hb5 : W.heap.size + 1 = b5 at Wk0 ⊢
  obtain ⟨b4, hb4⟩ : ∃ b4, W.heap.size = b4 := ⟨_, rfl⟩
  have Wk1 : Bk.Wk W t bm T L q b4 b5 b7 b8 (.func (.func gf) #[] cf) G0 I [] ([], T.seen) G0 w1 := hb4 ▸ Wk0
  rw [hb4]
  clear Wk0 hb8 hb7 hb5 hb4 c0 c1 c2 c3 c4 c5 ht
  obtain ⟨c0, c1, c2, c3, c4, c5⟩ := Wk1.tree.six
  have k4 := Wk1.bx4.cell 0
  have HD := Lib.hid hD
  clear hD
  simp only [List.getElem?_toArray, List.getElem?_cons_zero] at k4
  by_cases h0 : T.l.length = 0
  · have hL : L = [] := List.length_eq_zero_iff.1 (by rw [hS.len, h0])
    subst hL
    simp only [Bk.adr, List.getElem?_nil, Option.map_none, Option.bind_some, Bk.ptr] at c1
    have HR : Bk.Res T q.data.toList r = ([], T.seen) := by unfold Bk.Res; rw [if_pos h0]
    have HRR := Lib.hid HR
    obtain ⟨A, cap, hb, hr, _⟩ := Wk1.way
    have k8 := hb.cell 0
    simp only [List.getElem?_toArray, List.getElem?_cons_zero, List.length_nil] at k8
    clear h0 HR hR hb hr
    go_upto_region 5 with fail
    refine wp_loop_rounds 1 ?_
    rw [rounds_succ]
    go_wp2_with fail
    go_end0
    rw [HRR.out]
    exact ⟨rfl, G0, Wk1.tree, Wk1.cl, Wk1.only, Wk1.gg⟩
  · obtain ⟨y0, hy0⟩ := hS.at' (List.getElem?_eq_getElem (show 0 < T.l.length by omega))
    rw [Bk.adr_at hy0] at c1
    simp only [Bk.ptr] at c1
    have hfin := Bk.Res_some (q := q.data.toList) (r := r) hG h0
    have hge := Bk.finish_ge T.w T.l q.data.toList r (Bk.look T.l q.data.toList 0 ([], T.seen)) [(0, Bk.kids T.w T.l 0)]
    rw [← hfin, (Bk.look_len T.l q.data.toList 0 ([], T.seen)).2] at hge
    have hlk := Bk.look_any C Wk1 hG hw hw8 hwd hl hy0 (List.getElem?_eq_getElem (show 0 < T.l.length by omega)) hq (by show 0 < N; simp at hge; omega) (by rw [hG.deep_root h0]; rfl) (by show 0 + 1 ≤ _; omega)
    have HH := Lib.hid (And.intro h0 (And.intro hy0 (And.intro hfin hge)))
    clear h0 hy0 hfin hge
    go_upto_region 5 with (go_at_call 51; refine hlk.mono ?_; clear hlk; rintro e w2 ⟨rfl, v, G', wk2⟩)
    have hJ : Bk.WJ W t bm T L q b4 b5 b7 b8 (.func (.func gf) #[] cf) G0 r I (Bk.costs T.w T.l [(0, Bk.kids T.w T.l 0)]) w2 := by
      refine ⟨_, _, G', rfl, wk2, HH.out.2.2.1.symm, ?_⟩
      have := Bk.look_len T.l q.data.toList 0 ([], T.seen)
      simp at this ⊢
      omega
    clear wk2 Wk1 c0 c1 c2 c3 c4 c5 k4
    go_loopg [10] (Bk.costs T.w T.l [(0, Bk.kids T.w T.l 0)]) (fun k _ wr => Bk.WJ W t bm T L q b4 b5 b7 b8 (.func (.func gf) #[] cf) G0 r I k wr)
    case atStart => exact hJ
    case round =>
      clear hJ w2 w1
      obtain ⟨st, s, G, hk, wk, hfin, hsl⟩ := hrel
      rcases List.eq_nil_or_concat st with rfl | ⟨st', f, rfl⟩
      · obtain ⟨A, cap, hb, hr, _⟩ := wk.way
        have k8 := hb.cell 0
        simp only [List.getElem?_toArray, List.getElem?_cons_zero, List.length_nil] at k8
        clear hb hr
        have HF := Lib.hid hfin
        clear hfin hk
        go_wp2_with fail
        go_end0
        have e1 : s = Bk.Res T q.data.toList r := HF.out
        rw [← e1]
        exact ⟨rfl, G, wk.tree, wk.cl, wk.only, wk.gg⟩
      · rw [List.concat_eq_append] at *
        obtain ⟨g, cap, x, n, hn, hx, hgl, hb, hcap, hmax, hr, hGg, d0, d1, d2⟩ := wk.top
        have k8 := hb.cell 0
        simp only [List.getElem?_toArray, List.getElem?_cons_zero] at k8
        obtain ⟨i, left, v⟩ := f
        obtain ⟨Af, capf, hv, e2, e3, hc⟩ := wk.lf ⟨i, left, v⟩ (by simp)
        simp only at hv hn hx d0 d1 d2 hc e2
        subst hv
        have hl1 : (st' ++ [(⟨i, left, .slice Af (Bk.es left).length capf⟩ : Bk.Fr)]).length = st'.length + 1 := by simp
        rw [hl1] at k8 hcap
        have hsm : st'.length ≤ 9223372036854775806 := by unfold maxLen at hmax; omega
        have f8 := hb.frozen 0
        have hcm : capf ≤ 9223372036854775807 := by unfold maxLen at e3; omega
        cases left with
        | nil =>
          simp only [Bk.es, List.map_nil, List.length_nil] at d2
          have wk' := wk.popped C.keep C.lt hb hr hGg
          have HF := Lib.hid (And.intro hk (And.intro hfin hsl))
          clear hk hfin hsl
          go_upto_region 9 with fail
          go_roundg (Bk.costs T.w T.l (st'.map Bk.fr2))
          case measure =>
            rw [HF.out.1, List.map_append]
            show _ < Bk.costs T.w T.l (st'.map Bk.fr2 ++ [(i, [])])
            rw [Bk.costs_pop]; omega
          case rel =>
            refine ⟨st', s, G, rfl, wk', ?_, HF.out.2.2⟩
            rw [← HF.out.2.1, List.map_append]
            exact (Bk.finish_pop q.data.toList r (st'.map Bk.fr2) i s).symm
        | cons ek rest =>
          obtain ⟨e, k⟩ := ek
          have hle : (Bk.es ((e, k) :: rest)).length = (Bk.es rest).length + 1 := by simp [Bk.es]
          obtain ⟨gf', off, rfl, hP, ⟨cs, hbf⟩, hcf⟩ := hc (by omega)
          rw [hle] at d2 e2
          have c9 : wr.cell? ⟨gf', off, none⟩ = some (.int .i64 e) := hcf 0 e rfl
          have f2 := hr.frozenAt (st'.length * 3 + 2)
          have u7 : (((Bk.es rest).length : Int) + 1 == 0) = false := by simp; omega
          have hll : (Bk.es rest).length ≤ 9223372036854775806 := by omega
          by_cases hc1 : capf = 1
          · subst hc1
            have hz : (Bk.es rest).length = 0 := by omega
            have hlf' : Bk.Lf wr (fun g => W.heap.size ≤ g ∧ ¬ G g) (.slice (some ⟨gf', off, none⟩) 0 0) (Bk.es rest) := ⟨_, 0, by rw [hz], by omega, by decide, fun h0 => by omega⟩
            rw [hz] at d2 u7
            have HF := Lib.hid (And.intro hk (And.intro hfin (And.intro hsl (And.intro hn hx))))
            have wk7 := wk.cutv C.keep C.lt hb hr hGg (left' := rest) (v' := .slice (some ⟨gf', off, none⟩) 0 0) (fun ec hec => List.mem_cons_of_mem _ hec) hlf'
            obtain ⟨hki, hke⟩ := (wk.ok st'.length ⟨i, (e, k) :: rest, .slice (some ⟨gf', off, none⟩) (Bk.es ((e, k) :: rest)).length 1⟩ (by rw [List.getElem?_append_right (Nat.le_refl _), Nat.sub_self]; rfl)).2.1 (e, k) (List.mem_cons_self ..)
            have hdi := (wk.ok st'.length ⟨i, (e, k) :: rest, .slice (some ⟨gf', off, none⟩) (Bk.es ((e, k) :: rest)).length 1⟩ (by rw [List.getElem?_append_right (Nat.le_refl _), Nat.sub_self]; rfl)).2.2
            clear hk hfin hsl
            go_upto_region 11 with fail
            have d0' := (World.cell?_setCell_other wr ⟨g, st'.length * 3 + 2, none⟩ ⟨g, st'.length * 3, none⟩ (.slice (some ⟨gf', off, none⟩) 0 0) (by simp)).trans d0
            have d1' := (World.cell?_setCell_other wr ⟨g, st'.length * 3 + 2, none⟩ ⟨g, st'.length * 3 + 1, none⟩ (.slice (some ⟨gf', off, none⟩) 0 0) (by simp)).trans d1
            generalize wr.setCell ⟨g, st'.length * 3 + 2, none⟩ (.slice (some ⟨gf', off, none⟩) 0 0) = w7 at wk7 d0' d1' ⊢
            clear wk hb hr hGg d0 d1 d2 k8 f8 f2 c9 hcf hbf hc hgl hlf' wr
            have eb := C.eb
            have hbd := C.bound wk7.cl
            have hrle := C.rle s.1
            simp only [Array.empty_append] at hbd
            generalize hb0 : r s.1 = b at hbd hrle
            have HB := Lib.hid hb0
            clear hb0
            go_upto_region 12 with (go_at_fn gb; refine hbd.mono ?_; clear hbd eb; rintro e' w8 ⟨rfl, D8⟩)
            have wk8 := wk7.dn C.keep D8
            have d0 := (D8.cell _).trans d0'
            have d1 := (D8.cell _).trans d1'
            clear wk7 D8 d0' d1' w7
            have hfl := Bk.far_le n.code q.data.toList
            have hnl := hG.len n (List.mem_of_getElem? HF.out.2.2.2.1)
            have hca := Bk.code_at HF.out.2.2.2.1
            generalize hfd : Bk.far n.code q.data.toList = d at d1 hfl
            have HC := Lib.hid (And.intro hca (And.intro hfd hki))
            clear hca hfd hki
            have hcost : Bk.costs T.w T.l ((st' ++ [(⟨i, rest, .slice (some ⟨gf', off, none⟩) 0 0⟩ : Bk.Fr)]).map Bk.fr2) = Bk.costs T.w T.l (st'.map Bk.fr2 ++ [(i, rest)]) := by rw [List.map_append]; rfl
            have hgk : gk = Bk.costs T.w T.l (st'.map Bk.fr2 ++ [(i, (e, k) :: rest)]) := by rw [HF.out.1, List.map_append]; rfl
            have hfin : Bk.finish T.w T.l q.data.toList r (st'.map Bk.fr2 ++ [(i, (e, k) :: rest)]) s = Bk.Res T q.data.toList r := by rw [← HF.out.2.1, List.map_append]; rfl
            have HK := Lib.hid (And.intro hcost (And.intro hgk hfin))
            clear hcost hgk hfin
            by_cases m1 : d ≤ e + b
            · by_cases m2 : e ≤ d + b
              · have u1 : decide ((d : Int) - (b : Int) ≤ (e : Int)) = true := decide_eq_true (by omega)
                have u2 : decide ((e : Int) ≤ (d : Int) + (b : Int)) = true := decide_eq_true (by omega)
                have hnr : Bk.near (Bk.far (Bk.code T.l i) q.data.toList) e (r s.1) = true := by
                  rw [HC.out.1, HC.out.2.1, HB.out]
                  unfold Bk.near
                  rw [decide_eq_true m1, decide_eq_true m2]; rfl
                have hpush := hG.finish_push q.data.toList r (st'.map Bk.fr2) i e k rest s hnr
                rw [HK.out.2.2] at hpush
                have hge := Bk.finish_ge T.w T.l q.data.toList r (Bk.look T.l q.data.toList k s) ((st'.map Bk.fr2 ++ [(i, rest)]) ++ [(k, Bk.kids T.w T.l k)])
                rw [← hpush, (Bk.look_len T.l q.data.toList k s).2] at hge
                obtain ⟨z, hz⟩ : ∃ z, L[k]? = some z := hS.at' (List.getElem?_eq_getElem (hG.child_lt HC.out.2.2).2)
                have hdk := hG.deep_child HC.out.2.2
                rw [hdi] at hdk
                have hdb := HD.out k
                have hsl := HF.out.2.2.1
                obtain ⟨a0, a1, a2, a3⟩ := wk8.tree.four HF.out.2.2.2.2 HF.out.2.2.2.1
                have hlu := (wk8.tree.node i x n HF.out.2.2.2.2 HF.out.2.2.2.1).2.look intKey Tryz.underlying64 (Bk.key_int e (by omega))
                have hkid : Bk.kid T.l L i (e : Int) = some z.blk := by
                  simp only [Bk.kid, Int.toNat_natCast, HC.out.2.2, Bk.adr_at hz]
                  simp
                rw [show Bk.kid ({ T with seen := s.2 } : Bk.T).l L i (e : Int) = some z.blk from hkid] at hlu
                simp only [Bk.ptr] at hlu
                have hlk := Bk.look_any C wk8 hG hw hw8 hwd hl hz (List.getElem?_eq_getElem (hG.child_lt HC.out.2.2).2) hq (by omega) (by rw [hdk]; simp) (by simp; omega)
                have HP := Lib.hid (And.intro hpush hsl)
                clear hpush hge hz hdk hsl hkid hnr hdi
                go_wp2_with (go_at_call 51; refine hlk.mono ?_; clear hlk; rintro e' w9 ⟨rfl, v, G', wk9⟩)
                go_roundg (Bk.costs T.w T.l (((st' ++ [(⟨i, rest, .slice (some ⟨gf', off, none⟩) 0 0⟩ : Bk.Fr)]) ++ [(⟨k, Bk.kids T.w T.l k, v⟩ : Bk.Fr)]).map Bk.fr2))
                case measure =>
                  rw [HK.out.2.1, List.map_append, List.map_append]
                  exact hG.costs_push (st'.map Bk.fr2) i e k rest
                case rel =>
                  refine ⟨_, _, G', rfl, wk9, ?_, ?_⟩
                  · rw [List.map_append, List.map_append]
                    exact HP.out.1.symm
                  · have := Bk.look_len T.l q.data.toList k s
                    have := HP.out.2
                    omega
              · have u1 : decide ((d : Int) - (b : Int) ≤ (e : Int)) = true := decide_eq_true (by omega)
                have u2 : decide ((e : Int) ≤ (d : Int) + (b : Int)) = false := decide_eq_false (by omega)
                have hnr : Bk.near (Bk.far (Bk.code T.l i) q.data.toList) e (r s.1) = false := by
                  rw [HC.out.1, HC.out.2.1, HB.out]
                  unfold Bk.near
                  rw [decide_eq_true m1, decide_eq_false m2]; rfl
                have HN := Lib.hid hnr
                clear hnr hdi
                go_wp2_with fail
                go_roundg (Bk.costs T.w T.l ((st' ++ [(⟨i, rest, .slice (some ⟨gf', off, none⟩) 0 0⟩ : Bk.Fr)]).map Bk.fr2))
                case measure => rw [HK.out.2.1, HK.out.1]; exact Bk.costs_skip T.w T.l (st'.map Bk.fr2) i e k rest
                case rel =>
                  refine ⟨_, s, G, rfl, wk8, ?_, HF.out.2.2.1⟩
                  rw [List.map_append, ← HK.out.2.2]
                  exact (Bk.finish_skip q.data.toList r (st'.map Bk.fr2) i e k rest s HN.out).symm
            · have u1 : decide ((d : Int) - (b : Int) ≤ (e : Int)) = false := decide_eq_false (by omega)
              have hnr : Bk.near (Bk.far (Bk.code T.l i) q.data.toList) e (r s.1) = false := by
                rw [HC.out.1, HC.out.2.1, HB.out]
                unfold Bk.near
                rw [decide_eq_false m1]; rfl
              have HN := Lib.hid hnr
              clear hnr hdi
              go_wp2_with fail
              go_roundg (Bk.costs T.w T.l ((st' ++ [(⟨i, rest, .slice (some ⟨gf', off, none⟩) 0 0⟩ : Bk.Fr)]).map Bk.fr2))
              case measure => rw [HK.out.2.1, HK.out.1]; exact Bk.costs_skip T.w T.l (st'.map Bk.fr2) i e k rest
              case rel =>
                refine ⟨_, s, G, rfl, wk8, ?_, HF.out.2.2.1⟩
                rw [List.map_append, ← HK.out.2.2]
                exact (Bk.finish_skip q.data.toList r (st'.map Bk.fr2) i e k rest s HN.out).symm
          · have hc2 : (capf == 1) = false := by simpa using hc1
            have hlf' : Bk.Lf wr (fun g => W.heap.size ≤ g ∧ ¬ G g) (.slice (some ⟨gf', off + 1, none⟩) (Bk.es rest).length (capf - 1)) (Bk.es rest) := by
              refine ⟨_, capf - 1, rfl, by omega, by unfold maxLen; omega, fun h0 => ⟨gf', off + 1, rfl, hP, ⟨cs, hbf⟩, fun j z hz => ?_⟩⟩
              have := hcf (j + 1) z hz
              rw [show off + 1 + j = off + (j + 1) by omega]
              exact this
            have HF := Lib.hid (And.intro hk (And.intro hfin (And.intro hsl (And.intro hn hx))))
            have wk7 := wk.cutv C.keep C.lt hb hr hGg (left' := rest) (v' := .slice (some ⟨gf', off + 1, none⟩) (Bk.es rest).length (capf - 1)) (fun ec hec => List.mem_cons_of_mem _ hec) hlf'
            obtain ⟨hki, hke⟩ := (wk.ok st'.length ⟨i, (e, k) :: rest, .slice (some ⟨gf', off, none⟩) (Bk.es ((e, k) :: rest)).length capf⟩ (by rw [List.getElem?_append_right (Nat.le_refl _), Nat.sub_self]; rfl)).2.1 (e, k) (List.mem_cons_self ..)
            have hdi := (wk.ok st'.length ⟨i, (e, k) :: rest, .slice (some ⟨gf', off, none⟩) (Bk.es ((e, k) :: rest)).length capf⟩ (by rw [List.getElem?_append_right (Nat.le_refl _), Nat.sub_self]; rfl)).2.2
            clear hk hfin hsl
            go_upto_region 11 with fail
            have d0' := (World.cell?_setCell_other wr ⟨g, st'.length * 3 + 2, none⟩ ⟨g, st'.length * 3, none⟩ (.slice (some ⟨gf', off + 1, none⟩) (Bk.es rest).length (capf - 1)) (by simp)).trans d0
            have d1' := (World.cell?_setCell_other wr ⟨g, st'.length * 3 + 2, none⟩ ⟨g, st'.length * 3 + 1, none⟩ (.slice (some ⟨gf', off + 1, none⟩) (Bk.es rest).length (capf - 1)) (by simp)).trans d1
            generalize wr.setCell ⟨g, st'.length * 3 + 2, none⟩ (.slice (some ⟨gf', off + 1, none⟩) (Bk.es rest).length (capf - 1)) = w7 at wk7 d0' d1' ⊢
            clear wk hb hr hGg d0 d1 d2 k8 f8 f2 c9 hcf hbf hc hgl hlf' wr
            have eb := C.eb
            have hbd := C.bound wk7.cl
            have hrle := C.rle s.1
            simp only [Array.empty_append] at hbd
            generalize hb0 : r s.1 = b at hbd hrle
            have HB := Lib.hid hb0
            clear hb0
            go_upto_region 12 with (go_at_fn gb; refine hbd.mono ?_; clear hbd eb; rintro e' w8 ⟨rfl, D8⟩)
            have wk8 := wk7.dn C.keep D8
            have d0 := (D8.cell _).trans d0'
            have d1 := (D8.cell _).trans d1'
            clear wk7 D8 d0' d1' w7
            have hfl := Bk.far_le n.code q.data.toList
            have hnl := hG.len n (List.mem_of_getElem? HF.out.2.2.2.1)
            have hca := Bk.code_at HF.out.2.2.2.1
            generalize hfd : Bk.far n.code q.data.toList = d at d1 hfl
            have HC := Lib.hid (And.intro hca (And.intro hfd hki))
            clear hca hfd hki
            have hcost : Bk.costs T.w T.l ((st' ++ [(⟨i, rest, .slice (some ⟨gf', off + 1, none⟩) (Bk.es rest).length (capf - 1)⟩ : Bk.Fr)]).map Bk.fr2) = Bk.costs T.w T.l (st'.map Bk.fr2 ++ [(i, rest)]) := by rw [List.map_append]; rfl
            have hgk : gk = Bk.costs T.w T.l (st'.map Bk.fr2 ++ [(i, (e, k) :: rest)]) := by rw [HF.out.1, List.map_append]; rfl
            have hfin : Bk.finish T.w T.l q.data.toList r (st'.map Bk.fr2 ++ [(i, (e, k) :: rest)]) s = Bk.Res T q.data.toList r := by rw [← HF.out.2.1, List.map_append]; rfl
            have HK := Lib.hid (And.intro hcost (And.intro hgk hfin))
            clear hcost hgk hfin
            by_cases m1 : d ≤ e + b
            · by_cases m2 : e ≤ d + b
              · have u1 : decide ((d : Int) - (b : Int) ≤ (e : Int)) = true := decide_eq_true (by omega)
                have u2 : decide ((e : Int) ≤ (d : Int) + (b : Int)) = true := decide_eq_true (by omega)
                have hnr : Bk.near (Bk.far (Bk.code T.l i) q.data.toList) e (r s.1) = true := by
                  rw [HC.out.1, HC.out.2.1, HB.out]
                  unfold Bk.near
                  rw [decide_eq_true m1, decide_eq_true m2]; rfl
                have hpush := hG.finish_push q.data.toList r (st'.map Bk.fr2) i e k rest s hnr
                rw [HK.out.2.2] at hpush
                have hge := Bk.finish_ge T.w T.l q.data.toList r (Bk.look T.l q.data.toList k s) ((st'.map Bk.fr2 ++ [(i, rest)]) ++ [(k, Bk.kids T.w T.l k)])
                rw [← hpush, (Bk.look_len T.l q.data.toList k s).2] at hge
                obtain ⟨z, hz⟩ : ∃ z, L[k]? = some z := hS.at' (List.getElem?_eq_getElem (hG.child_lt HC.out.2.2).2)
                have hdk := hG.deep_child HC.out.2.2
                rw [hdi] at hdk
                have hdb := HD.out k
                have hsl := HF.out.2.2.1
                obtain ⟨a0, a1, a2, a3⟩ := wk8.tree.four HF.out.2.2.2.2 HF.out.2.2.2.1
                have hlu := (wk8.tree.node i x n HF.out.2.2.2.2 HF.out.2.2.2.1).2.look intKey Tryz.underlying64 (Bk.key_int e (by omega))
                have hkid : Bk.kid T.l L i (e : Int) = some z.blk := by
                  simp only [Bk.kid, Int.toNat_natCast, HC.out.2.2, Bk.adr_at hz]
                  simp
                rw [show Bk.kid ({ T with seen := s.2 } : Bk.T).l L i (e : Int) = some z.blk from hkid] at hlu
                simp only [Bk.ptr] at hlu
                have hlk := Bk.look_any C wk8 hG hw hw8 hwd hl hz (List.getElem?_eq_getElem (hG.child_lt HC.out.2.2).2) hq (by omega) (by rw [hdk]; simp) (by simp; omega)
                have HP := Lib.hid (And.intro hpush hsl)
                clear hpush hge hz hdk hsl hkid hnr hdi
                go_wp2_with (go_at_call 51; refine hlk.mono ?_; clear hlk; rintro e' w9 ⟨rfl, v, G', wk9⟩)
                go_roundg (Bk.costs T.w T.l (((st' ++ [(⟨i, rest, .slice (some ⟨gf', off + 1, none⟩) (Bk.es rest).length (capf - 1)⟩ : Bk.Fr)]) ++ [(⟨k, Bk.kids T.w T.l k, v⟩ : Bk.Fr)]).map Bk.fr2))
                case measure =>
                  rw [HK.out.2.1, List.map_append, List.map_append]
                  exact hG.costs_push (st'.map Bk.fr2) i e k rest
                case rel =>
                  refine ⟨_, _, G', rfl, wk9, ?_, ?_⟩
                  · rw [List.map_append, List.map_append]
                    exact HP.out.1.symm
                  · have := Bk.look_len T.l q.data.toList k s
                    have := HP.out.2
                    omega
              · have u1 : decide ((d : Int) - (b : Int) ≤ (e : Int)) = true := decide_eq_true (by omega)
                have u2 : decide ((e : Int) ≤ (d : Int) + (b : Int)) = false := decide_eq_false (by omega)
                have hnr : Bk.near (Bk.far (Bk.code T.l i) q.data.toList) e (r s.1) = false := by
                  rw [HC.out.1, HC.out.2.1, HB.out]
                  unfold Bk.near
                  rw [decide_eq_true m1, decide_eq_false m2]; rfl
                have HN := Lib.hid hnr
                clear hnr hdi
                go_wp2_with fail
                go_roundg (Bk.costs T.w T.l ((st' ++ [(⟨i, rest, .slice (some ⟨gf', off + 1, none⟩) (Bk.es rest).length (capf - 1)⟩ : Bk.Fr)]).map Bk.fr2))
                case measure => rw [HK.out.2.1, HK.out.1]; exact Bk.costs_skip T.w T.l (st'.map Bk.fr2) i e k rest
                case rel =>
                  refine ⟨_, s, G, rfl, wk8, ?_, HF.out.2.2.1⟩
                  rw [List.map_append, ← HK.out.2.2]
                  exact (Bk.finish_skip q.data.toList r (st'.map Bk.fr2) i e k rest s HN.out).symm
            · have u1 : decide ((d : Int) - (b : Int) ≤ (e : Int)) = false := decide_eq_false (by omega)
              have hnr : Bk.near (Bk.far (Bk.code T.l i) q.data.toList) e (r s.1) = false := by
                rw [HC.out.1, HC.out.2.1, HB.out]
                unfold Bk.near
                rw [decide_eq_false m1]; rfl
              have HN := Lib.hid hnr
              clear hnr hdi
              go_wp2_with fail
              go_roundg (Bk.costs T.w T.l ((st' ++ [(⟨i, rest, .slice (some ⟨gf', off + 1, none⟩) (Bk.es rest).length (capf - 1)⟩ : Bk.Fr)]).map Bk.fr2))
              case measure => rw [HK.out.2.1, HK.out.1]; exact Bk.costs_skip T.w T.l (st'.map Bk.fr2) i e k rest
              case rel =>
                refine ⟨_, s, G, rfl, wk8, ?_, HF.out.2.2.1⟩
                rw [List.map_append, ← HK.out.2.2]
                exact (Bk.finish_skip q.data.toList r (st'.map Bk.fr2) i e k rest s HN.out).symm
end Go.Proofs.YtikhahkmebkccaaGreatDoor
