/- Contract of walk's inner function look. Conditions: each theorem's own hypotheses. -/
import Derived.Test.YtikhahkmebkccaaGreatDoorBkH
import Derived.StillTailTactics
namespace Go.Proofs.YtikhahkmebkccaaGreatDoor
open Go.RowKit Go.Maps Go.Sort
set_option linter.unusedVariables false

theorem Bk.visInfo : (Tryz.prog.info? 86).map (fun i => (i.zero, i.size, i.bytes)) = some (some (.agg #[.pointer none, .int .i64 0, .slice none 0 0]), 3, 40) := by kernel_rfl
theorem Bk.Lf.of {w : World} {B : Nat} {v : Value} {es : List Int} {n : Nat} (hn : n = es.length) (h : w.ownsRow B 3 1 v n (es.map (Value.int .i64))) : Bk.Lf w (fun g => B ≤ g ∧ g < w.heap.size) v es := by
  subst hn
  rcases h.2 with ⟨rfl, e2⟩ | ⟨g, cap, cur, rfl, hb, hh, h1, h2, h3, h4⟩
  · exact ⟨none, 0, by rw [e2], by omega, by decide, fun h0 => by omega⟩
  · refine ⟨_, cap, rfl, h1, h2, fun h0 => ⟨g, 0, rfl, ⟨hb, h.lt g rfl |>.2⟩, ⟨cur, hh⟩, fun j e he => ?_⟩⟩
    have := h.cells (g := g) rfl j (.int .i64 e) (by rw [List.getElem?_map, he]; rfl)
    have e1 : (⟨g, 0, none⟩ : Addr).add j = ⟨g, 0 + j, none⟩ := by
      unfold Addr.add; split
      · subst_vars; rfl
      · rfl
    rw [e1] at this
    exact this
theorem Bk.cells3 (w : World) (t : TypeId) (a b c : Value) : ∀ j u, ([a, b, c] : List Value)[j]? = some u → (w.alloc (.cells #[a, b, c] t)).cell? ((⟨w.heap.size, 0, none⟩ : Addr).add j) = some u := by
  intro j u hu
  have hb := Blk.new w t #[a, b, c]
  match j with
  | 0 => rw [show (⟨w.heap.size, 0, none⟩ : Addr).add 0 = ⟨w.heap.size, 0, none⟩ from rfl, hb.cell 0]; exact hu
  | 1 => rw [show (⟨w.heap.size, 0, none⟩ : Addr).add 1 = ⟨w.heap.size, 1, none⟩ from rfl, hb.cell 1]; exact hu
  | 2 => rw [show (⟨w.heap.size, 0, none⟩ : Addr).add 2 = ⟨w.heap.size, 2, none⟩ from rfl, hb.cell 2]; exact hu
  | j + 3 => simp at hu
theorem Bk.row_form {w : World} {B size : Nat} {e : TypeId} {v : Value} {n : Nat} {xs : List Value} (h : w.ownsRow B e size v n xs) : ∃ A cap, v = .slice A n cap := by
  rcases h.2 with ⟨rfl, h0⟩ | ⟨g, cap, cur, rfl, _⟩
  · rw [h0]; exact ⟨_, _, rfl⟩
  · exact ⟨_, _, rfl⟩
section
variable {W0 w : World} {t bm : Nat} {T : Bk.T} {L : List Bk.X} {q : ByteArray} {b4 b5 b7 b8 : Nat} {G0 G : Nat → Prop} {st : List Bk.Fr} {s : List Bk.H × Nat} {gb gf wd N : Nat} {cb cf : Array Value} {r : List Bk.H → Nat} {I : List Bk.H → (Nat → Prop) → World → Prop}
set_option maxRecDepth 100000 in
set_option maxHeartbeats 4000000 in
theorem Bk.look_any (C : Bk.Cli gb cb gf cf wd N r I) (h : Bk.Wk W0 t bm T L q b4 b5 b7 b8 (.func (.func gf) #[] cf) G0 I st s G w) (hG : Bk.Good T.w T.l) (hw : T.w ≤ 1024) (hw8 : T.w % 8 = 0) (hwd : T.w ≤ wd) (hl : T.l.length ≤ 4398046511104) {i : Nat} {x : Bk.X} {n : Bk.N} (hx : L[i]? = some x) (hn : T.l[i]? = some n) (hq : q.size = T.w / 8) (hN : s.1.length < N)
    (hd : (Bk.deeps (Bk.os T.l)).getD i 0 = st.length + 1) (hd2 : st.length + 1 ≤ 2199023255552) :
    Calls Tryz.prog 51 #[.pointer (some ⟨x.blk, 0, none⟩), .pointer (some ⟨b4, 0, none⟩), .pointer (some ⟨b5, 0, none⟩), .pointer (some ⟨b7, 0, none⟩), .pointer (some ⟨b8, 0, none⟩)] w fun e w' =>
      e = .returned (.tuple #[]) ∧ ∃ v G', Bk.Wk W0 t bm T L q b4 b5 b7 b8 (.func (.func gf) #[] cf) G0 I (st ++ [⟨i, Bk.kids T.w T.l i, v⟩]) (Bk.look T.l q.data.toList i s) G' w' := by
  obtain ⟨i0, hi, hz0, hz1, hz2⟩ := info_parts Bk.visInfo
  have k4 := h.bx4.cell 0
  have k5 := h.bx5.cell 0
  simp only [List.getElem?_toArray, List.getElem?_cons_zero] at k4 k5
  have hv := Bk.visited_any h.tree hG hw hw8 hl hx hn q hq (fun w' ho => h.tab.keep (ho.block _ h.tab.pos (fun e => h.sep.2.2.2 t (.inl rfl) e.symm)))
  have hfl := Bk.far_le n.code q.data.toList
  have hnl := hG.len n (List.mem_of_getElem? hn)
  obtain ⟨d, hdd⟩ : ∃ d, Bk.far n.code q.data.toList = d := ⟨_, rfl⟩
  rw [hdd] at hv hfl
  have HX := Lib.hid (And.intro hx (And.intro hn (And.intro hq (And.intro hdd (And.intro hnl hd)))))
  clear hx hn hq hdd hd
  go_enter Tryz.func51, Tryz.ntmps51
  go_upto_region 1 with (go_at_call 52; refine hv.mono ?_; clear hv; rintro e w1 ⟨v, rfl, hrow, hS1, hO1⟩; obtain ⟨A1, cp1, rfl, hA1, hA2⟩ := Bk.row_slice hrow; clear hA1 hA2)
  have lf1 := Bk.Lf.of (es := Bk.es (Bk.kids T.w T.l i)) (by simp [Bk.es]) hrow
  have wk1 := h.see C.keep C.lt hO1 (n := s.2 + 1) hS1
  have B6 := Blk.new w1 86 #[.pointer (some ⟨x.blk, 0, none⟩), .int .i64 d, .slice A1 (Bk.kids T.w T.l i).length cp1]
  have hb12 : Below w1.heap.size w1 (w1.alloc (.cells #[.pointer (some ⟨x.blk, 0, none⟩), .int .i64 d, .slice A1 (Bk.kids T.w T.l i).length cp1] 86)) := (Below.refl _ _).alloc (Nat.le_refl _) _
  have wk2 := wk1.new C.keep C.lt hb12
  have n6 : w1.heap.size < (w1.alloc (.cells #[.pointer (some ⟨x.blk, 0, none⟩), .int .i64 d, .slice A1 (Bk.kids T.w T.l i).length cp1] 86)).heap.size := by simp
  have lf2 : Bk.Lf (w1.alloc (.cells #[.pointer (some ⟨x.blk, 0, none⟩), .int .i64 d, .slice A1 (Bk.kids T.w T.l i).length cp1] 86)) (fun g => W0.heap.size ≤ g ∧ ¬ G g ∧ g < w1.heap.size) (.slice A1 (Bk.kids T.w T.l i).length cp1) (Bk.es (Bk.kids T.w T.l i)) :=
    lf1.keep fun g cs hg hgb => ⟨hb12.block g hg.2, by have := h.only.size; omega, fun hGg => by have := C.lt h.cl hGg; omega, hg.2⟩
  have hw6 : ¬ G w1.heap.size ∧ W0.heap.size ≤ w1.heap.size := ⟨fun hGg => by have := C.lt wk1.cl hGg; omega, by have := wk1.only.size; omega⟩
  generalize w1.alloc (.cells #[.pointer (some ⟨x.blk, 0, none⟩), .int .i64 d, .slice A1 (Bk.kids T.w T.l i).length cp1] 86) = w2 at B6 wk2 lf2 n6 ⊢
  generalize w1.heap.size = b6 at B6 lf2 hw6 n6 ⊢
  clear hb12 wk1 lf1 hrow hS1 hO1 k4 k5 h w1
  obtain ⟨a0, a1, a2, a3⟩ := wk2.tree.four HX.out.1 HX.out.2.1
  have k7 := wk2.bx7.cell 0
  obtain ⟨j0, j1, j2⟩ : w2.cell? ⟨b6, 0, none⟩ = some (.pointer (some ⟨x.blk, 0, none⟩)) ∧ w2.cell? ⟨b6, 1, none⟩ = some (.int .i64 d) ∧ w2.cell? ⟨b6, 2, none⟩ = some (.slice A1 (Bk.kids T.w T.l i).length cp1) := ⟨B6.cell 0, B6.cell 1, B6.cell 2⟩
  simp only [List.getElem?_toArray, List.getElem?_cons_zero] at k7
  have hla := Bk.liveAt_at HX.out.2.1
  have hca := Bk.code_at HX.out.2.1
  cases hlv : n.live with
  | true =>
    rw [hlv] at a1 hla
    have ef := C.ef
    have hf := fun m => C.found (wk2.dn C.keep (w' := w2.drewN m) ⟨m, rfl⟩).cl hN ⟨d, n.code⟩ (by show d ≤ wd; omega) (by show n.code.length ≤ 128; omega)
    unfold Tx.v at a0
    simp only [Tx.v] at hf
    go_upto_region 2 with fail
    go_still_tail 8, (by kernel_rfl)
    go_upto_region 3 with (go_at_fn gf; refine (hf _).mono ?_; clear hf ef; rintro e w3 ⟨rfl, G', hI', hO', hG'⟩)
    have hnG6 : ∀ k, k < w2.heap.size → ¬ G k → ¬ G' k := fun k hk hg hg' => by
      rcases hG' k hg' with h1 | h1
      · exact hg h1
      · have : w2.heap.size ≤ k := h1
        omega
    have B63 : Blk w3 b6 86 #[.pointer (some ⟨x.blk, 0, none⟩), .int .i64 d, .slice A1 (Bk.kids T.w T.l i).length cp1] := (hO'.block b6 n6 hw6.1).trans B6
    have lf3 : Bk.Lf w3 (fun g => W0.heap.size ≤ g ∧ ¬ G' g) (.slice A1 (Bk.kids T.w T.l i).length cp1) (Bk.es (Bk.kids T.w T.l i)) := lf2.keep fun g cs hg hgb => ⟨hO'.block g hgb.lt hg.2.1, hg.1, hnG6 g hgb.lt hg.2.1⟩
    have wk3 := (wk2.dn C.keep (w' := w2.drewN 1) ⟨1, rfl⟩).cli hO' hI' hG'
    have hlk : (s.1 ++ [⟨d, n.code⟩], s.2 + 1) = Bk.look T.l q.data.toList i s := by
      unfold Bk.look
      rw [hla, hca, HX.out.2.2.2.1]
      rfl
    simp only [hlk] at wk3
    clear wk2 lf2 B6 a0 a1 a2 a3 k7 j0 j1 j2 hI' hO' hG' hnG6
    obtain ⟨A, cap, hb, hr, hnG⟩ := wk3.way
    have k8 := hb.cell 0
    simp only [List.getElem?_toArray, List.getElem?_cons_zero] at k8
    obtain ⟨j0, j1, j2⟩ : w3.cell? ⟨b6, 0, none⟩ = some (.pointer (some ⟨x.blk, 0, none⟩)) ∧ w3.cell? ⟨b6, 1, none⟩ = some (.int .i64 d) ∧ w3.cell? ⟨b6, 2, none⟩ = some (.slice A1 (Bk.kids T.w T.l i).length cp1) := ⟨B63.cell 0, B63.cell 1, B63.cell 2⟩
    have hown3 := hr.alloc (.cells #[.pointer (some ⟨x.blk, 0, none⟩), .int .i64 d, .slice A1 (Bk.kids T.w T.l i).length cp1] 86)
    have hm1 : st.length + 1 ≤ maxLen := by unfold maxLen; omega
    have hm2 : (st.length + 1) * 40 ≤ 140737488355328 := by omega
    have hm3 : W0.heap.size ≤ (w3.alloc (.cells #[.pointer (some ⟨x.blk, 0, none⟩), .int .i64 d, .slice A1 (Bk.kids T.w T.l i).length cp1] 86)).heap.size := by have := wk3.only.size; simp; omega
    have hb3 := hb.alloc (.cells #[.pointer (some ⟨x.blk, 0, none⟩), .int .i64 d, .slice A1 (Bk.kids T.w T.l i).length cp1] 86)
    have n8 := Bk.own_ne hown3 hb3 (by decide)
    go_wp2_with (at_builtin; refine wpList_append_own_at _ rfl _ _ 84 rfl W0.heap.size 86 i0 (.agg #[.pointer none, .int .i64 0, .slice none 0 0]) 3 40 Tryz.underlying84 hi hz0 hz1 hz2 rfl (by decide) (.slice A st.length cap) st.length _ rfl hown3 ⟨w3.heap.size, 0, none⟩ 1 1 [.pointer (some ⟨x.blk, 0, none⟩), .int .i64 d, .slice A1 (Bk.kids T.w T.l i).length cp1] rfl rfl (Bk.cells3 _ _ _ _ _) (by simp [Value.oneCell']) hm1 hm2 hm3 ?_; intro v' w4 hown' hg4 hnil hat; obtain ⟨A', cp', rfl⟩ := Bk.row_form hown'; have hb4 := hb3.grown hg4 n8; have j8 : w4.cell? ⟨b8, 0, none⟩ = some (.slice A st.length cap) := hb4.cell 0; have f8 := hb4.frozen 0)
    go_end0
    refine ⟨rfl, .slice A1 (Bk.kids T.w T.l i).length cp1, _, wk3.pushed C.keep C.lt hb hr hnG (f := ⟨i, Bk.kids T.w T.l i, .slice A1 (Bk.kids T.w T.l i).length cp1⟩) ?_ lf3 ?_ hown' hg4 hat⟩
    · unfold Bk.frCells
      rw [Bk.adr_at HX.out.1, hca, HX.out.2.2.2.1]
      rfl
    · refine ⟨(List.getElem?_eq_some_iff.1 HX.out.2.1).1, fun ec hec => ?_, HX.out.2.2.2.2.2⟩
      obtain ⟨e1, e2⟩ := Bk.mem_kids.1 (show (ec.1, ec.2) ∈ Bk.kids T.w T.l i from hec)
      exact ⟨e2, by omega⟩
  | false =>
    rw [hlv] at a1 hla
    go_upto_region 3 with fail
    have lf3 : Bk.Lf w2 (fun g => W0.heap.size ≤ g ∧ ¬ G g) (.slice A1 (Bk.kids T.w T.l i).length cp1) (Bk.es (Bk.kids T.w T.l i)) := lf2.keep fun g cs hg hgb => ⟨rfl, hg.1, hg.2.1⟩
    have hlk : (s.1, s.2 + 1) = Bk.look T.l q.data.toList i s := by
      unfold Bk.look
      rw [hla]
      rfl
    rw [hlk] at wk2
    clear a0 a1 a2 a3 k7 j0 j1 j2 lf2
    obtain ⟨w3, hw3⟩ : ∃ w3, w2 = w3 := ⟨_, rfl⟩
    subst hw3
    have wk3 := wk2
    have B63 := B6
    clear wk2 B6
    obtain ⟨A, cap, hb, hr, hnG⟩ := wk3.way
    have k8 := hb.cell 0
    simp only [List.getElem?_toArray, List.getElem?_cons_zero] at k8
    obtain ⟨j0, j1, j2⟩ : w2.cell? ⟨b6, 0, none⟩ = some (.pointer (some ⟨x.blk, 0, none⟩)) ∧ w2.cell? ⟨b6, 1, none⟩ = some (.int .i64 d) ∧ w2.cell? ⟨b6, 2, none⟩ = some (.slice A1 (Bk.kids T.w T.l i).length cp1) := ⟨B63.cell 0, B63.cell 1, B63.cell 2⟩
    have hown3 := hr.alloc (.cells #[.pointer (some ⟨x.blk, 0, none⟩), .int .i64 d, .slice A1 (Bk.kids T.w T.l i).length cp1] 86)
    have hm1 : st.length + 1 ≤ maxLen := by unfold maxLen; omega
    have hm2 : (st.length + 1) * 40 ≤ 140737488355328 := by omega
    have hm3 : W0.heap.size ≤ (w2.alloc (.cells #[.pointer (some ⟨x.blk, 0, none⟩), .int .i64 d, .slice A1 (Bk.kids T.w T.l i).length cp1] 86)).heap.size := by have := wk3.only.size; simp; omega
    have hb3 := hb.alloc (.cells #[.pointer (some ⟨x.blk, 0, none⟩), .int .i64 d, .slice A1 (Bk.kids T.w T.l i).length cp1] 86)
    have n8 := Bk.own_ne hown3 hb3 (by decide)
    go_wp2_with (at_builtin; refine wpList_append_own_at _ rfl _ _ 84 rfl W0.heap.size 86 i0 (.agg #[.pointer none, .int .i64 0, .slice none 0 0]) 3 40 Tryz.underlying84 hi hz0 hz1 hz2 rfl (by decide) (.slice A st.length cap) st.length _ rfl hown3 ⟨w2.heap.size, 0, none⟩ 1 1 [.pointer (some ⟨x.blk, 0, none⟩), .int .i64 d, .slice A1 (Bk.kids T.w T.l i).length cp1] rfl rfl (Bk.cells3 _ _ _ _ _) (by simp [Value.oneCell']) hm1 hm2 hm3 ?_; intro v' w4 hown' hg4 hnil hat; obtain ⟨A', cp', rfl⟩ := Bk.row_form hown'; have hb4 := hb3.grown hg4 n8; have j8 : w4.cell? ⟨b8, 0, none⟩ = some (.slice A st.length cap) := hb4.cell 0; have f8 := hb4.frozen 0)
    go_end0
    refine ⟨rfl, .slice A1 (Bk.kids T.w T.l i).length cp1, _, wk3.pushed C.keep C.lt hb hr hnG (f := ⟨i, Bk.kids T.w T.l i, .slice A1 (Bk.kids T.w T.l i).length cp1⟩) ?_ lf3 ?_ hown' hg4 hat⟩
    · unfold Bk.frCells
      rw [Bk.adr_at HX.out.1, hca, HX.out.2.2.2.1]
      rfl
    · refine ⟨(List.getElem?_eq_some_iff.1 HX.out.2.1).1, fun ec hec => ?_, HX.out.2.2.2.2.2⟩
      obtain ⟨e1, e2⟩ := Bk.mem_kids.1 (show (ec.1, ec.2) ∈ Bk.kids T.w T.l i from hec)
      exact ⟨e2, by omega⟩
end
end Go.Proofs.YtikhahkmebkccaaGreatDoor
