/- Contract of walk's inner function look: a node is looked at, told of, laid on the way. Conditions: each theorem's own hypotheses. -/
import Derived.Test.YtikhahkmebkccaaGreatDoorBkG
import Derived.Shelf.Abstract
namespace Go.Proofs.YtikhahkmebkccaaGreatDoor
open Go.RowKit Go.Maps Go.Sort
set_option linter.unusedVariables false

/-- Who is told of hits, and says the bound: two closures; I: what holds of his memory (G: his blocks) when he has been told these. -/
structure Bk.Cli (gb : Nat) (cb : Array Value) (gf : Nat) (cf : Array Value) (wd N : Nat) (r : List Bk.H → Nat) (I : List Bk.H → (Nat → Prop) → World → Prop) : Prop where
  eb : ∀ args w, (callFunc gb args).run Tryz.prog w = .ok (.enter gb args) w
  ef : ∀ args w, (callFunc gf args).run Tryz.prog w = .ok (.enter gf args) w
  lt : ∀ {F G w k}, I F G w → G k → k < w.heap.size
  keep : ∀ {F G w} {w' : World}, I F G w → (∀ k, G k → w'.heap[k]? = w.heap[k]?) → I F G w'
  rle : ∀ F, r F ≤ 1024
  bound : ∀ {F G w}, I F G w → Calls Tryz.prog gb (#[] ++ cb) w fun e w' => e = .returned (.int .i64 (r F : Nat)) ∧ Bk.Dn w w'
  found : ∀ {F G w}, I F G w → F.length < N → ∀ h : Bk.H, h.d ≤ wd → h.c.length ≤ 128 → Calls Tryz.prog gf (#[.agg #[.int .i64 (h.d : Nat), .int .i64 0, Tx.v h.c]] ++ cf) w fun e w' =>
    e = .returned (.tuple #[]) ∧ ∃ G', I (F ++ [h]) G' w' ∧ Bk.Only G w w' ∧ ∀ k, G' k → G k ∨ w.heap.size ≤ k
/-- A node on the way: its place, the children that are still to come, the slice of their distances. -/
structure Bk.Fr where
  i : Nat
  left : List (Nat × Nat)
  v : Value
def Bk.fr2 (f : Bk.Fr) : Nat × List (Nat × Nat) := (f.i, f.left)
def Bk.frCells (l : List Bk.N) (L : List Bk.X) (q : List UInt8) (f : Bk.Fr) : List Value := [Bk.ptr (Bk.adr L (some f.i)), .int .i64 (Bk.far (Bk.code l f.i) q : Nat), f.v]
/-- A slice of these numbers, in a block of its own kind. -/
def Bk.Lf (w : World) (P : Nat → Prop) (v : Value) (es : List Int) : Prop :=
  ∃ A cap, v = .slice A es.length cap ∧ es.length ≤ cap ∧ cap ≤ maxLen ∧ (0 < es.length → ∃ g off, A = some ⟨g, off, none⟩ ∧ P g ∧ (∃ cs, Blk w g 3 cs) ∧ ∀ j e, es[j]? = some e → w.cell? ⟨g, off + j, none⟩ = some (.int .i64 e))
theorem Bk.Lf.keep {w w' : World} {P P' : Nat → Prop} {v : Value} {es : List Int} (h : Bk.Lf w P v es) (hk : ∀ g cs, P g → Blk w g 3 cs → w'.heap[g]? = w.heap[g]? ∧ P' g) : Bk.Lf w' P' v es := by
  obtain ⟨A, cap, e1, e2, e3, h⟩ := h
  refine ⟨A, cap, e1, e2, e3, fun h0 => ?_⟩
  obtain ⟨g, off, hA, hP, ⟨cs, hb⟩, hc⟩ := h h0
  obtain ⟨k1, k2⟩ := hk g cs hP hb
  exact ⟨g, off, hA, k2, ⟨cs, k1.trans hb⟩, fun j e he => (World.cell?_of_block k1).trans (hc j e he)⟩
/-- Amid a walk. -/
structure Bk.Wk (W0 : World) (t bm : Nat) (T : Bk.T) (L : List Bk.X) (q : ByteArray) (b4 b5 b7 b8 : Nat) (fv : Value) (G0 : Nat → Prop) (I : List Bk.H → (Nat → Prop) → World → Prop) (st : List Bk.Fr) (s : List Bk.H × Nat) (G : Nat → Prop) (w : World) : Prop where
  tree : Bk.Stand w t bm { T with seen := s.2 } L
  cl : I s.1 G w
  bx4 : Blk w b4 23 #[.pointer (some ⟨t, 0, none⟩)]
  bx5 : Blk w b5 9 #[.string q]
  bx7 : Blk w b7 68 #[fv]
  way : ∃ A cap, Blk w b8 84 #[.slice A st.length cap] ∧ w.ownsRow W0.heap.size 86 3 (.slice A st.length cap) st.length (st.flatMap (Bk.frCells T.l L q.data.toList)) ∧ ∀ k, (Value.slice A st.length cap).ownBlock = some k → ¬ G k
  lf : ∀ f ∈ st, Bk.Lf w (fun g => W0.heap.size ≤ g ∧ ¬ G g) f.v (Bk.es f.left)
  ok : ∀ (j : Nat) (f : Bk.Fr), st[j]? = some f → f.i < T.l.length ∧ (∀ ec ∈ f.left, Bk.child T.l f.i ec.1 = some ec.2 ∧ ec.1 ≤ 1024) ∧ (Bk.deeps (Bk.os T.l)).getD f.i 0 = j + 1
  sep : (¬ G b4 ∧ ¬ G b5 ∧ ¬ G b7 ∧ ¬ G b8) ∧ (∀ k, Bk.foot t bm L k → ¬ G k) ∧ ¬ G 1 ∧ ∀ k, Bk.foot t bm L k → k ≠ 1
  tab : TabO w
  ge : W0.heap.size ≤ b4 ∧ W0.heap.size ≤ b5 ∧ W0.heap.size ≤ b7 ∧ W0.heap.size ≤ b8
  foot : ∀ k, Bk.foot t bm L k → k < W0.heap.size
  tlt : 1 < W0.heap.size
  only : Bk.Only (fun k => k = t ∨ G0 k) W0 w
  gg : ∀ k, G k → G0 k ∨ W0.heap.size ≤ k
theorem TabO.keep {w w' : World} (h : TabO w) (hk : w'.heap[1]? = w.heap[1]?) : TabO w' := fun j hj => (World.cell?_of_block hk).trans (h j hj)
section
variable {W0 w w' : World} {t bm : Nat} {T : Bk.T} {L : List Bk.X} {q : ByteArray} {b4 b5 b7 b8 : Nat} {fv : Value} {G0 G G' : Nat → Prop} {I : List Bk.H → (Nat → Prop) → World → Prop} {st : List Bk.Fr} {s : List Bk.H × Nat}
/-- The client's step. -/
theorem Bk.Wk.cli (h : Bk.Wk W0 t bm T L q b4 b5 b7 b8 fv G0 I st s G w) (ho : Bk.Only G w w') {F : List Bk.H} (hI : I F G' w') (hG : ∀ k, G' k → G k ∨ w.heap.size ≤ k) : Bk.Wk W0 t bm T L q b4 b5 b7 b8 fv G0 I st (F, s.2) G' w' := by
  obtain ⟨A, cap, hb, hr, hn⟩ := h.way
  obtain ⟨⟨s4, s5, s7, s8⟩, sf, st', sg⟩ := h.sep
  have no : ∀ k, k < w.heap.size → ¬ G k → ¬ G' k := fun k hk hg hg' => by
    rcases hG k hg' with h1 | h1
    · exact hg h1
    · omega
  have same : ∀ k, k < w.heap.size → ¬ G k → w'.heap[k]? = w.heap[k]? := fun k hk hg => ho.block k hk hg
  have hrk : ∀ k, (Value.slice A st.length cap).ownBlock = some k → W0.heap.size ≤ k ∧ k < w.heap.size := fun k hk => hr.lt k hk
  refine ⟨h.tree.keep fun k hk => same k (h.tree.lt hk) (sf k hk), hI, (same _ h.bx4.lt s4).trans h.bx4, (same _ h.bx5.lt s5).trans h.bx5, (same _ h.bx7.lt s7).trans h.bx7,
    ⟨A, cap, (same _ hb.lt s8).trans hb, ?_, fun k hk => no k (hrk k hk).2 (hn k hk)⟩, fun f hf => (h.lf f hf).keep fun g cs hg hgb => ⟨same g hgb.lt hg.2, hg.1, no g hgb.lt hg.2⟩, h.ok,
    ⟨⟨no _ h.bx4.lt s4, no _ h.bx5.lt s5, no _ h.bx7.lt s7, no _ hb.lt s8⟩, fun k hk => no k (h.tree.lt hk) (sf k hk), no _ h.tab.pos st', sg⟩, h.tab.keep (same _ h.tab.pos st'), h.ge, h.foot, h.tlt, ?_, fun k hk => ?_⟩
  · rcases hr.2 with ⟨e1, e2⟩ | ⟨g, cap', cur, e1, e2, e3, r⟩
    · exact ⟨hr.1, .inl ⟨e1, e2⟩⟩
    · have hg : (Value.slice A st.length cap).ownBlock = some g := by rw [e1]; rfl
      exact ⟨hr.1, .inr ⟨g, cap', cur, e1, e2, (same g (hrk g hg).2 (hn g hg)).trans e3, r⟩⟩
  · exact h.only.chain (fun k hk => (h.gg k hk).imp .inr id) ho
  · rcases hG k hk with h1 | h1
    · exact h.gg k h1
    · exact .inr (Nat.le_trans h.only.size h1)
theorem Bk.Wk.dn (h : Bk.Wk W0 t bm T L q b4 b5 b7 b8 fv G0 I st s G w) (hk : ∀ {F G w} {w' : World}, I F G w → (∀ k, G k → w'.heap[k]? = w.heap[k]?) → I F G w') (hd : Bk.Dn w w') : Bk.Wk W0 t bm T L q b4 b5 b7 b8 fv G0 I st s G w' := by
  obtain ⟨n, rfl⟩ := hd
  exact h.cli (w' := w.drewN n) ⟨rfl, rfl, rfl, Nat.le_refl _, fun _ _ _ => rfl⟩ (hk h.cl fun _ _ => rfl) fun k hk => .inl hk
/-- What touches the tree's count alone. -/
theorem Bk.Wk.see (h : Bk.Wk W0 t bm T L q b4 b5 b7 b8 fv G0 I st s G w) (hk : ∀ {F G w} {w' : World}, I F G w → (∀ k, G k → w'.heap[k]? = w.heap[k]?) → I F G w') (hlt : ∀ {F G w k}, I F G w → G k → k < w.heap.size)
    (ho : Bk.Only (fun k => k = t) w w') {n : Nat} (hS : Bk.Stand w' t bm { T with seen := n } L) : Bk.Wk W0 t bm T L q b4 b5 b7 b8 fv G0 I st (s.1, n) G w' := by
  obtain ⟨A, cap, hb, hr, hn⟩ := h.way
  obtain ⟨⟨s4, s5, s7, s8⟩, sf, st', sg⟩ := h.sep
  have htf := h.foot t (.inl rfl)
  have hnt : ∀ k, W0.heap.size ≤ k → k ≠ t := fun k hk e => by omega
  have same : ∀ k, k < w.heap.size → k ≠ t → w'.heap[k]? = w.heap[k]? := fun k hk hg => ho.block k hk hg
  have hrk : ∀ k, (Value.slice A st.length cap).ownBlock = some k → W0.heap.size ≤ k ∧ k < w.heap.size := fun k hk => hr.lt k hk
  have htab : 1 ≠ t := fun e => sg t (.inl rfl) e.symm
  refine ⟨hS, hk h.cl fun k hg => same k (hlt h.cl hg) (fun e => sf t (.inl rfl) (e ▸ hg)), (same _ h.bx4.lt (hnt _ h.ge.1)).trans h.bx4, (same _ h.bx5.lt (hnt _ h.ge.2.1)).trans h.bx5, (same _ h.bx7.lt (hnt _ h.ge.2.2.1)).trans h.bx7,
    ⟨A, cap, (same _ hb.lt (hnt _ h.ge.2.2.2)).trans hb, ?_, hn⟩, fun f hf => (h.lf f hf).keep fun g cs hg hgb => ⟨same g hgb.lt (hnt g hg.1), hg⟩, h.ok, h.sep, h.tab.keep (same _ h.tab.pos htab), h.ge, h.foot, h.tlt, ?_, h.gg⟩
  · rcases hr.2 with ⟨e1, e2⟩ | ⟨g, cap', cur, e1, e2, e3, r⟩
    · exact ⟨hr.1, .inl ⟨e1, e2⟩⟩
    · have hg : (Value.slice A st.length cap).ownBlock = some g := by rw [e1]; rfl
      exact ⟨hr.1, .inr ⟨g, cap', cur, e1, e2, (same g (hrk g hg).2 (hnt g (hrk g hg).1)).trans e3, r⟩⟩
  · exact h.only.chain (fun k hk => .inl (.inl hk)) ho
/-- New blocks are laid. -/
theorem Bk.Wk.new (h : Bk.Wk W0 t bm T L q b4 b5 b7 b8 fv G0 I st s G w) (hk : ∀ {F G w} {w' : World}, I F G w → (∀ k, G k → w'.heap[k]? = w.heap[k]?) → I F G w') (hlt : ∀ {F G w k}, I F G w → G k → k < w.heap.size) (hb : Below w.heap.size w w') : Bk.Wk W0 t bm T L q b4 b5 b7 b8 fv G0 I st s G w' :=
  h.cli (Bk.Only.of hb) (hk h.cl fun k hg => hb.block k (hlt h.cl hg)) fun k hk => .inl hk
theorem Bk.own_of {w w' : World} {base : Nat} {e : TypeId} {size n : Nat} {v : Value} {xs : List Value} (h : w.ownsRow base e size v n xs) (hk : ∀ k, v.ownBlock = some k → w'.heap[k]? = w.heap[k]?) : w'.ownsRow base e size v n xs := by
  rcases h.2 with ⟨e1, e2⟩ | ⟨g, cap', cur, e1, e2, e3, r⟩
  · exact ⟨h.1, .inl ⟨e1, e2⟩⟩
  · exact ⟨h.1, .inr ⟨g, cap', cur, e1, e2, (hk g (by rw [e1]; rfl)).trans e3, r⟩⟩
/-- The way's row and its box have been written: the rest is as it was. -/
theorem Bk.Wk.rewayed (h : Bk.Wk W0 t bm T L q b4 b5 b7 b8 fv G0 I st s G w) (hk : ∀ {F G w} {w' : World}, I F G w → (∀ k, G k → w'.heap[k]? = w.heap[k]?) → I F G w') (hlt : ∀ {F G w k}, I F G w → G k → k < w.heap.size)
    {A : Option Addr} {cap : Nat} (hb : Blk w b8 84 #[.slice A st.length cap]) (hr : w.ownsRow W0.heap.size 86 3 (.slice A st.length cap) st.length (st.flatMap (Bk.frCells T.l L q.data.toList))) (hn : ∀ k, (Value.slice A st.length cap).ownBlock = some k → ¬ G k)
    (hsame : ∀ k, k < w.heap.size → k ≠ b8 → (Value.slice A st.length cap).ownBlock ≠ some k → w'.heap[k]? = w.heap[k]?) (hw : w'.os = w.os ∧ w'.tape = w.tape ∧ w'.output = w.output ∧ w.heap.size ≤ w'.heap.size)
    {st' : List Bk.Fr} {A' : Option Addr} {cap' : Nat} (hb' : Blk w' b8 84 #[.slice A' st'.length cap']) (hr' : w'.ownsRow W0.heap.size 86 3 (.slice A' st'.length cap') st'.length (st'.flatMap (Bk.frCells T.l L q.data.toList)))
    (hn' : (Value.slice A' st'.length cap').ownBlock = (Value.slice A st.length cap).ownBlock ∨ (∀ k, (Value.slice A' st'.length cap').ownBlock = some k → w.heap.size ≤ k) ∨ (Value.slice A' st'.length cap').ownBlock = none)
    (hlf : ∀ f ∈ st', Bk.Lf w (fun g => W0.heap.size ≤ g ∧ ¬ G g) f.v (Bk.es f.left)) (hok : ∀ (j : Nat) (f : Bk.Fr), st'[j]? = some f → f.i < T.l.length ∧ (∀ ec ∈ f.left, Bk.child T.l f.i ec.1 = some ec.2 ∧ ec.1 ≤ 1024) ∧ (Bk.deeps (Bk.os T.l)).getD f.i 0 = j + 1) :
    Bk.Wk W0 t bm T L q b4 b5 b7 b8 fv G0 I st' s G w' := by
  obtain ⟨⟨s4, s5, s7, s8⟩, sf, st2, sg⟩ := h.sep
  have hrk : ∀ k, (Value.slice A st.length cap).ownBlock = some k → W0.heap.size ≤ k ∧ k < w.heap.size := fun k hk => hr.lt k hk
  have nr : ∀ {k t' cs}, Blk w k t' cs → 86 ≠ t' → (Value.slice A st.length cap).ownBlock ≠ some k := fun hbk hne e => Bk.own_ne hr hbk hne e.symm
  have n8 : ∀ {k t' cs}, Blk w k t' cs → t' ≠ 84 → k ≠ b8 := fun hbk hne e => by
    subst e
    unfold Blk at hbk hb
    rw [hbk] at hb
    injection hb with hb
    injection hb with _ ht
    exact hne ht
  have hfw : ∀ k, k < W0.heap.size → k < w.heap.size ∧ k ≠ b8 ∧ (Value.slice A st.length cap).ownBlock ≠ some k := fun k hk => ⟨by have := h.only.size; omega, by have := h.ge.2.2.2; omega, fun e => by have := (hrk k e).1; omega⟩
  have sG : ∀ k, G k → w'.heap[k]? = w.heap[k]? := fun k hg => hsame k (hlt h.cl hg) (fun e => s8 (e ▸ hg)) (fun e => hn k e hg)
  have sW : ∀ k, k < W0.heap.size → w'.heap[k]? = w.heap[k]? := fun k hk => by
    obtain ⟨a, b, c⟩ := hfw k hk
    exact hsame k a b c
  have sB : ∀ {k t' cs}, Blk w k t' cs → 86 ≠ t' → t' ≠ 84 → w'.heap[k]? = w.heap[k]? := fun hbk h1 h2 => hsame _ hbk.lt (n8 hbk h2) (nr hbk h1)
  refine ⟨h.tree.keep fun k hk => sW k (h.foot k hk), hk h.cl sG, (sB h.bx4 (by decide) (by decide)).trans h.bx4, (sB h.bx5 (by decide) (by decide)).trans h.bx5, (sB h.bx7 (by decide) (by decide)).trans h.bx7,
    ⟨A', cap', hb', hr', fun k hk => ?_⟩, fun f hf => (hlf f hf).keep fun g cs hg hgb => ⟨sB hgb (by decide) (by decide), hg⟩, hok, h.sep, h.tab.keep (sW _ h.tlt), h.ge, h.foot, h.tlt, ?_, h.gg⟩
  · rcases hn' with e | e | e
    · rw [e] at hk; exact hn k hk
    · intro hg; have := e k hk; have := hlt h.cl hg; omega
    · rw [e] at hk; cases hk
  · refine ⟨hw.1.trans h.only.os, hw.2.1.trans h.only.tape, hw.2.2.1.trans h.only.output, Nat.le_trans h.only.size hw.2.2.2, fun k hk hf => (sW k hk).trans (h.only.block k hk hf)⟩
/-- A node more on the way. -/
theorem Bk.Wk.pushed (h : Bk.Wk W0 t bm T L q b4 b5 b7 b8 fv G0 I st s G w) (hk : ∀ {F G w} {w' : World}, I F G w → (∀ k, G k → w'.heap[k]? = w.heap[k]?) → I F G w') (hlt : ∀ {F G w k}, I F G w → G k → k < w.heap.size)
    {A : Option Addr} {cap : Nat} (hb : Blk w b8 84 #[.slice A st.length cap]) (hr : w.ownsRow W0.heap.size 86 3 (.slice A st.length cap) st.length (st.flatMap (Bk.frCells T.l L q.data.toList))) (hn : ∀ k, (Value.slice A st.length cap).ownBlock = some k → ¬ G k)
    {f : Bk.Fr} {news : List Value} (hf : Bk.frCells T.l L q.data.toList f = news) (hlf : Bk.Lf w (fun g => W0.heap.size ≤ g ∧ ¬ G g) f.v (Bk.es f.left)) (hok : f.i < T.l.length ∧ (∀ ec ∈ f.left, Bk.child T.l f.i ec.1 = some ec.2 ∧ ec.1 ≤ 1024) ∧ (Bk.deeps (Bk.os T.l)).getD f.i 0 = st.length + 1)
    {o : Obj} {A' : Option Addr} {cap' : Nat} {w3 : World} (hown : w3.ownsRow W0.heap.size 86 3 (.slice A' (st.length + 1) cap') (st.length + 1) (st.flatMap (Bk.frCells T.l L q.data.toList) ++ news)) (hg : (w.alloc o).grownBy w3 (Value.slice A st.length cap).ownBlock)
    (hat : (Value.slice A' (st.length + 1) cap').ownBlock = (Value.slice A st.length cap).ownBlock ∨ (Value.slice A' (st.length + 1) cap').ownBlock = some (w.alloc o).heap.size) :
    Bk.Wk W0 t bm T L q b4 b5 b7 b8 fv G0 I (st ++ [f]) s G (w3.setCell ⟨b8, 0, none⟩ (.slice A' (st.length + 1) cap')) := by
  have hrk : ∀ k, (Value.slice A st.length cap).ownBlock = some k → W0.heap.size ≤ k ∧ k < w.heap.size := fun k hk => hr.lt k hk
  have far : ∀ k, k ≠ b8 → (w3.setCell ⟨b8, 0, none⟩ (.slice A' (st.length + 1) cap')).heap[k]? = w3.heap[k]? := fun k hk => Below.heap_setCell _ ⟨b8, 0, none⟩ _ k hk
  have hl1 : (st ++ [f]).length = st.length + 1 := by simp
  have hb3 := (hb.alloc o).grown hg (Bk.own_ne (hr.alloc o) (hb.alloc o) (by decide))
  refine h.rewayed hk hlt hb hr hn (fun k h1 h2 h3 => (far k h2).trans ((hg.block k (by simp; omega) (fun e => h3 e.symm)).trans (Below.heap_alloc _ _ _ h1))) ⟨hg.os, hg.tape, hg.output, ?_⟩ (st' := st ++ [f]) (A' := A') (cap' := cap') ?_ ?_ ?_ (fun g hg' => ?_) fun j g hg' => ?_
  · have := hg.size
    simp [World.setCell, Array.size_modify] at this ⊢
    omega
  · rw [hl1]; exact hb3.set_ 0 _
  · rw [hl1, List.flatMap_append, List.flatMap_singleton, hf]
    exact Bk.own_of hown fun k hk' => far k fun e => by
      subst e
      exact Bk.own_ne hown hb3 (by decide) hk'.symm
  · rw [hl1]
    rcases hat with e | e
    · exact .inl e
    · exact .inr (.inl fun k hk' => by rw [e] at hk'; have := Option.some.inj hk'; simp at this; omega)
  · rcases List.mem_append.1 hg' with hg' | hg'
    · exact h.lf g hg'
    · obtain rfl := List.mem_singleton.1 hg'
      exact hlf
  · by_cases hj : j < st.length
    · rw [List.getElem?_append_left hj] at hg'
      exact h.ok j g hg'
    · have hjl := (List.getElem?_eq_some_iff.1 hg').1
      rw [hl1] at hjl
      have : j = st.length := by omega
      subst this
      rw [List.getElem?_append_right (Nat.le_refl _), Nat.sub_self] at hg'
      obtain rfl := Option.some.inj hg'
      exact hok
theorem Bk.frs_len (l : List Bk.N) (L : List Bk.X) (q : List UInt8) : ∀ st : List Bk.Fr, (st.flatMap (Bk.frCells l L q)).length = st.length * 3
  | [] => rfl
  | f :: st => by rw [List.flatMap_cons, List.length_append, Bk.frs_len l L q st, List.length_cons]; simp [Bk.frCells]; omega
/-- One child less is to come at the end of the way. -/
theorem Bk.Wk.cutv {i : Nat} {left left' : List (Nat × Nat)} {v v' : Value} (h : Bk.Wk W0 t bm T L q b4 b5 b7 b8 fv G0 I (st ++ [⟨i, left, v⟩]) s G w) (hk : ∀ {F G w} {w' : World}, I F G w → (∀ k, G k → w'.heap[k]? = w.heap[k]?) → I F G w') (hlt : ∀ {F G w k}, I F G w → G k → k < w.heap.size)
    {g cap : Nat} (hb : Blk w b8 84 #[.slice (some ⟨g, 0, none⟩) (st ++ [(⟨i, left, v⟩ : Bk.Fr)]).length cap]) (hr : w.ownsRow W0.heap.size 86 3 (.slice (some ⟨g, 0, none⟩) (st ++ [(⟨i, left, v⟩ : Bk.Fr)]).length cap) (st ++ [(⟨i, left, v⟩ : Bk.Fr)]).length ((st ++ [(⟨i, left, v⟩ : Bk.Fr)]).flatMap (Bk.frCells T.l L q.data.toList))) (hn : ¬ G g)
    (hsub : ∀ ec ∈ left', ec ∈ left) (hlf : Bk.Lf w (fun g => W0.heap.size ≤ g ∧ ¬ G g) v' (Bk.es left')) :
    Bk.Wk W0 t bm T L q b4 b5 b7 b8 fv G0 I (st ++ [⟨i, left', v'⟩]) s G (w.setCell ⟨g, st.length * 3 + 2, none⟩ v') := by
  obtain ⟨h1, h2⟩ := hr.stored (st.length * 3 + 2) v'
  have hl : (st ++ [(⟨i, left, v⟩ : Bk.Fr)]).length = (st ++ [(⟨i, left', v'⟩ : Bk.Fr)]).length := by simp
  have hg8 : g ≠ b8 := fun e => by
    subst e
    exact Bk.own_ne hr hb (by decide) rfl
  have hx : ((st ++ [(⟨i, left, v⟩ : Bk.Fr)]).flatMap (Bk.frCells T.l L q.data.toList)).set (st.length * 3 + 2) v' = (st ++ [(⟨i, left', v'⟩ : Bk.Fr)]).flatMap (Bk.frCells T.l L q.data.toList) := by
    rw [List.flatMap_append, List.flatMap_append, List.flatMap_singleton, List.flatMap_singleton, List.set_append_right _ _ (by rw [Bk.frs_len]; omega), Bk.frs_len, Nat.add_sub_cancel_left]
    rfl
  refine h.rewayed hk hlt (A := some ⟨g, 0, none⟩) (cap := cap) hb hr (fun k e => by obtain rfl := Option.some.inj (show some g = some k from e); exact hn) (fun k a b c => h2.block k a (fun e => c e.symm)) ⟨h2.os, h2.tape, h2.output, h2.size⟩ (A' := some ⟨g, 0, none⟩) (cap' := cap) ?_ ?_ (.inl (by rw [← hl])) (fun f hf => ?_) fun j f hf => ?_
  · rw [← hl]
    exact (h2.block b8 hb.lt (fun e => hg8 (Option.some.inj e).symm)).trans hb
  · rw [← hl, ← hx]
    exact h1
  · rcases List.mem_append.1 hf with hf | hf
    · exact h.lf f (List.mem_append_left _ hf)
    · obtain rfl := List.mem_singleton.1 hf
      exact hlf
  · by_cases hj : j < st.length
    · rw [List.getElem?_append_left hj] at hf
      exact h.ok j f (by rw [List.getElem?_append_left hj]; exact hf)
    · have hjl := (List.getElem?_eq_some_iff.1 hf).1
      simp at hjl
      have : j = st.length := by omega
      subst this
      rw [List.getElem?_append_right (Nat.le_refl _), Nat.sub_self] at hf
      obtain rfl := Option.some.inj hf
      obtain ⟨o1, o2, o3⟩ := h.ok st.length ⟨i, left, v⟩ (by rw [List.getElem?_append_right (Nat.le_refl _), Nat.sub_self]; rfl)
      exact ⟨o1, fun ec hec => o2 ec (hsub ec hec), o3⟩
/-- A prefix of a row of one's own. -/
theorem Bk.own_take {w : World} {B size : Nat} {e : TypeId} {g n m cap : Nat} {xs : List Value} (h : w.ownsRow B e size (.slice (some ⟨g, 0, none⟩) n cap) n xs) (hm : m ≤ n) : w.ownsRow B e size (.slice (some ⟨g, 0, none⟩) m cap) m (xs.take (m * size)) := by
  have hms : m * size ≤ n * size := Nat.mul_le_mul_right _ hm
  rcases h.2 with ⟨h', _⟩ | ⟨g', cap', cur, h', hb, hh, h1, h2, h3, h4⟩
  · simp at h'
  · injection h' with ha _ hc
    injection ha with ha
    injection ha with ha _ _
    subst ha hc
    refine ⟨by rw [List.length_take, h.1]; omega, .inr ⟨g, cap, cur, rfl, hb, hh, by omega, h2, h3, ?_⟩⟩
    rw [← h4, List.take_take, Nat.min_eq_left hms]
/-- The last node leaves the way. -/
theorem Bk.Wk.popped {f : Bk.Fr} (h : Bk.Wk W0 t bm T L q b4 b5 b7 b8 fv G0 I (st ++ [f]) s G w) (hk : ∀ {F G w} {w' : World}, I F G w → (∀ k, G k → w'.heap[k]? = w.heap[k]?) → I F G w') (hlt : ∀ {F G w k}, I F G w → G k → k < w.heap.size)
    {g cap : Nat} (hb : Blk w b8 84 #[.slice (some ⟨g, 0, none⟩) (st ++ [f]).length cap]) (hr : w.ownsRow W0.heap.size 86 3 (.slice (some ⟨g, 0, none⟩) (st ++ [f]).length cap) (st ++ [f]).length ((st ++ [f]).flatMap (Bk.frCells T.l L q.data.toList))) (hn : ¬ G g) :
    Bk.Wk W0 t bm T L q b4 b5 b7 b8 fv G0 I st s G (w.setCell ⟨b8, 0, none⟩ (.slice (some ⟨g, 0, none⟩) st.length cap)) := by
  have far : ∀ k, k ≠ b8 → (w.setCell ⟨b8, 0, none⟩ (.slice (some ⟨g, 0, none⟩) st.length cap)).heap[k]? = w.heap[k]? := fun k hk => Below.heap_setCell _ ⟨b8, 0, none⟩ _ k hk
  have hg8 : g ≠ b8 := fun e => by
    subst e
    exact Bk.own_ne hr hb (by decide) rfl
  refine h.rewayed hk hlt (A := some ⟨g, 0, none⟩) (cap := cap) hb hr (fun k e => by obtain rfl := Option.some.inj (show some g = some k from e); exact hn) (fun k a b c => far k b) ⟨rfl, rfl, rfl, by simp [World.setCell, Array.size_modify]⟩ (A' := some ⟨g, 0, none⟩) (cap' := cap) (hb.set_ 0 _) ?_ (.inl rfl) (fun f hf => h.lf f (List.mem_append_left _ hf)) fun j f hf => h.ok j f (by rw [List.getElem?_append_left (List.getElem?_eq_some_iff.1 hf).1]; exact hf)
  have h1 := Bk.own_take hr (m := st.length) (by simp)
  rw [List.flatMap_append, List.take_append_of_le_length (by rw [Bk.frs_len]; exact Nat.le_refl _), List.take_of_length_le (by rw [Bk.frs_len]; exact Nat.le_refl _)] at h1
  exact Bk.own_of h1 fun k hk' => far k fun e => hg8 ((Option.some.inj (show some g = some k from hk')).trans e)
end
end Go.Proofs.YtikhahkmebkccaaGreatDoor
