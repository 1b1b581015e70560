/- Contract of hang: a code that no node has gets its node. Conditions: each theorem's own hypotheses. -/
import Derived.Test.YtikhahkmebkccaaGreatDoorBkC
import Derived.Deep.LoopGhost
import Derived.RegionTactic
import Derived.BigRegion
import Derived.Deep.DeepCutAuto
import Derived.Outline
import Derived.StillTailTactics
namespace Go.Proofs.YtikhahkmebkccaaGreatDoor
open Go.RowKit Go.Maps Go.Sort
set_option linter.unusedVariables false

theorem Bk.child_snoc (l : List Bk.N) (n : Bk.N) (i e : Nat) : Bk.child (l ++ [n]) i e = match Bk.child l i e with
    | some k => some k
    | none => if n.over = (i : Int) ∧ n.dist = e then some l.length else none := by
  unfold Bk.child
  rw [List.findIdx?_append]
  cases h : List.findIdx? (fun n : Bk.N => decide (n.over = (i : Int)) && decide (n.dist = e)) l with
  | some k => rfl
  | none =>
    by_cases hn : n.over = (i : Int) ∧ n.dist = e
    · simp [List.findIdx?_cons, hn]
    · simp [List.findIdx?_cons, hn]
theorem Bk.find_snoc (l : List Bk.N) (n : Bk.N) (c : List UInt8) : Bk.find (l ++ [n]) c = match Bk.find l c with
    | some k => some k
    | none => if n.code = c then some l.length else none := by
  unfold Bk.find
  rw [List.findIdx?_append]
  cases h : List.findIdx? (fun n : Bk.N => decide (n.code = c)) l with
  | some k => rfl
  | none =>
    by_cases hn : n.code = c
    · simp [List.findIdx?_cons, hn]
    · simp [List.findIdx?_cons, hn]
theorem Bk.child_bound {l : List Bk.N} {i e k : Nat} (h : Bk.child l i e = some k) : k < l.length := by
  obtain ⟨n, hk, _⟩ := Bk.child_some h
  exact (List.getElem?_eq_some_iff.1 hk).1
theorem Bk.find_bound {l : List Bk.N} {c : List UInt8} {k : Nat} (h : Bk.find l c = some k) : k < l.length := by
  obtain ⟨n, hk, _⟩ := Bk.find_some h
  exact (List.getElem?_eq_some_iff.1 hk).1
theorem Bk.adr_snoc {L : List Bk.X} {x : Bk.X} {k : Nat} (h : k < L.length) : Bk.adr (L ++ [x]) (some k) = Bk.adr L (some k) := by
  simp [Bk.adr, List.getElem?_append_left h]
theorem Bk.adr_last (L : List Bk.X) (x : Bk.X) : Bk.adr (L ++ [x]) (some L.length) = some x.blk := by
  simp [Bk.adr]
theorem Bk.adr_at {L : List Bk.X} {k : Nat} {x : Bk.X} (h : L[k]? = some x) : Bk.adr L (some k) = some x.blk := by
  simp [Bk.adr, h]

/-- The entries of node i's map while a new node x is being hung below p at e. -/
def Bk.kidP (l : List Bk.N) (L : List Bk.X) (x : Bk.X) (p e : Nat) (i : Nat) (z : Int) : Option Nat := if i = p ∧ z = (e : Int) then some x.blk else Bk.kid l L i z
/-- Amid hang: the node x of code c is made (so deep), the tree counts it; as K says, nodes have their children. -/
structure Bk.Mid (W0 : World) (t bm : Nat) (T : Bk.T) (L : List Bk.X) (c : ByteArray) (x : Bk.X) (d : Int) (b : Nat) (K : Nat → Int → Option Nat) (w : World) : Prop where
  tree : Blk w t 44 #[.int .i64 T.w, Bk.ptr (Bk.adr L (some 0)), .map (some bm), .int .i64 (Bk.live T.l + 1 : Nat), .int .i64 (Bk.depth (Bk.os T.l) : Nat), .int .i64 (Bk.w64 T.seen)]
  map : Bk.SMap w bm (T.l.length + 1) fun z => if z = c.data.toList then some x.blk else Bk.adr L (Bk.find T.l z)
  node : ∀ (i : Nat) (y : Bk.X) (n : Bk.N), L[i]? = some y → T.l[i]? = some n → Blk w y.blk 66 (Bk.nodeCells n ((Bk.deeps (Bk.os T.l)).getD i 0) y.mb) ∧ Bk.IMap w y.mb b (K i)
  new : Blk w x.blk 66 #[.string c, .bool false, .int .i64 d, .map (some x.mb)]
  kids : Bk.IMap w x.mb (T.l.length + 1) fun _ => none
  only : Bk.Only (Bk.foot t bm L) W0 w
section
variable {W0 w w' : World} {t bm : Nat} {T : Bk.T} {L : List Bk.X} {c : ByteArray} {x : Bk.X} {d : Int} {b : Nat} {K : Nat → Int → Option Nat}
theorem Bk.Mid.dn (h : Bk.Mid W0 t bm T L c x d b K w) (hd : Bk.Dn w w') : Bk.Mid W0 t bm T L c x d b K w' := by
  obtain ⟨n, rfl⟩ := hd
  exact ⟨h.tree, h.map.keep rfl, fun i y n hy hn => ⟨(h.node i y n hy hn).1, (h.node i y n hy hn).2.keep rfl⟩, h.new, h.kids.keep rfl, ⟨h.only.os, h.only.tape, h.only.output, h.only.size, h.only.block⟩⟩
theorem Bk.Mid.deep (h : Bk.Mid W0 t bm T L c x d b K w) (hS : Bk.Stand W0 t bm T L) (hx : W0.heap.size ≤ x.blk) (hm : W0.heap.size ≤ x.mb) (hxm : x.blk ≠ x.mb) (d' : Int) : Bk.Mid W0 t bm T L c x d' b K (w.setCell ⟨x.blk, 2, none⟩ (.int .i64 d')) := by
  have ne : ∀ k, Bk.foot t bm L k → k ≠ x.blk := fun k hk e => by have := hS.lt hk; omega
  have hk : ∀ k, k ≠ x.blk → (w.setCell ⟨x.blk, 2, none⟩ (.int .i64 d')).heap[k]? = w.heap[k]? := fun k hk => Below.heap_setCell w ⟨x.blk, 2, none⟩ _ k hk
  refine ⟨(hk t (ne t (.inl rfl))).trans h.tree, h.map.keep (hk bm (ne bm (.inr (.inl rfl)))), fun i y n hy hn => ?_, ?_, h.kids.keep (hk x.mb (fun e => hxm e.symm)), h.only.setCell (.inr hx) _⟩
  · have hy' := List.mem_of_getElem? hy
    exact ⟨(hk y.blk (ne _ (.inr (.inr ⟨y, hy', .inl rfl⟩)))).trans (h.node i y n hy hn).1, (h.node i y n hy hn).2.keep (hk y.mb (ne _ (.inr (.inr ⟨y, hy', .inr rfl⟩))))⟩
  · exact h.new.set_ 2 _
theorem Bk.Mid.start (hS : Bk.Stand W0 t bm T L) {D : DataW Unit} (hD : W0.ownsMap Tryz.prog 9 Bk.R bm T.l.length D) (hf : ∀ z : List UInt8, D.atKey (.string z) .nil = Bk.opt (Bk.adr L (Bk.find T.l z)) ∧ Maps.has D (.string z) = (Bk.adr L (Bk.find T.l z)).isSome) (hz : Maps.size D = T.l.length)
    (hn : Bk.find T.l c.data.toList = none) {w3 : World} (hown : w3.ownsMap Tryz.prog 9 Bk.R bm (T.l.length + 1) (D.put (.string c.data.toList) (.lit (.int .i64 ((W0.heap.size + 1 : Nat) : Int)))))
    (hg : ((W0.alloc (.map #[] 0)).alloc (.cells #[.string c, .bool false, .int .i64 1, .map (some W0.heap.size)] 66)).grownBy w3 (some bm)) :
    Bk.Mid W0 t bm T L c ⟨W0.heap.size + 1, W0.heap.size⟩ 1 T.l.length (Bk.kid T.l L) (w3.setCell ⟨t, 3, none⟩ (.int .i64 ((Bk.live T.l : Nat) + 1))) := by
  have ht := hS.tree.lt
  have hb := hS.map.lt
  have hs3 : W0.heap.size + 2 ≤ w3.heap.size := by have := hg.size; simpa using this
  have old : ∀ k, k < W0.heap.size → k ≠ bm → w3.heap[k]? = W0.heap[k]? := fun k hk hne => by
    rw [hg.block k (by simp; omega) (fun e => hne (Option.some.inj e)), Below.heap_alloc _ _ _ (by simp; omega), Below.heap_alloc _ _ _ hk]
  have far : ∀ k, k ≠ t → (w3.setCell ⟨t, 3, none⟩ (.int .i64 ((Bk.live T.l : Nat) + 1))).heap[k]? = w3.heap[k]? := fun k hk => Below.heap_setCell w3 ⟨t, 3, none⟩ _ k hk
  have hM : Bk.MapAt w3 9 (fun c : List UInt8 => Lit.string c) bm (T.l.length + 1) (fun z => z = T.l.length + 1) fun z => if z = c.data.toList then some (W0.heap.size + 1) else Bk.adr L (Bk.find T.l z) :=
    Bk.MapAt.put (f := fun z => Bk.adr L (Bk.find T.l z)) (b := W0.heap.size + 1) (x := c.data.toList) hf (hD.tidy Bk.strKeyed) (fun x y e => by injection e) trivial hown (by simp [hn, Bk.adr]) (by simp) (fun y hy => by simp [hy]) (by rw [hz])
  refine ⟨?_, hM.keep (far bm hS.apart.tm.symm), fun i y n hy hn' => ?_, ?_, ?_, ?_⟩
  · have := (((hS.tree.alloc (.map #[] 0)).alloc (.cells #[.string c, .bool false, .int .i64 1, .map (some W0.heap.size)] 66)).grown hg (fun e => hS.apart.tm (Option.some.inj e))).set_ 3 (.int .i64 ((Bk.live T.l : Nat) + 1))
    exact this
  · have hy' := List.mem_of_getElem? hy
    obtain ⟨h1, h2⟩ := hS.node i y n hy hn'
    obtain ⟨a1, a2, a3, a4⟩ := hS.apart.tx y hy'
    exact ⟨((far _ a1).trans (old _ h1.lt a3)).trans h1, h2.keep ((far _ a2).trans (old _ h2.lt a4))⟩
  · refine (far _ (by show W0.heap.size + 1 ≠ t; omega)).trans ?_
    show w3.heap[W0.heap.size + 1]? = _
    rw [hg.block _ (by simp) (fun e => by have := Option.some.inj e; omega)]
    have := heap_alloc_new (W0.alloc (.map #[] 0)) (.cells #[.string c, .bool false, .int .i64 1, .map (some W0.heap.size)] 66)
    rw [World.size_alloc] at this
    exact this
  · refine ((Bk.MapAt.made W0 3 (fun e : Int => Lit.int .i64 e) (fun _ => True) trivial).keep ?_).mono (Nat.zero_le _)
    show (w3.setCell _ _).heap[W0.heap.size]? = _
    rw [far _ (by omega), hg.block _ (by simp; omega) (fun e => by have := Option.some.inj e; omega), Below.heap_alloc _ _ _ (by simp)]
  · refine (((Bk.Only.refl (Bk.foot t bm L) W0).alloc _).alloc _).grown hg (fun k hk => .inl (.inr (.inl (Option.some.inj hk).symm))) |>.setCell (.inl (.inl rfl)) _
theorem Bk.Mid.six (h : Bk.Mid W0 t bm T L c x d b K w) :
    w.cell? ⟨t, 0, none⟩ = some (.int .i64 T.w) ∧ w.cell? ⟨t, 1, none⟩ = some (Bk.ptr (Bk.adr L (some 0))) ∧ w.cell? ⟨t, 4, none⟩ = some (.int .i64 (Bk.depth (Bk.os T.l) : Nat)) ∧ w.frozen? ⟨t, 1, none⟩ = false ∧ w.frozen? ⟨t, 4, none⟩ = false :=
  ⟨h.tree.cell 0, h.tree.cell 1, h.tree.cell 4, h.tree.frozen 1, h.tree.frozen 4⟩
theorem Bk.Mid.four (h : Bk.Mid W0 t bm T L c x d b K w) {i : Nat} {y : Bk.X} {n : Bk.N} (hy : L[i]? = some y) (hn : T.l[i]? = some n) :
    w.cell? ⟨y.blk, 0, none⟩ = some (Tx.v n.code) ∧ w.cell? ⟨y.blk, 2, none⟩ = some (.int .i64 ((Bk.deeps (Bk.os T.l)).getD i 0 : Nat)) ∧ w.cell? ⟨y.blk, 3, none⟩ = some (.map (some y.mb)) :=
  ⟨(h.node i y n hy hn).1.cell 0, (h.node i y n hy hn).1.cell 2, (h.node i y n hy hn).1.cell 3⟩
/-- The new node has been laid below its parent. -/
theorem Bk.Mid.upd {nb mb : Nat} (M : Bk.Mid W0 t bm T L c ⟨nb, mb⟩ d T.l.length (Bk.kid T.l L) w) (hS : Bk.Stand W0 t bm T L) (hnb : W0.heap.size ≤ nb) (hmb : W0.heap.size ≤ mb) {i : Nat} {y : Bk.X} (hy : L[i]? = some y) {e : Nat} (he : Bk.child T.l i e = none) {D1 : DataW Unit}
    (hD : w.ownsMap Tryz.prog 3 Bk.R y.mb T.l.length D1) (hf : ∀ z : Int, D1.atKey (.int .i64 z) .nil = Bk.opt (Bk.kid T.l L i z) ∧ Maps.has D1 (.int .i64 z) = (Bk.kid T.l L i z).isSome)
    (hown : w'.ownsMap Tryz.prog 3 Bk.R y.mb (T.l.length + 1) (D1.put (.int .i64 e) (.lit (.int .i64 ((nb : Nat) : Int))))) (hg : w.grownBy w' (some y.mb)) :
    Bk.Mid W0 t bm T L c ⟨nb, mb⟩ d (T.l.length + 1) (Bk.kidP T.l L ⟨nb, mb⟩ i e) w' := by
  have hy' := List.mem_of_getElem? hy
  obtain ⟨a1, a2, a3, a4⟩ := hS.apart.tx y hy'
  have hymb : y.mb < W0.heap.size := hS.lt (.inr (.inr ⟨y, hy', .inr rfl⟩))
  have old : ∀ k, k < w.heap.size → k ≠ y.mb → w'.heap[k]? = w.heap[k]? := fun k hk hne => hg.block k hk (fun e => hne (Option.some.inj e))
  have hkn : Bk.kid T.l L i (e : Int) = none := by simp [Bk.kid, Bk.adr, he]
  refine ⟨(old t M.tree.lt (fun h => a2 h.symm)).trans M.tree, M.map.keep (old bm M.map.lt (fun h => a4 h.symm)), fun j z n hz hn => ?_, (old nb M.new.lt (by omega)).trans M.new, M.kids.keep (old mb M.kids.lt (by show mb ≠ y.mb; omega)), M.only.grown hg fun k hk => .inl (.inr (.inr ⟨y, hy', .inr (Option.some.inj hk)⟩))⟩
  obtain ⟨h1, h2⟩ := M.node j z n hz hn
  refine ⟨(old _ h1.lt (hS.apart.xx j i z y hz hy).2.2).trans h1, ?_⟩
  by_cases hji : j = i
  · subst hji
    obtain rfl := Option.some.inj (hz.symm.trans hy)
    refine Bk.MapAt.put (f := Bk.kid T.l L j) (b := nb) (x := (e : Int)) hf (hD.tidy intKey) (fun x y e => by injection e) trivial hown hkn ?_ (fun q hq => ?_) trivial
    · simp [Bk.kidP]
    · simp [Bk.kidP, hq]
  · refine ((h2.keep (old _ h2.lt fun h => hji ((hS.apart.xx j i z y hz hy).2.1 h))).mono (Nat.le_succ _)).congr fun q => ?_
    simp [Bk.kidP, hji]
/-- Hung: the tree with one node more. -/
theorem Bk.Mid.done {nb mb : Nat} {p e : Nat} (hS : Bk.Stand W0 t bm T L) (hG : Bk.Good T.w T.l) (hnb : W0.heap.size ≤ nb) (hmb : W0.heap.size ≤ mb) (hne : nb ≠ mb) (hc : Bk.find T.l c.data.toList = none) (hpl : p < T.l.length) (he : Bk.child T.l p e = none)
    (M : Bk.Mid W0 t bm T L c ⟨nb, mb⟩ ((Bk.deeps (Bk.os T.l)).getD p 0 + 1 : Nat) (T.l.length + 1) (Bk.kidP T.l L ⟨nb, mb⟩ p e) w) {q : Nat} (hq : max (Bk.depth (Bk.os T.l)) ((Bk.deeps (Bk.os T.l)).getD p 0 + 1) = q) :
    Bk.Stand (w.setCell ⟨t, 4, none⟩ (.int .i64 q)) t bm { T with l := T.l ++ [⟨c.data.toList, true, (p : Int), e⟩] } (L ++ [⟨nb, mb⟩]) ∧ Bk.Only (Bk.foot t bm L) W0 (w.setCell ⟨t, 4, none⟩ (.int .i64 q)) := by
  have far : ∀ k, k ≠ t → (w.setCell ⟨t, 4, none⟩ (.int .i64 q)).heap[k]? = w.heap[k]? := fun k hk => Below.heap_setCell w ⟨t, 4, none⟩ _ k hk
  have htlt := hS.tree.lt
  have hbm := hS.map.lt
  have hlen := hS.len
  have hos : Bk.os (T.l ++ [⟨c.data.toList, true, (p : Int), e⟩]) = Bk.os T.l ++ [(p : Int)] := by simp [Bk.os]
  have hdl : (Bk.deeps (Bk.os T.l)).length = T.l.length := by rw [Bk.deeps_len]; simp [Bk.os]
  have hif : (if ((p : Nat) : Int) < 0 then 1 else (Bk.deeps (Bk.os T.l)).getD ((p : Nat) : Int).toNat 0 + 1) = (Bk.deeps (Bk.os T.l)).getD p 0 + 1 := by
    rw [if_neg (by omega)]; simp
  have hadr : ∀ (o : Option Nat) (k : Nat), o = some k → k < T.l.length → Bk.adr (L ++ [⟨nb, mb⟩]) o = Bk.adr L o := fun o k ho hk => by rw [ho]; exact Bk.adr_snoc (by omega)
  have hchild : ∀ j, j < T.l.length → ∀ z : Int, Bk.kid (T.l ++ [⟨c.data.toList, true, (p : Int), e⟩]) (L ++ [⟨nb, mb⟩]) j z = Bk.kidP T.l L ⟨nb, mb⟩ p e j z := by
    intro j hj z
    unfold Bk.kidP Bk.kid
    by_cases hz : 0 ≤ z
    · rw [if_pos hz, if_pos hz, Bk.child_snoc]
      cases hcj : Bk.child T.l j z.toNat with
      | some k =>
        have hkb := Bk.child_bound hcj
        have hnp : ¬ (j = p ∧ z = (e : Int)) := by
          rintro ⟨rfl, rfl⟩
          rw [Int.toNat_natCast, he] at hcj
          cases hcj
        rw [if_neg hnp]
        exact Bk.adr_snoc (by omega)
      | none =>
        by_cases hpj : j = p ∧ z = (e : Int)
        · obtain ⟨rfl, rfl⟩ := hpj
          simp [Bk.adr, hlen]
        · rw [if_neg hpj]
          simp only
          rw [if_neg ?_]
          · simp [Bk.adr]
          · rintro ⟨h1, h2⟩
            exact hpj ⟨by omega, by omega⟩
    · rw [if_neg hz, if_neg hz, if_neg ?_]
      rintro ⟨_, rfl⟩
      omega
  have hlast : ∀ z : Int, Bk.kid (T.l ++ [⟨c.data.toList, true, (p : Int), e⟩]) (L ++ [⟨nb, mb⟩]) T.l.length z = none := by
    intro z
    unfold Bk.kid
    split
    · rw [Bk.child_snoc]
      cases hcj : Bk.child T.l T.l.length z.toNat with
      | some k =>
        have := hG.child_lt hcj
        omega
      | none =>
        simp only
        rw [if_neg ?_]
        · rfl
        · rintro ⟨h1, _⟩; omega
    · rfl
  refine ⟨⟨by simp [hlen], ?_, ?_, fun j z n hz hn => ?_, ⟨hS.apart.tm, fun z hz => ?_, fun i j x y hx hy => ?_⟩⟩, M.only.setCell (.inl (.inl rfl)) _⟩
  · have h1 := M.tree.set_ 4 (.int .i64 q)
    have h0 : 0 < T.l.length := by omega
    have e1 : Bk.treeCells { T with l := T.l ++ [⟨c.data.toList, true, (p : Int), e⟩] } (L ++ [⟨nb, mb⟩]) bm = (#[.int .i64 T.w, Bk.ptr (Bk.adr L (some 0)), .map (some bm), .int .i64 (Bk.live T.l + 1 : Nat), .int .i64 (Bk.depth (Bk.os T.l) : Nat), .int .i64 (Bk.w64 T.seen)] : Array Value).setIfInBounds 4 (.int .i64 q) := by
      unfold Bk.treeCells
      rw [hos, Bk.depth_snoc, hif, hq, Bk.adr_snoc (by omega)]
      simp [Bk.live]
    rw [e1]
    exact h1
  · have hmap : ∀ z, Bk.adr (L ++ [⟨nb, mb⟩]) (Bk.find (T.l ++ [⟨c.data.toList, true, (p : Int), e⟩]) z) = if z = c.data.toList then some nb else Bk.adr L (Bk.find T.l z) := by
      intro z
      rw [Bk.find_snoc]
      by_cases hzc : z = c.data.toList
      · subst hzc
        rw [hc, if_pos rfl]
        simp [Bk.adr, hlen]
      · rw [if_neg hzc]
        cases hfz : Bk.find T.l z with
        | some k => exact Bk.adr_snoc (by have := Bk.find_bound hfz; omega)
        | none =>
          simp only
          rw [if_neg (fun h => hzc h.symm)]
          rfl
    have h := (M.map.keep (far bm hS.apart.tm.symm)).congr hmap
    have e1 : (T.l ++ [(⟨c.data.toList, true, (p : Int), e⟩ : Bk.N)]).length = T.l.length + 1 := by simp
    show Bk.SMap _ bm (T.l ++ [_]).length _
    rw [e1]
    exact h
  · rw [hos, Bk.deeps_snoc, hif]
    show Blk _ z.blk _ _ ∧ Bk.IMap _ z.mb (T.l ++ [_]).length _
    rw [List.length_append]
    by_cases hj : j < T.l.length
    · rw [List.getElem?_append_left (by omega)] at hz
      rw [List.getElem?_append_left hj] at hn
      obtain ⟨h1, h2⟩ := M.node j z n hz hn
      have hz' := List.mem_of_getElem? hz
      obtain ⟨a1, a2, a3, a4⟩ := hS.apart.tx z hz'
      refine ⟨?_, (h2.keep (far _ a2)).congr (hchild j hj)⟩
      rw [List.getD_eq_getElem?_getD, List.getElem?_append_left (by omega), ← List.getD_eq_getElem?_getD]
      exact (far _ a1).trans h1
    · have hjl : j = T.l.length := by
        have := (List.getElem?_eq_some_iff.1 hn).1
        simp at this; omega
      subst hjl
      rw [List.getElem?_append_right (by omega), hlen, Nat.sub_self] at hz
      rw [List.getElem?_append_right (by omega), Nat.sub_self] at hn
      obtain rfl := Option.some.inj hz
      obtain rfl := Option.some.inj hn
      have hx : (Bk.deeps (Bk.os T.l) ++ [(Bk.deeps (Bk.os T.l)).getD p 0 + 1]).getD T.l.length 0 = (Bk.deeps (Bk.os T.l)).getD p 0 + 1 := by
        rw [List.getD_eq_getElem?_getD, List.getElem?_append_right (by omega), hdl, Nat.sub_self]; rfl
      rw [hx]
      have hv : Tx.v c.data.toList = .string c := Tx.v_eq rfl
      refine ⟨?_, (M.kids.keep (far _ (by show mb ≠ t; omega))).congr hlast⟩
      have h3 := (far nb (by omega)).trans M.new
      unfold Bk.nodeCells
      rw [hv]
      exact h3
  · rcases List.mem_append.1 hz with hz | hz
    · exact hS.apart.tx z hz
    · obtain rfl := List.mem_singleton.1 hz
      exact ⟨by show nb ≠ t; omega, by show mb ≠ t; omega, by show nb ≠ bm; omega, by show mb ≠ bm; omega⟩
  · have one : ∀ (i : Nat) (x : Bk.X), (L ++ [⟨nb, mb⟩])[i]? = some x → (L[i]? = some x ∧ x.blk < W0.heap.size ∧ x.mb < W0.heap.size) ∨ (i = L.length ∧ x = ⟨nb, mb⟩) := by
      intro i x hx
      by_cases hi : i < L.length
      · rw [List.getElem?_append_left hi] at hx
        exact .inl ⟨hx, hS.lt (.inr (.inr ⟨x, List.mem_of_getElem? hx, .inl rfl⟩)), hS.lt (.inr (.inr ⟨x, List.mem_of_getElem? hx, .inr rfl⟩))⟩
      · have hil := (List.getElem?_eq_some_iff.1 hx).1
        simp at hil
        have : i = L.length := by omega
        subst this
        rw [List.getElem?_append_right (by omega), Nat.sub_self] at hx
        exact .inr ⟨rfl, (Option.some.inj hx).symm⟩
    rcases one i x hx with ⟨hx, b1, b2⟩ | ⟨rfl, rfl⟩
    · rcases one j y hy with ⟨hy, b3, b4⟩ | ⟨rfl, rfl⟩
      · exact hS.apart.xx i j x y hx hy
      · exact ⟨fun h => by have : x.blk = nb := h; omega, fun h => by have : x.mb = mb := h; omega, by show x.blk ≠ mb; omega⟩
    · rcases one j y hy with ⟨hy, b3, b4⟩ | ⟨rfl, rfl⟩
      · exact ⟨fun h => by have : nb = y.blk := h; omega, fun h => by have : mb = y.mb := h; omega, by show nb ≠ y.mb; omega⟩
      · exact ⟨fun _ => rfl, fun _ => rfl, hne⟩
theorem Bk.Mid.done0 {nb mb : Nat} {p e dd : Nat} (M : Bk.Mid W0 t bm T L c ⟨nb, mb⟩ (dd : Nat) (T.l.length + 1) (Bk.kidP T.l L ⟨nb, mb⟩ p e) w) (hS : Bk.Stand W0 t bm T L) (hG : Bk.Good T.w T.l) (hnb : W0.heap.size ≤ nb) (hmb : W0.heap.size ≤ mb) (hne : nb ≠ mb) (hc : Bk.find T.l c.data.toList = none) (hpl : p < T.l.length) (he : Bk.child T.l p e = none)
    (hd : (Bk.deeps (Bk.os T.l)).getD p 0 + 1 = dd) {q : Nat} (hq : max (Bk.depth (Bk.os T.l)) ((Bk.deeps (Bk.os T.l)).getD p 0 + 1) = q) :
    Bk.Stand (w.setCell ⟨t, 4, none⟩ (.int .i64 q)) t bm { T with l := T.l ++ [⟨c.data.toList, true, (p : Int), e⟩] } (L ++ [⟨nb, mb⟩]) ∧ Bk.Only (Bk.foot t bm L) W0 (w.setCell ⟨t, 4, none⟩ (.int .i64 q)) := by
  subst hd
  exact Bk.Mid.done hS hG hnb hmb hne hc hpl he M hq
end
/-- Between two rounds: at node i, or at the end. -/
def Bk.HR (W : World) (t bm : Nat) (T : Bk.T) (L : List Bk.X) (c : ByteArray) (nb p e k : Nat) (pl at_ : Value) (wr : World) : Prop :=
  (∃ (i : Nat) (y : Bk.X) (d : Int), k + i = T.l.length + 1 ∧ L[i]? = some y ∧ at_ = .pointer (some ⟨y.blk, 0, none⟩) ∧ pl = .pointer (some ⟨t, 1, none⟩) ∧ Bk.Seat T.l c.data.toList i p e ∧ Bk.Mid W t bm T L c ⟨nb, W.heap.size⟩ d T.l.length (Bk.kid T.l L) wr) ∨
  (k = 0 ∧ at_ = .pointer none ∧ pl = .pointer none ∧ Bk.Mid W t bm T L c ⟨nb, W.heap.size⟩ ((Bk.deeps (Bk.os T.l)).getD p 0 + 1 : Nat) (T.l.length + 1) (Bk.kidP T.l L ⟨nb, W.heap.size⟩ p e) wr)
theorem Bk.Seat.case {l : List Bk.N} {c : List UInt8} {i p e : Nat} (h : Bk.Seat l c i p e) : (i = p ∧ Bk.far (Bk.code l i) c = e ∧ Bk.child l i e = none) ∨ ∃ k, Bk.child l i (Bk.far (Bk.code l i) c) = some k ∧ Bk.Seat l c k p e := by
  cases h with
  | here hc => exact .inl ⟨rfl, rfl, hc⟩
  | down hc hs => exact .inr ⟨_, hc, hs⟩
set_option maxRecDepth 100000 in
set_option maxHeartbeats 4000000 in
theorem Bk.hang_some {W : World} {t bm : Nat} {T : Bk.T} {L : List Bk.X} (hS : Bk.Stand W t bm T L) (hG : Bk.Good T.w T.l) (c : ByteArray) (hc : c.size = T.w / 8) (hw : T.w ≤ 1024) (hn : Bk.find T.l c.data.toList = none) (hl : T.l.length ≤ 4398046511104) (h0 : T.l ≠ []) (hT : ∀ w, Bk.Only (Bk.foot t bm L) W w → TabO w) :
    Calls Tryz.prog 32 #[.pointer (some ⟨t, 0, none⟩), .string c] W fun e W' => e = .returned (.tuple #[]) ∧ ∃ x, Bk.Stand W' t bm { T with l := Bk.hang T.l c.data.toList } (L ++ [x]) ∧ Bk.Only (Bk.foot t bm L) W W' ∧ W.heap.size ≤ x.blk ∧ W.heap.size ≤ x.mb := by
  obtain ⟨D, hD, hf, hz⟩ := hS.map
  have hf' := Lib.hid hf
  have hz' := Lib.hid hz
  have hn' := Lib.hid hn
  have hc' := Lib.hid hc
  clear hf hz hn hc
  have hmm := @run_makeMap Tryz.prog
  obtain ⟨c0, c1, c2, c3, c4, c5⟩ := hS.six
  have hlive := Bk.live_le T.l
  have ht := hS.tree.lt
  have hkey := Bk.key_str c (by have := hc'.out; omega)
  have HK := Lib.hid hkey
  clear hkey
  go_enter Tryz.func32, Tryz.ntmps32
  go_upto_region 3 with (at_mapUpdate; refine wpList_mapUpdate_own _ rfl _ _ _ 41 rfl 9 42 Bk.strKeyed Tryz.underlying41 Bk.R bm T.l.length D rfl ((hD.alloc _).alloc _) (by unfold maxLen; omega) _ _ _ rfl rfl HK.out (.lit (.int .i64 ((W.heap.size + 1 : Nat) : Int))) [] (Bk.R_ptr (W.heap.size + 1)) ?_; intro w3 hown3 hg3; have T3 := ((hS.tree.alloc (.map #[] 0)).alloc (.cells #[.string c, .bool false, .int .i64 1, .map (some W.heap.size)] 66)).grown hg3 (fun e => hS.apart.tm (Option.some.inj e)); have k3 : w3.cell? ⟨t, 3, none⟩ = some (.int .i64 (Bk.live T.l : Nat)) := T3.cell 3; have f3 := T3.frozen 3)
  have M := Bk.Mid.start hS hD hf'.out hz'.out hn'.out hown3 hg3
  clear hown3 T3 k3 f3 c0 c1 c2 c3 c4 c5 hD hmm hf' hz' HK
  generalize w3.setCell ⟨t, 3, none⟩ (.int .i64 ((Bk.live T.l : Nat) + 1)) = w4 at M ⊢
  clear hg3 w3
  have hb1 : W.heap.size + 1 ≠ W.heap.size := by omega
  have hb2 : W.heap.size ≤ W.heap.size + 1 := by omega
  generalize W.heap.size + 1 = nb at M hb1 hb2 ⊢
  have hx0 : ∃ y, L[0]? = some y := by
    have h1 : 0 < T.l.length := List.length_pos_iff.2 h0
    exact hS.at' (List.getElem?_eq_getElem h1)
  obtain ⟨y0, hy0⟩ := hx0
  obtain ⟨p, e, hs⟩ := hG.seat_ex c.data.toList (T.l.length + 1) 0 (by omega)
  obtain ⟨m0, m1, m4, q1, q4⟩ := M.six
  rw [Bk.adr_at hy0] at m1
  simp only [Bk.ptr] at m1
  have HY := Lib.hid hy0
  clear hy0
  go_wp2_with fail
  clear m0 m1 m4 q1 q4
  go_loopg [5, 6] (T.l.length + 1) (fun k pl at_ wr => Bk.HR W t bm T L c nb p e k pl at_ wr)
  case atStart => exact .inl ⟨0, y0, _, by omega, HY.out, rfl, rfl, hs, M⟩
  case round =>
    have hfact : p < T.l.length ∧ Bk.Seat T.l c.data.toList 0 p e ∧ Bk.child T.l p e = none := by
      have := hs.facts hG (List.length_pos_iff.2 h0)
      exact ⟨this.1, hs, this.2.2⟩
    clear M HY hs
    rcases hrel with ⟨i, y, d, hk, hy, rfl, rfl, hs, M⟩ | ⟨hk, rfl, rfl, M⟩
    · clear hfact
      obtain ⟨n, hn2⟩ := hS.at_ hy
      obtain ⟨a0, a2, a3⟩ := M.four hy hn2
      have x2 := M.new.cell 2
      have xf := M.new.frozen 2
      simp only [List.getElem?_toArray, List.getElem?_cons_zero, List.getElem?_cons_succ] at x2
      have hdl : (Bk.deeps (Bk.os T.l)).getD i 0 ≤ T.l.length := by
        rw [List.getD_eq_getElem?_getD]
        cases hg : (Bk.deeps (Bk.os T.l))[i]? with
        | none => simp
        | some v => have := (Bk.deeps_le _ v (List.mem_of_getElem? hg)).2; simpa [Bk.os] using this
      have hMd := fun v => M.deep hS hb2 (Nat.le_refl _) hb1 v
      generalize hdd : (Bk.deeps (Bk.os T.l)).getD i 0 = dd at a2 hdl
      have HX := Lib.hid (And.intro hy (And.intro hn2 (And.intro hk hdd)))
      clear hy hn2 hk hdd
      go_upto_region 7 with fail
      have M1 := hMd ((dd : Int) + 1)
      clear hMd M x2 xf a0 a2 a3
      generalize wr.setCell ⟨nb, 2, none⟩ (.int .i64 ((dd : Int) + 1)) = w5 at M1 ⊢
      clear wr
      obtain ⟨a0, a2, a3⟩ := M1.four HX.out.1 HX.out.2.1
      have hnl : n.code.length = c.size := (hG.len n (List.mem_of_getElem? HX.out.2.1)).trans hc'.out.symm
      have hap := apart_l n.code c w5 hnl (by have := hc'.out; omega) (hT _ M1.only)
      have hfl := Bk.far_le n.code c.data.toList
      have HC := Lib.hid (Bk.code_at HX.out.2.1)
      have HNL := Lib.hid hnl
      have hfb : Bk.far n.code c.data.toList ≤ 8192 := by have := HNL.out; have := hc'.out; omega
      clear hnl hfl
      go_upto_region 8 with (go_at_call 49; refine hap.mono ?_; clear hap; rintro e' w6 ⟨rfl, D6⟩)
      have M2 := M1.dn D6
      clear M1 D6 a0 a2 a3 w5
      obtain ⟨a0, a2, a3⟩ := M2.four HX.out.1 HX.out.2.1
      have hkey := Bk.key_int (Bk.far n.code c.data.toList) (by omega)
      have hlk := (M2.node i y n HX.out.1 HX.out.2.1).2.look intKey Tryz.underlying64 hkey
      have HK := Lib.hid hkey
      clear hkey
      rcases hs.case with ⟨hip, he, hch⟩ | ⟨k, hk, hs'⟩
      · have hkid : Bk.kid T.l L i (Bk.far n.code c.data.toList : Nat) = none := by
          rw [HC.out] at he
          simp [Bk.kid, Bk.adr, he, hch]
        rw [hkid] at hlk
        simp only [Bk.ptr] at hlk
        have HE := Lib.hid (And.intro hip (And.intro he hch))
        clear hkid hip he hch hs
        obtain ⟨D1, hD1, hf1, _⟩ := (M2.node i y n HX.out.1 HX.out.2.1).2
        have HF := Lib.hid hf1
        clear hf1
        go_wp2_with (at_mapUpdate; refine wpList_mapUpdate_own _ rfl _ _ _ 64 rfl 3 42 intKey Tryz.underlying64 Bk.R y.mb T.l.length D1 rfl hD1 (by unfold maxLen; omega) _ _ _ rfl rfl HK.out (.lit (.int .i64 ((nb : Nat) : Int))) [] (Bk.R_ptr nb) ?_; intro w7 hown7 hg7)
        go_roundg 0
        case measure => have := HX.out.2.2.1; have := (List.getElem?_eq_some_iff.1 HX.out.2.1).1; omega
        case rel =>
          have M3 := M2.upd hS hb2 (Nat.le_refl _) HX.out.1 HE.out.2.2 hD1 HF.out (by rw [HC.out] at HE; rw [← HE.out.2.1]; exact hown7) hg7
          refine .inr ⟨rfl, rfl, rfl, ?_⟩
          rw [← HE.out.1, HX.out.2.2.2]
          exact M3
      · have hkb := Bk.child_bound hk
        have hyk : ∃ z, L[k]? = some z := ⟨_, List.getElem?_eq_getElem (by have := hS.len; omega)⟩
        obtain ⟨z, hz⟩ := hyk
        have hkid : Bk.kid T.l L i (Bk.far n.code c.data.toList : Nat) = some z.blk := by
          rw [HC.out] at hk
          simp only [Bk.kid, Int.toNat_natCast, hk, Bk.adr_at hz]
          simp
        rw [hkid] at hlk
        simp only [Bk.ptr] at hlk
        have HE := Lib.hid (And.intro hk (And.intro hs' hz))
        clear hkid hk hs' hs hz hkb
        go_wp2_with fail
        go_roundg (T.l.length + 1 - k)
        case measure => have := HX.out.2.2.1; have := hG.child_lt HE.out.1; omega
        case rel => exact .inl ⟨k, z, _, by have := hG.child_lt HE.out.1; omega, HE.out.2.2, rfl, rfl, HE.out.2.1, M2⟩
    · obtain ⟨m0, m1, m4, q1, q4⟩ := M.six
      have x2 := M.new.cell 2
      simp only [List.getElem?_toArray, List.getElem?_cons_zero, List.getElem?_cons_succ] at x2
      have hdl := Bk.depth_le (Bk.os T.l)
      generalize hdd : (Bk.deeps (Bk.os T.l)).getD p 0 + 1 = dd at M x2
      generalize hde : Bk.depth (Bk.os T.l) = de at m4
      obtain ⟨q, hq⟩ : ∃ q : Nat, max de dd = q := ⟨_, rfl⟩
      have hmx : ∀ ts t (w : World), (Builtin.max_ ts t #[.int .i64 de, .int .i64 dd]).run Tryz.prog w = .ok (.int .i64 (q : Int)) w := by
        intro ts t w
        rw [run_max_int2, ← hq]
        congr 2
        split <;> omega
      have HQ := Lib.hid (And.intro hdd (And.intro hde hq))
      have HFACT := Lib.hid hfact
      clear hdd hde hq hdl hk hfact
      go_upto_region 15 with fail
      go_still_tail 12, (by kernel_rfl)
      go_wp2_with fail
      go_end0
      obtain ⟨h1, h2, h3⟩ := HFACT.out
      have hdone := (Bk.Mid.dn M (w' := wr.drewN 1) ⟨1, rfl⟩).done0 hS hG hb2 (Nat.le_refl _) hb1 hn'.out h1 h3 HQ.out.1 (q := q) (by rw [HQ.out.1, HQ.out.2.1]; exact HQ.out.2.2)
      refine ⟨rfl, ⟨nb, W.heap.size⟩, ?_, hdone.2, hb2, Nat.le_refl _⟩
      rw [hG.hang_of h2 h0]
      exact hdone.1
set_option maxRecDepth 100000 in
set_option maxHeartbeats 4000000 in
theorem Bk.hang_nil {W : World} {t bm : Nat} {T : Bk.T} (hS : Bk.Stand W t bm T []) (c : ByteArray) (hc : c.size ≤ 9223372036854775807) (h0 : T.l = []) :
    Calls Tryz.prog 32 #[.pointer (some ⟨t, 0, none⟩), .string c] W fun e W' => e = .returned (.tuple #[]) ∧ ∃ x, Bk.Stand W' t bm { T with l := Bk.hang T.l c.data.toList } ([] ++ [x]) ∧ Bk.Only (Bk.foot t bm []) W W' ∧ W.heap.size ≤ x.blk ∧ W.heap.size ≤ x.mb := by
  obtain ⟨D, hD, hf, hz⟩ := hS.map
  have hn : Bk.find T.l c.data.toList = none := by rw [h0]; rfl
  have hf' := Lib.hid hf
  have hz' := Lib.hid hz
  have hn' := Lib.hid hn
  have h0' := Lib.hid h0
  have hl : T.l.length = 0 := by rw [h0]; rfl
  have hlive : Bk.live T.l = 0 := by rw [h0]; rfl
  clear hf hz hn h0
  have hmm := @run_makeMap Tryz.prog
  obtain ⟨c0, c1, c2, c3, c4, c5⟩ := hS.six
  have ht := hS.tree.lt
  have hkey := Bk.key_str c hc
  have HK := Lib.hid hkey
  have hlb : Bk.live T.l ≤ 0 := by omega
  have hll : T.l.length ≤ 0 := by omega
  clear hkey hl hlive
  go_enter Tryz.func32, Tryz.ntmps32
  go_upto_region 3 with (at_mapUpdate; refine wpList_mapUpdate_own _ rfl _ _ _ 41 rfl 9 42 Bk.strKeyed Tryz.underlying41 Bk.R bm T.l.length D rfl ((hD.alloc _).alloc _) (by unfold maxLen; omega) _ _ _ rfl rfl HK.out (.lit (.int .i64 ((W.heap.size + 1 : Nat) : Int))) [] (Bk.R_ptr (W.heap.size + 1)) ?_; intro w3 hown3 hg3; have T3 := ((hS.tree.alloc (.map #[] 0)).alloc (.cells #[.string c, .bool false, .int .i64 1, .map (some W.heap.size)] 66)).grown hg3 (fun e => hS.apart.tm (Option.some.inj e)); have k3 : w3.cell? ⟨t, 3, none⟩ = some (.int .i64 (Bk.live T.l : Nat)) := T3.cell 3; have f3 := T3.frozen 3)
  have M := Bk.Mid.start hS hD hf'.out hz'.out hn'.out hown3 hg3
  clear hown3 T3 k3 f3 c0 c1 c2 c3 c4 c5 hD hmm hf' hz' HK
  generalize w3.setCell ⟨t, 3, none⟩ (.int .i64 ((Bk.live T.l : Nat) + 1)) = w4 at M ⊢
  clear hg3 w3
  have hb1 : W.heap.size + 1 ≠ W.heap.size := by omega
  have hb2 : W.heap.size ≤ W.heap.size + 1 := by omega
  generalize W.heap.size + 1 = nb at M hb1 hb2 ⊢
  obtain ⟨m0, m1, m4, q1, q4⟩ := M.six
  simp only [Bk.adr, List.getElem?_nil, Option.map_none, Option.bind_some, Bk.ptr] at m1
  have x2 := M.new.cell 2
  simp only [List.getElem?_toArray, List.getElem?_cons_zero, List.getElem?_cons_succ] at x2
  have htn : t ≠ nb := by omega
  go_wp2_with fail
  refine wp_loop_rounds 1 ?_
  rw [rounds_succ]
  go_upto_region 15 with fail
  have M1 := M.tree.set_ 1 (.pointer (some ⟨nb, 0, none⟩))
  have far : ∀ k, k ≠ t → (w4.setCell ⟨t, 1, none⟩ (.pointer (some ⟨nb, 0, none⟩))).heap[k]? = w4.heap[k]? := fun k hk => Below.heap_setCell w4 ⟨t, 1, none⟩ _ k hk
  have N1 := (far nb (fun e => htn e.symm)).trans M.new
  have O1 := M.only.setCell (p := ⟨t, 1, none⟩) (.inl (.inl rfl)) (.pointer (some ⟨nb, 0, none⟩))
  have S1 := M.map.keep (far bm hS.apart.tm.symm)
  have K1 := M.kids.keep (far W.heap.size (by omega))
  clear far m0 m1 m4 q1 q4 x2 M
  generalize w4.setCell ⟨t, 1, none⟩ (.pointer (some ⟨nb, 0, none⟩)) = w5 at M1 N1 O1 S1 K1 ⊢
  have m4 : w5.cell? ⟨t, 4, none⟩ = some (.int .i64 (Bk.depth (Bk.os T.l) : Nat)) := M1.cell 4
  have hde : Bk.depth (Bk.os T.l) = 0 := by rw [h0'.out]; rfl
  rw [hde] at m4
  have q4 := M1.frozen 4
  have x2 : w5.cell? ⟨nb, 2, none⟩ = some (.int .i64 1) := Blk.cell N1 2
  have HD := Lib.hid hde
  clear hde
  go_still_tail 12, (by kernel_rfl)
  go_wp2_with fail
  go_end0
  have e1 : Bk.hang T.l c.data.toList = [⟨c.data.toList, true, -1, 0⟩] := by rw [h0'.out]; rfl
  refine ⟨rfl, ⟨nb, W.heap.size⟩, ?_, (O1.setCell (.inl (.inl rfl)) _).drew, hb2, Nat.le_refl _⟩
  rw [e1]
  have hlv : Bk.live T.l = 0 := by rw [h0'.out]; rfl
  have hlz : T.l.length = 0 := by rw [h0'.out]; rfl
  rw [hlv] at M1
  rw [hlz] at S1 K1
  have hbmt := hS.map.lt
  have far : ∀ k, k ≠ t → ((w5.setCell ⟨t, 4, none⟩ (.int .i64 1)).drew).heap[k]? = w5.heap[k]? := fun k hk => Below.heap_setCell w5 ⟨t, 4, none⟩ _ k hk
  have h5 := M1.set_ 4 (.int .i64 1)
  refine ⟨rfl, h5, (S1.keep (far bm hS.apart.tm.symm)).congr fun z => ?_, fun i x n hx hn => ?_, ⟨hS.apart.tm, fun x hx => ?_, fun i j x y hx hy => ?_⟩⟩
  · show Bk.adr _ (Bk.find [⟨c.data.toList, true, -1, 0⟩] z) = _
    rw [h0'.out]
    by_cases hz : z = c.data.toList
    · subst hz
      simp [Bk.find, Bk.adr, List.findIdx?_cons]
    · have hz' : ¬ c.data.toList = z := fun e => hz e.symm
      simp [Bk.find, Bk.adr, List.findIdx?_cons, hz, hz']
  · have hi : i = 0 := by have := (List.getElem?_eq_some_iff.1 hx).1; simp at this; exact this
    subst hi
    obtain rfl := Option.some.inj hx
    obtain rfl := Option.some.inj hn
    have hv : Tx.v c.data.toList = .string c := Tx.v_eq rfl
    refine ⟨?_, (K1.keep (far W.heap.size (by omega))).congr fun z => ?_⟩
    · unfold Bk.nodeCells
      rw [hv]
      exact (far nb (fun e => htn e.symm)).trans N1
    · simp [Bk.kid, Bk.child, Bk.adr, List.findIdx?_cons]
  · obtain rfl := List.mem_singleton.1 hx
    exact ⟨fun e => htn e.symm, by show W.heap.size ≠ t; omega, by show nb ≠ bm; omega, by show W.heap.size ≠ bm; omega⟩
  · have hi : i = 0 := by have := (List.getElem?_eq_some_iff.1 hx).1; simp at this; exact this
    have hj : j = 0 := by have := (List.getElem?_eq_some_iff.1 hy).1; simp at this; exact this
    subst hi hj
    obtain rfl := Option.some.inj hx
    obtain rfl := Option.some.inj hy
    exact ⟨fun _ => rfl, fun _ => rfl, hb1⟩
/-- A code that no node has gets its node. -/
theorem Bk.hang_any {W : World} {t bm : Nat} {T : Bk.T} {L : List Bk.X} (hS : Bk.Stand W t bm T L) (hG : Bk.Good T.w T.l) (c : ByteArray) (hc : c.size = T.w / 8) (hw : T.w ≤ 1024) (hn : Bk.find T.l c.data.toList = none) (hl : T.l.length ≤ 4398046511104) (hT : ∀ w, Bk.Only (Bk.foot t bm L) W w → TabO w) :
    Calls Tryz.prog 32 #[.pointer (some ⟨t, 0, none⟩), .string c] W fun e W' => e = .returned (.tuple #[]) ∧ ∃ x, Bk.Stand W' t bm { T with l := Bk.hang T.l c.data.toList } (L ++ [x]) ∧ Bk.Only (Bk.foot t bm L) W W' ∧ W.heap.size ≤ x.blk ∧ W.heap.size ≤ x.mb := by
  by_cases h0 : T.l = []
  · have hL : L = [] := List.length_eq_zero_iff.1 (by rw [hS.len, h0]; rfl)
    subst hL
    exact Bk.hang_nil hS c (by omega) h0
  · exact Bk.hang_some hS hG c hc hw hn hl h0 hT
end Go.Proofs.YtikhahkmebkccaaGreatDoor
