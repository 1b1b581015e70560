/- Contract of visited: a node is looked at; its children's distances, rising. Conditions: each theorem's own hypotheses. -/
import Derived.Test.YtikhahkmebkccaaGreatDoorBkF
import Derived.Test.YtikhahkmebkccaaGreatDoorBkQ
import Derived.Sort.OwnSortedInts
namespace Go.Proofs.YtikhahkmebkccaaGreatDoor
open Go.RowKit Go.Maps Go.Sort
set_option linter.unusedVariables false

theorem Bk.intInfo : (Tryz.prog.info? 3).map (fun i => (i.zero, i.size, i.bytes)) = some (some (.int .i64 0), 1, 8) := by kernel_rfl
/-- Keys met so far. -/
def Bk.CollI (D0 : DataW Unit) (left : Lit → Bool) (ss : List Int) : Prop := ss.Nodup ∧ ∀ x, x ∈ ss ↔ (Maps.has D0 (.int .i64 x) = true ∧ left (.int .i64 x) = false)
theorem Bk.CollI.start (D0 : DataW Unit) : Bk.CollI D0 (Maps.has D0) [] := ⟨List.nodup_nil, fun x => by cases Maps.has D0 (.int .i64 x) <;> simp⟩
theorem Bk.CollI.step {D0 : DataW Unit} {left : Lit → Bool} {ss : List Int} (h : Bk.CollI D0 left ss) {x : Int} {y : DataW Unit} (hlk : left (.int .i64 x) = true) (hat : ∀ zd, D0.atKey (.int .i64 x) zd = y) : Bk.CollI D0 (fun z => left z && !z.sameKey (.int .i64 x)) (ss ++ [x]) := by
  have hhas : Maps.has D0 (.int .i64 x) = true := has_true_of_atKey hat
  have hnew : x ∉ ss := fun hx => by have := ((h.2 x).1 hx).2; rw [hlk] at this; cases this
  refine ⟨List.nodup_append.2 ⟨h.1, by simp, fun a ha b hb => by simp at hb; subst hb; exact fun e => hnew (e ▸ ha)⟩, fun y => ?_⟩
  by_cases hy : y = x
  · subst hy; simp [hhas, Lit.sameKey]
  · simp [h.2 y, hy, Lit.sameKey]
abbrev Bk.leI : Int → Int → Bool := fun x y => decide (x ≤ y)
/-- The distances of a node's children. -/
def Bk.es (ks : List (Nat × Nat)) : List Int := ks.map fun p => (p.1 : Int)
theorem Bk.es_rising (w : Nat) (l : List Bk.N) (i : Nat) : (Bk.es (Bk.kids w l i)).Pairwise fun a b => a < b := by
  unfold Bk.es Bk.kids
  rw [List.map_filterMap]
  refine List.Pairwise.filterMap _ (fun a a' h b hb b' hb' => ?_) (List.pairwise_lt_range (n := w + 1))
  obtain ⟨p, hp, rfl⟩ := Option.map_eq_some_iff.1 hb
  obtain ⟨p', hp', rfl⟩ := Option.map_eq_some_iff.1 hb'
  obtain ⟨k, _, rfl⟩ := Option.map_eq_some_iff.1 hp
  obtain ⟨k', _, rfl⟩ := Option.map_eq_some_iff.1 hp'
  simp only
  omega
theorem Bk.mem_es {w : Nat} {l : List Bk.N} {i : Nat} {z : Int} : z ∈ Bk.es (Bk.kids w l i) ↔ 0 ≤ z ∧ z ≤ w ∧ (Bk.child l i z.toNat).isSome = true := by
  unfold Bk.es
  rw [List.mem_map]
  constructor
  · rintro ⟨⟨e, k⟩, h, rfl⟩
    obtain ⟨h1, h2⟩ := Bk.mem_kids.1 h
    simp only [Int.toNat_natCast]
    rw [h2]
    exact ⟨by omega, by omega, rfl⟩
  · rintro ⟨h0, h1, h2⟩
    obtain ⟨k, hk⟩ := Option.isSome_iff_exists.1 h2
    exact ⟨(z.toNat, k), Bk.mem_kids.2 ⟨by omega, hk⟩, by simp; omega⟩
theorem Bk.CollI.sorted {w : Nat} {l : List Bk.N} (hG : Bk.Good w l) (hw : w % 8 = 0) {L : List Bk.X} (hL : L.length = l.length) {i : Nat} {D0 : DataW Unit} (hf : ∀ z : Int, Maps.has D0 (.int .i64 z) = (Bk.kid l L i z).isSome) {left : Lit → Bool} {ss : List Int} (h : Bk.CollI D0 left ss) (hl : ∀ kl, left kl = false) : ss.mergeSort Bk.leI = Bk.es (Bk.kids w l i) := by
  have tr : ∀ a b c : Int, Bk.leI a b = true → Bk.leI b c = true → Bk.leI a c = true := fun a b c h1 h2 => by simp only [Bk.leI, decide_eq_true_eq] at *; omega
  have tt : ∀ a b : Int, (Bk.leI a b || Bk.leI b a) = true := fun a b => by simp only [Bk.leI, Bool.or_eq_true, decide_eq_true_eq]; omega
  have hp : ss.Perm (Bk.es (Bk.kids w l i)) := by
    refine (List.perm_ext_iff_of_nodup h.1 ((Bk.es_rising w l i).imp fun {a b} h => by omega)).2 fun z => ?_
    rw [h.2 z, hl, Bk.mem_es, hf]
    unfold Bk.kid
    constructor
    · rintro ⟨h1, _⟩
      split at h1
      · rename_i h0
        cases hc : Bk.child l i z.toNat with
        | none => rw [hc] at h1; simp [Bk.adr] at h1
        | some k =>
          obtain ⟨n, hk, ho, hd⟩ := Bk.child_some hc
          refine ⟨h0, ?_, rfl⟩
          rcases hG.over k n hk with ⟨_, h2, _⟩ | ⟨p, m, _, _, hm, h2⟩
          · omega
          · have h3 := Bk.far_le m.code n.code
            have h4 := hG.len m (List.mem_of_getElem? hm)
            omega
      · cases h1
    · rintro ⟨h0, _, h2⟩
      obtain ⟨k, hk⟩ := Option.isSome_iff_exists.1 h2
      refine ⟨?_, rfl⟩
      rw [if_pos h0, hk]
      have hkb := (List.getElem?_eq_some_iff.1 (Bk.child_some hk).choose_spec.1).1
      simp [Bk.adr]
      omega
  refine List.Perm.eq_of_pairwise (le := fun a b => Bk.leI a b = true) (fun a b _ _ h1 h2 => ?_) (List.pairwise_mergeSort tr tt ss) ((Bk.es_rising w l i).imp fun {a b} h => by simp only [Bk.leI, decide_eq_true_eq]; omega) ((List.mergeSort_perm ss _).trans hp)
  simp only [Bk.leI, decide_eq_true_eq] at h1 h2
  omega
/-- slices.Sort of a row of integers of the call's own. -/
theorem Bk.sortI {w : World} {B : Nat} {v : Value} {ss : List Int} (hrow : w.ownsRow B 3 1 v ss.length (ss.map (Value.int .i64))) (hl : ss.length < 4611686018427387904) :
    Calls Tryz.prog 63 #[v] w fun e w' => e = .returned (.tuple #[]) ∧ w'.ownsRow B 3 1 v ss.length ((ss.mergeSort Bk.leI).map (Value.int .i64)) ∧ w.grownBy w' v.ownBlock := by
  rcases hrow.2 with ⟨rfl, hn0⟩ | ⟨g, cap, cur, rfl, hbase, hb, h1, h2, h3, h4⟩
  · obtain rfl : ss = [] := List.length_eq_zero_iff.1 hn0
    exact (Tryz.slices_Sort_int_none none 0 w).mono fun e w' ⟨a, b⟩ => by subst b; exact ⟨a, ⟨by simp, Or.inl ⟨rfl, rfl⟩⟩, World.grownBy.refl _ _⟩
  · have hH : Holds (Value.int .i64) w g 0 ss.toArray := holds_of_blockI hb (by simpa using h4)
    have hgl : g < w.heap.size := (Array.getElem?_eq_some_iff.1 hb).1
    refine (Tryz.slices_Sort_int g 0 cap ss w hH hgl hl).mono fun e w' ⟨a, n, os, b⟩ => ?_
    subst b
    exact ⟨a, ownsRow_sortedI (by simp) hbase hb h1 h2 h3, grownBy_sortedI _⟩
/-- A node is looked at: the tree counts it. -/
theorem Bk.Stand.see {W : World} {t bm : Nat} {T : Bk.T} {L : List Bk.X} (h : Bk.Stand W t bm T L) (z : Int) (hz : Bk.w64 (T.seen + 1) = z) :
    Bk.Stand (W.setCell ⟨t, 5, none⟩ (.int .i64 z)) t bm { T with seen := T.seen + 1 } L := by
  have far : ∀ k, k ≠ t → (W.setCell ⟨t, 5, none⟩ (.int .i64 z)).heap[k]? = W.heap[k]? := fun k hk => Below.heap_setCell W ⟨t, 5, none⟩ _ k hk
  refine ⟨h.len, ?_, h.map.keep (far bm h.apart.tm.symm), fun i x n hx hn => ?_, h.apart⟩
  · have := h.tree.set_ 5 (.int .i64 z)
    unfold Bk.treeCells
    rw [hz]
    exact this
  · obtain ⟨h1, h2⟩ := h.node i x n hx hn
    obtain ⟨a1, a2, _, _⟩ := h.apart.tx x (List.mem_of_getElem? hx)
    exact ⟨(far _ a1).trans h1, h2.keep (far _ a2)⟩
theorem Bk.own_ne {w : World} {base : Nat} {e : TypeId} {size n g : Nat} {t : TypeId} {cs : Array Value} {v : Value} {xs : List Value} (h : w.ownsRow base e size v n xs) (hg : Blk w g t cs) (hne : e ≠ t) : some g ≠ v.ownBlock := by
  rcases h.2 with ⟨rfl, _⟩ | ⟨g', cap, cur, rfl, _, hh, _⟩
  · simp [Value.ownBlock]
  · intro he
    have : g = g' := by simpa [Value.ownBlock] using he
    subst this
    unfold Blk at hg
    rw [hh] at hg
    injection hg with hg
    injection hg with _ ht
    exact hne ht
theorem Bk.size_le {P : Program} {k : TypeId} {R : Value → Option (DataW Unit × List MemPlace)} {w : World} {b n : Nat} {D : DataW Unit} (h : w.ownsMap P k R b n D) : Maps.size D ≤ n := by
  obtain ⟨es, clock, hb, F, hs, rfl⟩ := h
  have e1 : Maps.size (DataW.map ((es.toList.map (Go.WideElems.rg P k R)).foldr DataW.insert [])) = es.size := by simp [Maps.size, length_sorted]
  rw [e1]
  exact hs
/-- Amid a visit: the children's distances met so far stand in the visit's list. -/
def Bk.Vs (W : World) (t bm : Nat) (T : Bk.T) (L : List Bk.X) (p : Value) (d mb r : Nat) (D0 : DataW Unit) (wr : World) : Prop :=
  ∃ (left : Lit → Bool) (cnt : Nat) (ss : List Int) (v : Value), wr.ranges Tryz.prog 3 Bk.R mb r T.l.length D0 left cnt ∧ ss.length + cnt ≤ T.l.length ∧ Blk wr (W.heap.size + 1) 86 #[p, .int .i64 d, v] ∧ Blk wr W.heap.size 86 #[.pointer none, .int .i64 0, .slice none 0 0] ∧
      wr.ownsRow (W.heap.size + 2) 3 1 v ss.length (ss.map (Value.int .i64)) ∧ Bk.CollI D0 left ss ∧ Bk.Stand wr t bm { T with seen := T.seen + 1 } L ∧ Bk.Only (fun k => k = t) W wr
set_option maxRecDepth 100000 in
set_option maxHeartbeats 4000000 in
theorem Bk.visited_any {W : World} {t bm : Nat} {T : Bk.T} {L : List Bk.X} (hS : Bk.Stand W t bm T L) (hG : Bk.Good T.w T.l) (hw : T.w ≤ 1024) (hw8 : T.w % 8 = 0) (hl : T.l.length ≤ 4398046511104) {i : Nat} {x : Bk.X} {n : Bk.N} (hx : L[i]? = some x) (hn : T.l[i]? = some n) (q : ByteArray) (hq : q.size = T.w / 8) (hT : ∀ w, Bk.Only (fun k => k = t) W w → TabO w) :
    Calls Tryz.prog 52 #[.pointer (some ⟨t, 0, none⟩), .pointer (some ⟨x.blk, 0, none⟩), .string q] W fun e W' => ∃ v, e = .returned (.agg #[.pointer (some ⟨x.blk, 0, none⟩), .int .i64 (Bk.far n.code q.data.toList : Nat), v]) ∧
      W'.ownsRow (W.heap.size + 2) 3 1 v (Bk.kids T.w T.l i).length ((Bk.es (Bk.kids T.w T.l i)).map (Value.int .i64)) ∧ Bk.Stand W' t bm { T with seen := T.seen + 1 } L ∧ Bk.Only (fun k => k = t) W W' := by
  obtain ⟨i0, hi, hz0, hz1, hz2⟩ := info_parts Bk.intInfo
  obtain ⟨c0, c1, c2, c3, c4, c5⟩ := hS.six
  have ht := hS.tree.lt
  have q5 := hS.tree.frozen 5
  have hxb : x.blk < W.heap.size := hS.lt (.inr (.inr ⟨x, List.mem_of_getElem? hx, .inl rfl⟩))
  have hxm : x.mb < W.heap.size := hS.lt (.inr (.inr ⟨x, List.mem_of_getElem? hx, .inr rfl⟩))
  have hnl : n.code.length = q.size := (hG.len n (List.mem_of_getElem? hn)).trans hq.symm
  have hxt : x.blk ≠ t := (hS.apart.tx x (List.mem_of_getElem? hx)).1
  obtain ⟨a0, a1, a2, a3⟩ := hS.four hx hn
  have htx : t ≠ x.blk := fun e => hxt e.symm
  obtain ⟨y, hy⟩ : ∃ y, Bk.w64 (T.seen + 1) = y := ⟨_, rfl⟩
  have hwx := Bk.w64_succ T.seen
  rw [hy] at hwx
  generalize Bk.w64 T.seen = x0 at c5 hwx
  have HY := Lib.hid hy
  clear hy
  have HX := Lib.hid (And.intro hx (And.intro hn (And.intro hnl hq)))
  generalize hd : Bk.far n.code q.data.toList = d
  have HDD := Lib.hid hd
  clear hx hn hnl hq hd
  go_enter Tryz.func52, Tryz.ntmps52
  go_upto_region 2 with fail
  have S1 := hS.see y HY.out
  have O1 := (Bk.Only.refl (fun k => k = t) W).setCell (p := ⟨t, 5, none⟩) (.inl rfl) (.int .i64 y)
  have z1 : (W.setCell ⟨t, 5, none⟩ (.int .i64 y)).heap.size = W.heap.size := by simp [World.setCell, Array.size_modify]
  generalize W.setCell ⟨t, 5, none⟩ (.int .i64 y) = W1 at S1 O1 z1 ⊢
  have B6 := Blk.new W1 86 #[.pointer none, .int .i64 0, .slice none 0 0]
  have S2 := S1.later ((Below.refl _ W1).alloc (Nat.le_refl _) (.cells #[.pointer none, .int .i64 0, .slice none 0 0] 86)) (Nat.le_refl _)
  have O2 := O1.alloc (.cells #[.pointer none, .int .i64 0, .slice none 0 0] 86)
  have z2 : (W1.alloc (.cells #[.pointer none, .int .i64 0, .slice none 0 0] 86)).heap.size = W.heap.size + 1 := by simp [z1]
  rw [z1] at B6
  generalize W1.alloc (.cells #[.pointer none, .int .i64 0, .slice none 0 0] 86) = W2 at B6 S2 O2 z2 ⊢
  clear c0 c1 c2 c3 c4 c5 a0 a1 a2 a3 q5 S1 O1 z1 W1
  obtain ⟨a0, a1, a2, a3⟩ := S2.four HX.out.1 HX.out.2.1
  have hqs : q.size ≤ 1152921504606846975 := by have := HX.out.2.2.2; omega
  have hap := apart_l n.code q W2 HX.out.2.2.1 hqs (hT _ O2)
  have hfl := Bk.far_le n.code q.data.toList
  rw [HDD.out] at hap hfl
  have hnl : n.code.length ≤ 128 := by have := HX.out.2.2.1; have := HX.out.2.2.2; omega
  have HZ := Lib.hid z2
  clear z2
  go_upto_region 3 with (go_at_call 49; refine hap.mono ?_; clear hap; rintro e w3 ⟨rfl, D3⟩; have S3 := S2.dn D3; clear a0 a1 a2 a3)
  have B63 : Blk w3 W.heap.size 86 #[.pointer none, .int .i64 0, .slice none 0 0] := by obtain ⟨m, rfl⟩ := D3; exact B6
  have O3 : Bk.Only (fun k => k = t) W w3 := by obtain ⟨m, rfl⟩ := D3; exact ⟨O2.os, O2.tape, O2.output, O2.size, O2.block⟩
  have z3 : w3.heap.size = W.heap.size + 1 := by obtain ⟨m, rfl⟩ := D3; exact HZ.out
  clear D3 B6 O2 S2 HZ W2
  have B7 := Blk.new w3 86 #[.pointer (some ⟨x.blk, 0, none⟩), .int .i64 d, .slice none 0 0]
  have B6 := B63.alloc (.cells #[.pointer (some ⟨x.blk, 0, none⟩), .int .i64 d, .slice none 0 0] 86)
  have S4 := S3.later ((Below.refl _ w3).alloc (Nat.le_refl _) (.cells #[.pointer (some ⟨x.blk, 0, none⟩), .int .i64 d, .slice none 0 0] 86)) (Nat.le_refl _)
  have O4 := O3.alloc (.cells #[.pointer (some ⟨x.blk, 0, none⟩), .int .i64 d, .slice none 0 0] 86)
  have z4 : (w3.alloc (.cells #[.pointer (some ⟨x.blk, 0, none⟩), .int .i64 d, .slice none 0 0] 86)).heap.size = W.heap.size + 2 := by simp [z3]
  rw [z3] at B7 ⊢
  generalize w3.alloc (.cells #[.pointer (some ⟨x.blk, 0, none⟩), .int .i64 d, .slice none 0 0] 86) = w4 at B7 B6 S4 O4 z4 ⊢
  clear S3 O3 B63 z3 w3
  obtain ⟨a0, a1, a2, a3⟩ := S4.four HX.out.1 HX.out.2.1
  obtain ⟨D0, hD, hf, _⟩ := (S4.node i x n HX.out.1 HX.out.2.1).2
  have hf' := Lib.hid hf
  clear hf
  have hle : x.mb < W.heap.size + 2 := by omega
  go_wp2_with (at_range; refine wpList_range_own _ rfl _ 64 rfl 3 42 intKey Tryz.underlying64 Bk.R x.mb T.l.length _ rfl hD ?_; rw [z4]; intro w0 hrg0 hg0 hs0)
  try go_frame
  go_loopw [8] (fun _ wr => Bk.Vs W t bm T L (.pointer (some ⟨x.blk, 0, none⟩)) d x.mb (W.heap.size + 2) D0 wr) (fun _ wr => wr.rangeLeft x.mb (W.heap.size + 2))
  case atStart =>
    have hb : Below w4.heap.size w4 w0 := (Below.refl _ _).grown hg0 (Nat.le_refl _) (fun j hj => by cases hj)
    exact ⟨_, _, [], _, hrg0, by have := Bk.size_le hD; simp; omega, B7.grown hg0 (by simp), B6.grown hg0 (by simp), ⟨by simp, Or.inl ⟨rfl, rfl⟩⟩, Bk.CollI.start D0, S4.later hb (Nat.le_refl _), O4.grown hg0 (fun k hk => by cases hk)⟩
  case round =>
    clear hrg0 hg0 hs0 B7 B6 a0 a1 a2 a3
    obtain ⟨left, cnt, ss, v, hrg, hcs, hB7, hB6, hrow, hC, hS', hO'⟩ := hrel
    go_wp2_with (at_next; refine wpList_next_ranges _ rfl _ rfl 3 intKey Bk.R (Value.int .i64) Value.pointer (fun key kl hk => by obtain ⟨x, hx, _⟩ := Maps.keyOf_int_inv Tryz.underlying3 hk; exact ⟨x, hx⟩) (fun v y hv => Bk.R_inv hv) x.mb (W.heap.size + 2) T.l.length _ _ _ rfl hrg ?_ ?_)
    · -- nothing is left
      intro hc0 hl0
      obtain ⟨A, cp, rfl, _, _⟩ := Bk.row_slice hrow
      have hp := hC.sorted (w := T.w) (l := T.l) (i := i) hG hw8 hS.len (fun z => (hf'.out z).2) hl0
      have hsl : ss.length < 4611686018427387904 := by omega
      have hso := Bk.sortI hrow hsl
      rw [hp] at hso
      have hlr : (Bk.kids T.w T.l i).length = ss.length := by
        have h1 := congrArg List.length hp
        simp [Bk.es] at h1
        omega
      have HLR := Lib.hid hlr
      have hvb := fun k hk => hrow.lt k hk
      have n7 := Bk.own_ne hrow hB7 (by decide)
      have n6 := Bk.own_ne hrow hB6 (by decide)
      have k7 := hB7.cell 2
      simp only [List.getElem?_toArray, List.getElem?_cons_zero, List.getElem?_cons_succ] at k7
      clear hp hlr hC hrg
      go_upto_region 8 with (go_at_call 63; refine hso.mono ?_; clear hso; rintro e w5 ⟨rfl, hrow5, hg5⟩)
      have hB75 := hB7.grown hg5 n7
      have hB65 := hB6.grown hg5 n6
      have hS5 : Bk.Stand w5 t bm { T with seen := T.seen + 1 } L := hS'.keep fun k hk => hg5.block k (hS'.lt hk) (fun e => by
        have h1 := hS.lt hk
        have := (hvb k e.symm).1
        omega)
      have hO5 := hO'.grown hg5 (fun k hk => .inr (by have := (hvb k hk).1; omega))
      obtain ⟨p0, p1, p2⟩ : w5.cell? ⟨W.heap.size + 1, 0, none⟩ = some (.pointer (some ⟨x.blk, 0, none⟩)) ∧ w5.cell? ⟨W.heap.size + 1, 1, none⟩ = some (.int .i64 d) ∧ w5.cell? ⟨W.heap.size + 1, 2, none⟩ = some (.slice A ss.length cp) := ⟨hB75.cell 0, hB75.cell 1, hB75.cell 2⟩
      obtain ⟨r0, r1, r2⟩ : w5.cell? ⟨W.heap.size, 0, none⟩ = some (.pointer none) ∧ w5.cell? ⟨W.heap.size, 1, none⟩ = some (.int .i64 0) ∧ w5.cell? ⟨W.heap.size, 2, none⟩ = some (.slice none 0 0) := ⟨hB65.cell 0, hB65.cell 1, hB65.cell 2⟩
      have g0 := hB65.frozen 0
      have g1 := hB65.frozen 1
      have g2 := hB65.frozen 2
      have y0 : ((((w5.setCell ⟨W.heap.size, 0, none⟩ (.pointer (some ⟨x.blk, 0, none⟩))).setCell ⟨W.heap.size, 1, none⟩ (.int .i64 d)).setCell ⟨W.heap.size, 2, none⟩ (.slice A ss.length cp))).heap[W.heap.size]? = some (.cells #[.pointer (some ⟨x.blk, 0, none⟩), .int .i64 d, .slice A ss.length cp] 86 (0, 0)) := ((hB65.set_ 0 (.pointer (some ⟨x.blk, 0, none⟩))).set_ 1 (.int .i64 d)).set_ 2 (.slice A ss.length cp)
      have far : ∀ k, k ≠ W.heap.size → ((((w5.setCell ⟨W.heap.size, 0, none⟩ (.pointer (some ⟨x.blk, 0, none⟩))).setCell ⟨W.heap.size, 1, none⟩ (.int .i64 d)).setCell ⟨W.heap.size, 2, none⟩ (.slice A ss.length cp))).heap[k]? = w5.heap[k]? := fun k hk =>
        (Below.heap_setCell _ ⟨W.heap.size, 2, none⟩ _ k hk).trans ((Below.heap_setCell _ ⟨W.heap.size, 1, none⟩ _ k hk).trans (Below.heap_setCell _ ⟨W.heap.size, 0, none⟩ _ k hk))
      have t0 : ((((w5.setCell ⟨W.heap.size, 0, none⟩ (.pointer (some ⟨x.blk, 0, none⟩))).setCell ⟨W.heap.size, 1, none⟩ (.int .i64 d)).setCell ⟨W.heap.size, 2, none⟩ (.slice A ss.length cp))).cell? ⟨W.heap.size, 0, none⟩ = some (.pointer (some ⟨x.blk, 0, none⟩)) := Blk.cell y0 0
      have t1 : ((((w5.setCell ⟨W.heap.size, 0, none⟩ (.pointer (some ⟨x.blk, 0, none⟩))).setCell ⟨W.heap.size, 1, none⟩ (.int .i64 d)).setCell ⟨W.heap.size, 2, none⟩ (.slice A ss.length cp))).cell? ⟨W.heap.size, 1, none⟩ = some (.int .i64 d) := Blk.cell y0 1
      have t2 : ((((w5.setCell ⟨W.heap.size, 0, none⟩ (.pointer (some ⟨x.blk, 0, none⟩))).setCell ⟨W.heap.size, 1, none⟩ (.int .i64 d)).setCell ⟨W.heap.size, 2, none⟩ (.slice A ss.length cp))).cell? ⟨W.heap.size, 2, none⟩ = some (.slice A ss.length cp) := Blk.cell y0 2
      have Hf := Lib.hid far
      clear far y0
      go_wp2_with fail
      refine bodyPost_ret (v := .agg #[.pointer (some ⟨x.blk, 0, none⟩), .int .i64 d, .slice A ss.length cp]) (by simp [results, Tryz.results52, go_sem, t0, t1, t2]) rfl ⟨_, rfl, ?_, ?_, ?_⟩
      · rw [HLR.out]
        exact hrow5.kept (row := some W.heap.size) ⟨rfl, rfl, rfl, by simp [World.setCell, Array.size_modify], fun k _ hk => Hf.out k (fun e => hk (by rw [e]))⟩ (Or.inr (Bk.own_ne hrow5 hB65 (by decide)).symm)
      · exact hS5.keep fun k hk => Hf.out k (by have := hS.lt hk; omega)
      · exact ((hO5.setCell (.inr (Nat.le_refl _)) _).setCell (.inr (Nat.le_refl _)) _).setCell (.inr (Nat.le_refl _)) _
    · -- an entry has come
      obtain ⟨A, cp, rfl, _, _⟩ := Bk.row_slice hrow
      intro e c kl yd yp w2 cnt2 hkey hlk hv hat hrg2 hlt hg2 hs2 hen
      obtain ⟨e', ex, rfl, hwf⟩ := Maps.keyOf_int_inv Tryz.underlying3 hkey
      obtain rfl : e = e' := by injection ex
      have n7 := Bk.own_ne hrow hB7 (by decide)
      have hzz := hB7.lt
      have m7 := hB7.grown hg2 (by simp)
      have m6 := hB6.grown hg2 (by simp)
      have hrow2 := hrow.kept hg2 (Or.inr (row_ne_iter hrow hrg).symm)
      have hst := hC.step hlk hat
      have hw2 := hrg2.left_eq
      have hw1 := hrg.left_eq
      have HLT := Lib.hid (And.intro hlt (And.intro hw1 (And.intro hw2 hst)))
      have k7 := m7.cell 2
      simp only [List.getElem?_toArray, List.getElem?_cons_zero, List.getElem?_cons_succ] at k7
      clear hv hat hw1 hw2 hst hC hs2
      have hown2 := hrow2.alloc (.cells #[.int .i64 e] 3)
      have hm1 : ss.length + 1 ≤ maxLen := by unfold maxLen; omega
      have hm2 : (ss.length + 1) * 8 ≤ 140737488355328 := by omega
      have hm3 : W.heap.size + 2 ≤ (w2.alloc (.cells #[.int .i64 e] 3)).heap.size := by have := hg2.size; simp; omega
      have n72 := Bk.own_ne hown2 (m7.alloc (.cells #[.int .i64 e] 3)) (by decide)
      go_wp2_with (at_builtin; refine wpList_append_own _ rfl _ _ 70 rfl (W.heap.size + 2) 3 i0 (.int .i64 0) 1 8 Tryz.underlying70 hi hz0 hz1 hz2 rfl (by decide) (.slice A ss.length cp) ss.length _ rfl hown2 ⟨w2.heap.size, 0, none⟩ 1 1 [.int .i64 e] rfl rfl (cell_one_new _ _ _) (by simp [Value.oneCell']) hm1 hm2 hm3 ?_; intro v' w3 hown' hg3 hnil3; have m73 := (m7.alloc (.cells #[.int .i64 e] 3)).grown hg3 n72; have j7 : w3.cell? ⟨W.heap.size + 1, 2, none⟩ = some (.slice A ss.length cp) := m73.cell 2; have f7 := m73.frozen 2; obtain ⟨A', cp', rfl, _, _⟩ := Bk.row_slice hown')
      have far : ∀ k, k ≠ W.heap.size + 1 → (w3.setCell ⟨W.heap.size + 1, 2, none⟩ (.slice A' (ss.length + 1) cp')).heap[k]? = w3.heap[k]? := fun k hk => Below.heap_setCell _ ⟨W.heap.size + 1, 2, none⟩ _ k hk
      have hrg3 := (hrg2.alloc (.cells #[.int .i64 e] 3)).kept hg3 (row_ne_low hown2 hle) (row_ne_iter hown2 (hrg2.alloc _))
      have hgs : w3.grownBy (w3.setCell ⟨W.heap.size + 1, 2, none⟩ (.slice A' (ss.length + 1) cp')) (some (W.heap.size + 1)) := ⟨rfl, rfl, rfl, by simp [World.setCell, Array.size_modify], fun k _ hk => far k (fun e => hk (by rw [e]))⟩
      have hrg4 := hrg3.kept hgs (by simp; omega) (by simp)
      have hvb := fun k hk => hrow.lt k hk
      go_roundw
      case rel =>
        refine ⟨_, cnt2, ss ++ [e], .slice A' (ss.length + 1) cp', hrg4, by have := HLT.out.1; simp; omega, m73.set_ 2 _, ((m6.alloc _).grown hg3 (Bk.own_ne hown2 (m6.alloc _) (by decide))).far (p := ⟨W.heap.size + 1, 2, none⟩) (by simp) _, ?_, HLT.out.2.2.2, ?_, ?_⟩
        · rw [List.length_append, List.map_append]
          exact hown'.kept hgs (Or.inr (Bk.own_ne hown' m73 (by decide)).symm)
        · have b1 : Below (W.heap.size + 1) wr w2 := (Below.refl _ _).grown hg2 (by omega) (fun k hk => by have := Option.some.inj hk; omega)
          have b2 := ((b1.alloc (by have := hg2.size; omega) (.cells #[.int .i64 e] 3)).grown hg3 (by have := hg2.size; simp; omega) (fun k hk => by have := (hvb k hk).1; omega)).setCell (p := ⟨W.heap.size + 1, 2, none⟩) (Nat.le_refl _) (.slice A' (ss.length + 1) cp')
          exact hS'.keep fun k hk => b2.block k (by have := hS.lt hk; omega)
        · refine (((hO'.grown hg2 (fun k hk => .inr (by have := Option.some.inj hk; omega))).alloc _).grown hg3 (fun k hk => .inr (by have := (hvb k hk).1; omega))).setCell (.inr (by simp)) _
      case measure => rw [hrg4.left_eq, HLT.out.2.1]; exact HLT.out.1
end Go.Proofs.YtikhahkmebkccaaGreatDoor
