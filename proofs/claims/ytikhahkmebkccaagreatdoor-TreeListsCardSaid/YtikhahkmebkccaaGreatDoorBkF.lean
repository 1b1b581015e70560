/- Contract of anew: the live codes, hung rising into a new tree; and of Drop. Conditions: each theorem's own hypotheses. -/
import Derived.Test.YtikhahkmebkccaaGreatDoorBkE
import Derived.Test.YtikhahkmebkccaaGreatDoorShelf
import Derived.Sort.OwnSorted
import Derived.Maps.AppendAt
import Derived.Laws.AppendOwn
namespace Go.Proofs.YtikhahkmebkccaaGreatDoor
open Go.RowKit Go.Maps Go.Sort
set_option linter.unusedVariables false

theorem Bk.strInfo : (Tryz.prog.info? 9).map (fun i => (i.zero, i.size, i.bytes)) = some (some (.string ⟨#[]⟩), 1, 16) := by kernel_rfl
/-- Is a code's node there, and does it live? -/
def Bk.hasC (l : List Bk.N) (c : List UInt8) : Bool := match Bk.find l c with
  | none => false
  | some i => Bk.liveAt l i
theorem Bk.hasC_find {l : List Bk.N} {c : List UInt8} {i : Nat} {n : Bk.N} (h : Bk.find l c = some i) (hn : l[i]? = some n) : Bk.hasC l c = n.live := by
  unfold Bk.hasC
  rw [h]
  exact Bk.liveAt_at hn
theorem Bk.Good.mem_live {w : Nat} {l : List Bk.N} (h : Bk.Good w l) (c : List UInt8) : c ∈ ((l.filter fun n => n.live).map fun n => n.code) ↔ Bk.hasC l c = true := by
  rw [List.mem_map]
  constructor
  · rintro ⟨n, hn, rfl⟩
    obtain ⟨h1, h2⟩ := List.mem_filter.1 hn
    obtain ⟨i, hi⟩ := List.mem_iff_getElem?.1 h1
    rw [Bk.hasC_find (h.find_of hi) hi]
    exact h2
  · intro hc
    cases hf : Bk.find l c with
    | none => unfold Bk.hasC at hc; rw [hf] at hc; cases hc
    | some i =>
      obtain ⟨n, hn, he⟩ := Bk.find_some hf
      rw [Bk.hasC_find hf hn] at hc
      exact ⟨n, List.mem_filter.2 ⟨List.mem_of_getElem? hn, hc⟩, he⟩
/-- Of the keys met so far those that live. -/
def Bk.Coll (l : List Bk.N) (left : Lit → Bool) (ss : List (List UInt8)) : Prop := ss.Nodup ∧ ∀ x, x ∈ ss ↔ (left (.string x) = false ∧ Bk.hasC l x = true)
theorem Bk.Coll.start {l : List Bk.N} {D0 : DataW Unit} (h : ∀ x, Bk.hasC l x = true → Maps.has D0 (.string x) = true) : Bk.Coll l (Maps.has D0) [] := ⟨List.nodup_nil, fun x => by
  constructor
  · intro h; cases h
  · rintro ⟨h1, h2⟩
    rw [h x h2] at h1; cases h1⟩
theorem Bk.Coll.step {l : List Bk.N} {left : Lit → Bool} {ss : List (List UInt8)} (h : Bk.Coll l left ss) {x : List UInt8} (hl : left (.string x) = true) :
    Bk.Coll l (fun z => left z && !z.sameKey (.string x)) (if Bk.hasC l x = true then ss ++ [x] else ss) := by
  have hnew : x ∉ ss := fun hx => by have := ((h.2 x).1 hx).1; rw [hl] at this; cases this
  refine ⟨?_, fun y => ?_⟩
  · split
    · exact List.nodup_append.2 ⟨h.1, by simp, fun a ha b hb => by simp at hb; subst hb; exact fun e => hnew (e ▸ ha)⟩
    · exact h.1
  · by_cases hy : y = x
    · subst hy
      by_cases hc : Bk.hasC l y = true
      · simp [hc, Lit.sameKey]
      · simp [hc, hnew]
    · by_cases hc : Bk.hasC l x = true
      · simp [hc, h.2 y, hy, Lit.sameKey]
      · simp [hc, h.2 y, hy, Lit.sameKey]
theorem Bk.Coll.rising {w : Nat} {l : List Bk.N} (hG : Bk.Good w l) {left : Lit → Bool} {ss : List (List UInt8)} (h : Bk.Coll l left ss) (hl : ∀ kl, left kl = false) : ss.mergeSort leB = Bk.rising l := by
  refine mergeSort_of_perm ((List.perm_ext_iff_of_nodup h.1 ?_).2 fun x => ?_)
  · exact List.Nodup.sublist (List.Sublist.map _ List.filter_sublist) hG.codes
  · rw [h.2 x, hG.mem_live, hl]; simp
/-- A row of the call's own is a slice. -/
theorem Bk.row_slice {w : World} {B : Nat} {e : TypeId} {v : Value} {n : Nat} {xs : List Value} (h : w.ownsRow B e 1 v n xs) :
    ∃ A cap, v = .slice A n cap ∧ (∀ k, v.ownBlock = some k → B ≤ k ∧ k < w.heap.size) ∧ ∀ j u, xs[j]? = some u → ∃ g, A = some ⟨g, 0, none⟩ ∧ v.ownBlock = some g ∧ w.cell? ⟨g, j, none⟩ = some u := by
  rcases h.2 with ⟨rfl, rfl⟩ | ⟨g, cap, cur, rfl, hb, hh, h1, h2, h3, h4⟩
  · refine ⟨none, 0, rfl, fun k hk => by simp [Value.ownBlock] at hk, fun j u hu => ?_⟩
    have := (List.getElem?_eq_some_iff.1 hu).1
    have := h.1
    omega
  · refine ⟨_, cap, rfl, fun k hk => h.lt k hk, fun j u hu => ⟨g, rfl, rfl, ?_⟩⟩
    have := h.cells (g := g) rfl j u hu
    have e : (⟨g, 0, none⟩ : Addr).add j = ⟨g, j, none⟩ := by
      unfold Addr.add; split
      · subst_vars; rfl
      · simp
    rw [e] at this
    exact this
/-- slices.Sort of a row of the call's own. -/
theorem Bk.sortS {w : World} {B : Nat} {v : Value} {ss : List (List UInt8)} (hrow : w.ownsRow B 9 1 v ss.length (ss.map encStr)) (hl : ss.length < 4611686018427387904) :
    Calls Tryz.prog 50 #[v] w fun e w' => e = .returned (.tuple #[]) ∧ w'.ownsRow B 9 1 v ss.length ((ss.mergeSort leB).map encStr) ∧ w.grownBy w' v.ownBlock := by
  rcases hrow.2 with ⟨rfl, hn0⟩ | ⟨g, cap, cur, rfl, hbase, hb, h1, h2, h3, h4⟩
  · obtain rfl : ss = [] := List.length_eq_zero_iff.1 hn0
    exact (Tryz.slices_Sort_string_none none 0 w).mono fun e w' ⟨a, b⟩ => by subst b; exact ⟨a, ⟨by simp, Or.inl ⟨rfl, rfl⟩⟩, World.grownBy.refl _ _⟩
  · have hH : Holds encStr w g 0 ss.toArray := holds_of_block hb (by simpa using h4)
    have hgl : g < w.heap.size := (Array.getElem?_eq_some_iff.1 hb).1
    refine (Tryz.slices_Sort_string g 0 cap ss w hH hgl hl).mono fun e w' ⟨a, n, os, b⟩ => ?_
    subst b
    exact ⟨a, ownsRow_sorted (by simp) hbase hb h1 h2 h3, grownBy_sorted _⟩
theorem Bk.codes_fold : ∀ (cs : List (List UInt8)) (l : List Bk.N), (cs.foldl Bk.hang l).map (fun n => n.code) = l.map (fun n => n.code) ++ cs
  | [], l => by simp
  | c :: cs, l => by
    obtain ⟨n, he, hc, _⟩ := Bk.hang_mem l c
    rw [List.foldl_cons, Bk.codes_fold cs, he, List.map_append, List.map_cons, List.map_nil, hc, List.append_assoc]; rfl
theorem Bk.find_codes {l : List Bk.N} {c : List UInt8} (h : c ∉ l.map fun n => n.code) : Bk.find l c = none := by
  cases hf : Bk.find l c with
  | none => rfl
  | some i =>
    obtain ⟨n, hn, he⟩ := Bk.find_some hf
    exact absurd (List.mem_map.2 ⟨n, List.mem_of_getElem? hn, he⟩) h
theorem Bk.fold_len (cs : List (List UInt8)) : (cs.foldl Bk.hang []).length = cs.length := by
  have := congrArg List.length (Bk.codes_fold cs [])
  simpa using this
theorem Bk.Only.chain {F F' : Nat → Prop} {a b c : World} (h : Bk.Only F a b) (hf : ∀ k, F' k → F k ∨ a.heap.size ≤ k) (k : Bk.Only F' b c) : Bk.Only F a c :=
  ⟨k.os.trans h.os, k.tape.trans h.tape, k.output.trans h.output, Nat.le_trans h.size k.size, fun i hi hn => (k.block i (Nat.lt_of_lt_of_le hi h.size) fun hF => by
    rcases hf i hF with h1 | h1
    · exact hn h1
    · omega).trans (h.block i hi hn)⟩
/-- The tree's block written anew: an empty tree. -/
theorem Bk.Stand.wipe {w : World} {t bm : Nat} {T : Bk.T} {L : List Bk.X} (h : Bk.Stand w t bm T L) :
    Bk.Stand (((((((w.setCell ⟨t, 0, none⟩ (.int .i64 T.w)).setCell ⟨t, 1, none⟩ (.pointer none)).setCell ⟨t, 2, none⟩ (.map (some w.heap.size))).setCell ⟨t, 3, none⟩ (.int .i64 0)).setCell ⟨t, 4, none⟩ (.int .i64 0)).setCell ⟨t, 5, none⟩ (.int .i64 (Bk.w64 T.seen))).alloc (.map #[] 0)).drew t w.heap.size ⟨T.w, [], T.seen⟩ [] ∧
    Bk.Only (Bk.foot t bm L) w (((((((w.setCell ⟨t, 0, none⟩ (.int .i64 T.w)).setCell ⟨t, 1, none⟩ (.pointer none)).setCell ⟨t, 2, none⟩ (.map (some w.heap.size))).setCell ⟨t, 3, none⟩ (.int .i64 0)).setCell ⟨t, 4, none⟩ (.int .i64 0)).setCell ⟨t, 5, none⟩ (.int .i64 (Bk.w64 T.seen))).alloc (.map #[] 0)).drew := by
  have h6 := (((((h.tree.set_ 0 (.int .i64 T.w)).set_ 1 (.pointer none)).set_ 2 (.map (some w.heap.size))).set_ 3 (.int .i64 0)).set_ 4 (.int .i64 0)).set_ 5 (.int .i64 (Bk.w64 T.seen))
  have O := ((((((Bk.Only.refl (Bk.foot t bm L) w).setCell (p := ⟨t, 0, none⟩) (.inl (.inl rfl)) (.int .i64 T.w)).setCell (p := ⟨t, 1, none⟩) (.inl (.inl rfl)) (.pointer none)).setCell (p := ⟨t, 2, none⟩) (.inl (.inl rfl)) (.map (some w.heap.size))).setCell (p := ⟨t, 3, none⟩) (.inl (.inl rfl)) (.int .i64 0)).setCell (p := ⟨t, 4, none⟩) (.inl (.inl rfl)) (.int .i64 0)).setCell (p := ⟨t, 5, none⟩) (.inl (.inl rfl)) (.int .i64 (Bk.w64 T.seen))
  have hz : ((((((w.setCell ⟨t, 0, none⟩ (.int .i64 T.w)).setCell ⟨t, 1, none⟩ (.pointer none)).setCell ⟨t, 2, none⟩ (.map (some w.heap.size))).setCell ⟨t, 3, none⟩ (.int .i64 0)).setCell ⟨t, 4, none⟩ (.int .i64 0)).setCell ⟨t, 5, none⟩ (.int .i64 (Bk.w64 T.seen))).heap.size = w.heap.size := by
    simp [World.setCell, Array.size_modify]
  generalize (((((w.setCell ⟨t, 0, none⟩ (.int .i64 T.w)).setCell ⟨t, 1, none⟩ (.pointer none)).setCell ⟨t, 2, none⟩ (.map (some w.heap.size))).setCell ⟨t, 3, none⟩ (.int .i64 0)).setCell ⟨t, 4, none⟩ (.int .i64 0)).setCell ⟨t, 5, none⟩ (.int .i64 (Bk.w64 T.seen)) = Y at h6 O hz ⊢
  have ht := h.tree.lt
  refine ⟨⟨rfl, ?_, ?_, fun i x n hx _ => by simp at hx, ⟨by omega, fun x hx => (List.not_mem_nil hx).elim, fun i j x y hx _ => by simp at hx⟩⟩, (O.alloc _).drew⟩
  · have h7 := h6.alloc (.map #[] 0)
    exact h7
  · have hm := Bk.MapAt.made Y 9 (fun c : List UInt8 => Lit.string c) (fun z => z = 0) rfl
    rw [hz] at hm
    exact hm.keep rfl
/-- Amid the hanging: the first k of these codes hang; the rest is still to be read. -/
def Bk.An (W : World) (t bm : Nat) (T : Bk.T) (L : List Bk.X) (A : Option Addr) (k : Nat) (wr : World) : Prop :=
  ∃ bm' L', Bk.Stand wr t bm' ⟨T.w, ((Bk.rising T.l).take k).foldl Bk.hang [], T.seen⟩ L' ∧ Bk.Only (Bk.foot t bm L) W wr ∧ (∀ j, Bk.foot t bm' L' j → Bk.foot t bm L j ∨ W.heap.size ≤ j) ∧
    ∀ j u, ((Bk.rising T.l).map encStr)[j]? = some u → ∃ g, A = some ⟨g, 0, none⟩ ∧ ¬ Bk.foot t bm' L' g ∧ wr.cell? ⟨g, j, none⟩ = some u
/-- Amid the gathering: the keys met so far that live. -/
def Bk.Gath (W : World) (T : Bk.T) (bm : Nat) (D0 : DataW Unit) (v : Value) (wr : World) : Prop :=
  ∃ (left : Lit → Bool) (cnt : Nat) (ss : List (List UInt8)), wr.ranges Tryz.prog 9 Bk.R bm W.heap.size T.l.length D0 left cnt ∧ ss.length + cnt ≤ T.l.length ∧
      wr.ownsRow W.heap.size 9 1 v ss.length (ss.map encStr) ∧ Bk.Coll T.l left ss ∧ Below W.heap.size W wr
set_option maxRecDepth 100000 in
set_option maxHeartbeats 4000000 in
theorem Bk.anew_any {W : World} {t bm : Nat} {T : Bk.T} {L : List Bk.X} (hS : Bk.Stand W t bm T L) (hG : Bk.Good T.w T.l) (hw : T.w ≤ 1024) (hl : T.l.length ≤ 4398046511104) (hT : ∀ w, Bk.Only (Bk.foot t bm L) W w → TabO w) :
    Calls Tryz.prog 33 #[.pointer (some ⟨t, 0, none⟩)] W fun e W' => e = .returned (.tuple #[]) ∧ Bk.Moved W W' t (Bk.foot t bm L) { T with l := Bk.anew T.l } := by
  obtain ⟨i0, hi, hz0, hz1, hz2⟩ := info_parts Bk.strInfo
  obtain ⟨D0, hD, hf, hz⟩ := hS.map
  obtain ⟨c0, c1, c2, c3, c4, c5⟩ := hS.six
  have hbl := hD.lt
  have hf' := Lib.hid hf
  have hz' := Lib.hid hz
  have hmm := @run_makeMap Tryz.prog
  clear hf hz
  go_enter Tryz.func33, Tryz.ntmps33
  go_wp2_with (at_range; refine wpList_range_own _ rfl _ 41 rfl 9 42 Bk.strKeyed Tryz.underlying41 Bk.R bm T.l.length _ rfl hD ?_; intro w0 hrg0 hg0 hs0)
  try go_frame
  go_loopw [2] (fun v wr => Bk.Gath W T bm D0 v wr) (fun _ wr => wr.rangeLeft bm W.heap.size)
  case atStart =>
    refine ⟨_, _, [], hrg0, by simp [hz'.out], ⟨by simp, Or.inl ⟨rfl, rfl⟩⟩, Bk.Coll.start fun x hx => ?_, (Below.refl _ _).grown hg0 (Nat.le_refl _) (fun j hj => by cases hj)⟩
    rw [(hf'.out x).2]
    unfold Bk.hasC at hx
    cases hfx : Bk.find T.l x with
    | none => rw [hfx] at hx; cases hx
    | some i =>
      obtain ⟨n, hn, _⟩ := Bk.find_some hfx
      obtain ⟨y, hy⟩ := hS.at' hn
      rw [Bk.adr_at hy]
      rfl
  case round =>
    obtain ⟨left, cnt, ss, hrg, hcs, hrow, hC, hnx⟩ := hrel
    clear hrg0 hg0 hs0
    go_wp2_with (at_next; refine wpList_next_ranges _ rfl _ rfl 9 Bk.strKeyed Bk.R encStr Value.pointer (fun key kl hk => by obtain ⟨x, hx, _⟩ := Maps.keyOf_str Tryz.underlying9 hk; exact ⟨x, hx⟩) (fun v y hv => Bk.R_inv hv) bm W.heap.size T.l.length _ _ _ rfl hrg ?_ ?_)
    · -- nothing is left
      intro hc0 hl0
      have hp := hC.rising hG hl0
      have hsl : ss.length < 4611686018427387904 := by omega
      have hso := Bk.sortS hrow hsl
      obtain ⟨A, cap, hv, hob, _⟩ := Bk.row_slice hrow
      rw [hp] at hso
      have hlr : (Bk.rising T.l).length = ss.length := by rw [← hp]; simp
      have HLR := Lib.hid hlr
      have hssl : ss.length ≤ T.l.length := by omega
      clear hp hlr
      subst hv
      go_upto_region 7 with (go_at_call 50; refine hso.mono ?_; clear hso; rintro e w5 ⟨rfl, hrow5, hg5⟩)
      have hB5 : Below W.heap.size W w5 := hnx.grown hg5 hnx.size (fun k hk => (hob k hk).1)
      have hS5 := hS.later hB5 (Nat.le_refl _)
      obtain ⟨d0, d1, d2, d3, d4, d5⟩ := hS5.six
      clear c0 c1 c2 c3 c4 c5 hg5 hrow hC hrg hnx
      have ht5 := hS5.tree.lt
      have f0 := hS5.tree.frozen 0
      have f1 := hS5.tree.frozen 1
      have f2 := hS5.tree.frozen 2
      have f3 := hS5.tree.frozen 3
      have f4 := hS5.tree.frozen 4
      have f5 := hS5.tree.frozen 5
      go_region
      go_wp2_with fail
      obtain ⟨hS6, hO6⟩ := hS5.wipe
      have hzz : (((((((w5.setCell ⟨t, 0, none⟩ (.int .i64 T.w)).setCell ⟨t, 1, none⟩ (.pointer none)).setCell ⟨t, 2, none⟩ (.map (some w5.heap.size))).setCell ⟨t, 3, none⟩ (.int .i64 0)).setCell ⟨t, 4, none⟩ (.int .i64 0)).setCell ⟨t, 5, none⟩ (.int .i64 (Bk.w64 T.seen))).alloc (.map #[] 0)).drew.heap.size = w5.heap.size + 1 := by
        simp [World.setCell, Array.size_modify]
      generalize (((((((w5.setCell ⟨t, 0, none⟩ (.int .i64 T.w)).setCell ⟨t, 1, none⟩ (.pointer none)).setCell ⟨t, 2, none⟩ (.map (some w5.heap.size))).setCell ⟨t, 3, none⟩ (.int .i64 0)).setCell ⟨t, 4, none⟩ (.int .i64 0)).setCell ⟨t, 5, none⟩ (.int .i64 (Bk.w64 T.seen))).alloc (.map #[] 0)).drew = w6 at hS6 hO6 hzz ⊢
      have hO60 : Bk.Only (Bk.foot t bm L) W w6 := (Bk.Only.of hB5).trans hO6
      have hAn : Bk.An W t bm T L A 0 w6 := by
        refine ⟨_, [], hS6, hO60, fun j hj => ?_, fun j u hu => ?_⟩
        · rcases hj with rfl | rfl | ⟨x, hx, _⟩
          · exact .inl (.inl rfl)
          · exact .inr hB5.size
          · exact (List.not_mem_nil hx).elim
        · obtain ⟨A', cap', hv', hob', hcell'⟩ := Bk.row_slice hrow5
          obtain ⟨g, hA, hob2, hc⟩ := hcell' j u hu
          obtain ⟨g1, g2⟩ := hob' g hob2
          have hgt : t < W.heap.size := hS.tree.lt
          refine ⟨g, by injection hv' with hA' _ _; rw [hA', hA], ?_, ?_⟩
          · rintro (rfl | rfl | ⟨x, hx, _⟩)
            · omega
            · omega
            · exact (List.not_mem_nil hx).elim
          · have hne : ¬ Bk.foot t bm L g := fun hk => by have := hS.lt hk; omega
            exact (World.cell?_of_block (hO6.block g g2 hne)).trans hc
      have HW := Lib.hid (And.intro hzz hzz)
      clear hzz hS6 hO6 hO60 hrow5 hS5 hB5 d0 d1 d2 d3 d4 d5 f0 f1 f2 f3 f4 f5 ht5 hob hsl hcs hmm hf' hz' hD
      go_loopw [42] (fun v wr => ∃ k : Nat, v = .int .i64 k ∧ k ≤ ss.length ∧ Bk.An W t bm T L A k wr) (fun v _ => ss.length - (intOf v).toNat)
      case atStart => exact ⟨0, rfl, Nat.zero_le _, hAn⟩
      case round =>
        clear hAn HW
        obtain ⟨k, rfl, hk, bm', L', hS', hO', hF', hcell⟩ := hrel
        by_cases hlt : k < ss.length
        · have hkl : k < (Bk.rising T.l).length := by rw [HLR.out]; exact hlt
          obtain ⟨x, hx⟩ : ∃ x, (Bk.rising T.l)[k]? = some x := ⟨_, List.getElem?_eq_getElem hkl⟩
          obtain ⟨g, rfl, hgf, hgc⟩ := hcell k (encStr x) (by rw [List.getElem?_map, hx]; rfl)
          obtain ⟨hnd, hlen⟩ := hG.rising
          have hxl := hlen x (List.mem_of_getElem? hx)
          have hsz : (⟨x.toArray⟩ : ByteArray).size = x.length := by simp [ByteArray.size]
          have hdl : (⟨x.toArray⟩ : ByteArray).data.toList = x := rfl
          have hnew : x ∉ (((Bk.rising T.l).take k).foldl Bk.hang []).map fun n => n.code := by
            rw [Bk.codes_fold]
            intro hm
            simp only [List.map_nil, List.nil_append] at hm
            obtain ⟨j, hj⟩ := List.mem_iff_getElem?.1 hm
            have hjk : j < k := by have := (List.getElem?_eq_some_iff.1 hj).1; rw [List.length_take] at this; omega
            rw [List.getElem?_take_of_lt hjk] at hj
            have := (List.getElem?_inj (show j < (Bk.rising T.l).length by omega) hnd).1 (hj.trans hx.symm)
            omega
          have hGk : Bk.Good T.w (((Bk.rising T.l).take k).foldl Bk.hang []) :=
            Bk.Good.fold _ _ (Bk.Good.nil _) (fun c hc => hlen c (List.mem_of_mem_take hc)) (hnd.sublist (List.take_sublist _ _)) fun c _ n hn => by cases hn
          have hh := Bk.hang_any hS' hGk ⟨x.toArray⟩ (by rw [hsz]; exact hxl) hw (Bk.find_codes hnew) (by show (((Bk.rising T.l).take k).foldl Bk.hang []).length ≤ _; rw [Bk.fold_len, List.length_take]; omega)
            (fun w hw' => hT w (hO'.chain hF' hw'))
          have HX := Lib.hid (And.intro hx (And.intro hkl hcell))
          have hgc' : wr.cell? ⟨g, k, none⟩ = some (.string ⟨x.toArray⟩) := hgc
          clear hx hkl hcell hgc hnew hsz hdl hxl hnd hlen hGk
          go_wp2_with (go_at_call 32; refine hh.mono ?_; clear hh; rintro e w7 ⟨rfl, z, S', O', z1, z2⟩)
          go_roundw
          case rel =>
            obtain ⟨hx, hkl, hcell⟩ := HX.out
            refine ⟨k + 1, by go_num, by omega, bm', L' ++ [z], ?_, hO'.chain hF' O', fun j hj => ?_, fun j u hu => ?_⟩
            · rw [List.take_add_one, hx, List.foldl_append]
              exact S'
            · rcases Bk.foot_snoc z1 z2 hj with h | h
              · exact hF' j h
              · exact .inr (Nat.le_trans hO'.size h)
            · obtain ⟨g', hA, hgf', hc'⟩ := hcell j u hu
              have hg'lt := World.block_lt_of_cell? _ _ hc'
              refine ⟨g', hA, fun hf => ?_, (World.cell?_of_block (O'.block g' hg'lt hgf')).trans hc'⟩
              rcases Bk.foot_snoc z1 z2 hf with h | h
              · exact hgf' h
              · have : g' < wr.heap.size := hg'lt
                omega
          case measure => simp [intOf]; omega
        · go_wp2_with fail
          go_end0
          refine ⟨rfl, _, ⟨bm', L', ?_, rfl⟩, hO', hF'⟩
          have e1 : (Bk.rising T.l).take k = Bk.rising T.l := List.take_of_length_le (by rw [HLR.out]; omega)
          rw [e1] at hS'
          exact hS'
    · -- an entry has come
      intro x c kl yd yp w2 cnt2 hkey hlk hv hat hrg2 hlt hg2 hs2 hen
      obtain ⟨x', ex, rfl, _⟩ := Maps.keyOf_str Tryz.underlying9 hkey
      obtain rfl : x = x' := encStr_inj ex
      have hrow2 := hrow.kept hg2 (Or.inr (row_ne_iter hrow hrg).symm)
      have hB2 : Below W.heap.size W w2 := hnx.grown hg2 hnx.size (fun j hj => by cases hj; exact Nat.le_refl _)
      have hS2 := hS.later hB2 (Nat.le_refl _)
      obtain ⟨i, y, n, hfx, hy, hn, hcy⟩ : ∃ i y n, Bk.find T.l x = some i ∧ L[i]? = some y ∧ T.l[i]? = some n ∧ c = some ⟨y.blk, 0, none⟩ := by
        obtain ⟨e1, e2⟩ := hf'.out x
        rw [has_true_of_atKey hat] at e2
        rw [hat .nil] at e1
        cases hfx : Bk.find T.l x with
        | none => rw [hfx] at e2; cases e2
        | some i =>
          obtain ⟨n, hn, _⟩ := Bk.find_some hfx
          obtain ⟨y, hy⟩ := hS.at' hn
          rw [hfx, Bk.adr_at hy] at e1
          rw [e1] at hv
          have := Bk.R_lit hv
          exact ⟨i, y, n, rfl, hy, hn, by injection this⟩
      subst hcy
      obtain ⟨a0, a1, a2, a3⟩ := hS2.four hy hn
      have hst := hC.step hlk
      rw [Bk.hasC_find hfx hn] at hst
      have hw2 := hrg2.left_eq
      have hw1 := hrg.left_eq
      have HLT := Lib.hid (And.intro hlt (And.intro hw1 hw2))
      clear hs2 hv hat hfx hw1 hw2
      cases hlv : n.live with
      | false =>
        rw [hlv] at a1 hst
        have HST := Lib.hid hst
        clear hst hC hlv hn hy
        go_wp2_with fail
        go_roundw
        case rel => exact ⟨_, cnt2, ss, hrg2, by have := HLT.out.1; omega, hrow2, by simpa using HST.out, hB2⟩
        case measure => rw [HLT.out.2.1, HLT.out.2.2]; exact HLT.out.1
      | true =>
        rw [hlv] at a1 hst
        have HST := Lib.hid hst
        clear hst hC hlv hn hy
        go_wp2_with (at_builtin; refine wpList_append_own _ rfl _ _ 76 rfl W.heap.size 9 i0 (.string ⟨#[]⟩) 1 16 Tryz.underlying76 hi hz0 hz1 hz2 rfl (by decide) _ _ _ rfl (hrow2.alloc _) ⟨w2.heap.size, 0, none⟩ 1 1 [encStr x] rfl rfl (cell_one_new _ _ _) (by simp [Value.oneCell', encStr]) (by unfold maxLen at *; omega) (by omega) (by have := hnx.size; have := hg2.size; simp; omega) ?_; intro v' w3 hown' hg3 hnil3; try go_frame)
        have hrg3 := (hrg2.alloc _).kept hg3 (row_ne_low hrow2 hbl) (row_ne_iter hrow2 hrg2)
        go_roundw
        case rel =>
          refine ⟨_, cnt2, ss ++ [x], hrg3, by have := HLT.out.1; simp; omega, by simpa using hown', by simpa using HST.out, ?_⟩
          exact (hB2.alloc (by have := hnx.size; have := hg2.size; omega) _).grown hg3 (by have := hnx.size; have := hg2.size; simp; omega) (fun j hj => (hrow2.lt j hj).1)
        case measure => rw [hrg3.left_eq, HLT.out.2.1]; exact HLT.out.1
theorem Bk.MapAt.count {W : World} {m n : Nat} {f : List UInt8 → Option Nat} (h : Bk.SMap W m n f) (ty : TypeId) : (Builtin.len_ #[41] ty #[.map (some m)]).run Tryz.prog W = .ok (.int .i64 n) W := by
  obtain ⟨D, hD, _, hz⟩ := h
  have h1 := hD.len (t := 41) (e := 42) Tryz.underlying41 ty
  have hz' : Maps.size D = n := hz
  rw [hz'] at h1
  exact h1
set_option maxRecDepth 100000 in
set_option maxHeartbeats 4000000 in
theorem Bk.drop_any {W : World} {t : Nat} {T : Bk.T} {F : Nat → Prop} (h : Bk.At W t T F) (hG : Bk.Good T.w T.l) (hw : T.w ≤ 1024) (c : ByteArray) (hc : c.size ≤ 9223372036854775807) (hl : T.l.length ≤ 4398046511104) (hT : ∀ w, Bk.Only F W w → TabO w) :
    Calls Tryz.prog 14 #[.pointer (some ⟨t, 0, none⟩), .string c] W fun e W' => e = .returned (.bool (Bk.drop T c.data.toList).2) ∧ Bk.Moved W W' t F (Bk.drop T c.data.toList).1 := by
  obtain ⟨bm, L, hS, rfl⟩ := h
  obtain ⟨c0, c1, c2, c3, c4, c5⟩ := hS.six
  have hlk := hS.look c hc
  have ht := hS.tree.lt
  unfold Bk.drop
  cases hf : Bk.find T.l c.data.toList with
  | none =>
    rw [hf] at hlk
    simp only [Bk.adr, Option.bind_none, Bk.ptr] at hlk
    clear hf
    simp only
    go_enter Tryz.func14, Tryz.ntmps14
    go_wp2_with fail
    go_ret
    exact ⟨rfl, _, ⟨bm, _, hS, rfl⟩, Bk.Only.refl _ _, fun k hk => .inl hk⟩
  | some i =>
    obtain ⟨n, hn, _⟩ := Bk.find_some hf
    obtain ⟨x, hx⟩ := hS.at' hn
    rw [hf] at hlk
    simp only [Bk.adr_at hx, Bk.ptr] at hlk
    simp only
    rw [Bk.liveAt_at hn]
    obtain ⟨a0, a1, a2, a3⟩ := hS.four hx hn
    have hls := Bk.live_setLive (b := false) hn
    have hll := Bk.live_le T.l
    have hsl := fun z hz => hS.setLive hx hn false z hz
    have q1 := (hS.node i x n hx hn).1.frozen 1
    have q3 := hS.tree.frozen 3
    have hne : x.blk ≠ t := (hS.apart.tx x (List.mem_of_getElem? hx)).1
    have hne' : t ≠ x.blk := fun e => hne e.symm
    cases hv : n.live with
    | false =>
      rw [hv] at a1
      rw [if_neg (by decide)]
      clear hf hx hn hv hls hsl
      go_enter Tryz.func14, Tryz.ntmps14
      go_wp2_with fail
      go_ret
      exact ⟨rfl, _, ⟨bm, _, hS, rfl⟩, Bk.Only.refl _ _, fun k hk => .inl hk⟩
    | true =>
      rw [hv] at a1 hls
      rw [if_pos rfl]
      have hz := hsl ((Bk.live T.l : Nat) - 1) (by simp at hls; omega)
      have hGl := hG.setLive i false
      have hlen : (Bk.setLive T.l i false).length = T.l.length := Bk.len_K (Bk.setLive_K T.l i false)
      have hl1 : 1 ≤ Bk.live T.l := by simp at hls; omega
      have hlb := Bk.live_le (Bk.setLive T.l i false)
      obtain ⟨R, hR⟩ : ∃ R, Bk.swept (Bk.setLive T.l i false) = R := ⟨_, rfl⟩
      rw [hR]
      unfold Bk.swept at hR
      rw [hlen] at hR
      have HR := Lib.hid hR
      clear hf hx hn hv hls hsl hR
      go_enter Tryz.func14, Tryz.ntmps14
      go_upto_region 6 with fail
      obtain ⟨hS2, hO2⟩ := hz
      have hr : (!false : Bool) = true := rfl
      rw [hr] at hS2 hO2
      clear hr
      generalize (W.setCell ⟨x.blk, 1, none⟩ (.bool true)).setCell ⟨t, 3, none⟩ (.int .i64 ((Bk.live T.l : Nat) - 1)) = W2 at hS2 hO2 ⊢
      clear c0 c1 c2 c3 c4 c5 a0 a1 a2 a3 hlk q1 q3
      obtain ⟨c0, c1, c2, c3, c4, c5⟩ := hS2.six
      have hlm := fun (m : Nat) => (hS2.dn (W' := W2.drewN m) ⟨m, rfl⟩).map.count
      have hlm0 := hS2.map.count
      simp only at hlm hlm0 c3
      rw [hlen] at hlm0
      simp only [hlen] at hlm
      have hR := HR.out
      generalize hlv : Bk.live (Bk.setLive T.l i false) = lv at c3 hlb hR
      have v1 : wrap64 ((lv : Int) + 16) = (lv : Int) + 16 := IntWalk.wrap64_in _ (by omega)
      have v2 : wrap64 ((T.l.length : Int) - (lv : Int)) = (T.l.length : Int) - (lv : Int) := IntWalk.wrap64_in _ (by omega)
      have HLV := Lib.hid (And.intro hlv hlen)
      clear hlv hlen HR
      by_cases hbig : T.l.length - lv > lv + 16
      · rw [if_pos hbig] at hR
        subst hR
        have u1 : decide ((lv : Int) + 16 < (T.l.length : Int) - (lv : Int)) = true := decide_eq_true (by omega)
        have han := fun n => Bk.anew_any (W := W2.drewN n) (hS2.dn ⟨n, rfl⟩) hGl hw (by rw [HLV.out.2]; exact hl) (fun w hw' => hT w (hO2.trans ⟨hw'.os, hw'.tape, hw'.output, hw'.size, hw'.block⟩))
        clear hbig
        go_quiet (fail)
        go_wp2_with (go_at_call 33; refine (han _).mono ?_; clear han; rintro e w7 ⟨rfl, F', h7, O7, f7⟩)
        go_ret
        exact ⟨rfl, F', h7, hO2.trans ⟨O7.os, O7.tape, O7.output, O7.size, O7.block⟩, fun k hk => (f7 k hk).imp id fun h => Nat.le_trans hO2.size h⟩
      · rw [if_neg hbig] at hR
        subst hR
        have u1 : decide ((lv : Int) + 16 < (T.l.length : Int) - (lv : Int)) = false := decide_eq_false (by omega)
        clear hbig
        go_quiet (fail)
        go_wp2_with fail
        go_ret
        exact ⟨rfl, _, ⟨bm, _, hS2.dn ⟨_, rfl⟩, rfl⟩, ⟨hO2.os, hO2.tape, hO2.output, hO2.size, hO2.block⟩, fun k hk => .inl hk⟩
end Go.Proofs.YtikhahkmebkccaaGreatDoor
