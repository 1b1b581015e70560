/- Contract of recall.Of. Conditions: each theorem's own hypotheses. -/
import Derived.Test.YtjoaimccfoakmaaRcB
import Derived.Maps.OwnSet
import Derived.Maps.AppendAt
import Derived.Laws.Rows
namespace Go.Proofs.Ytjoaimccfoakmaa
open Go.RowKit Go.Maps
set_option linter.unusedVariables false

theorem intKey : Keyed Try.prog 3 := int_keyed Try.underlying3
theorem zeroNone (w : World) : (zeroValue 32).run Try.prog w = .ok (.agg #[]) w := by kernel_rfl

/-- The set of the first k numbers. -/
def setTo (l : List Int) (k : Nat) : DataW Unit := (l.take k).foldl (fun D x => D.put (.int .i64 x) (.agg [])) (.map [])
theorem setTo_succ (l : List Int) (k : Nat) (x : Int) (h : l[k]? = some x) : setTo l (k + 1) = (setTo l k).put (.int .i64 x) (.agg []) := by
  unfold setTo
  rw [List.take_add_one, h]
  show List.foldl _ _ (l.take k ++ [x]) = _
  rw [List.foldl_append]; rfl
theorem has_fold : ∀ (l : List Int) (D : DataW Unit), IsMap D → ∀ x, Maps.has (l.foldl (fun D x => D.put (.int .i64 x) (.agg [])) D) (.int .i64 x) = (Maps.has D (.int .i64 x) || l.contains x)
  | [], D, _, x => by simp
  | y :: l, D, hD, x => by
    rw [List.foldl_cons, has_fold l _ (hD.put _ _) x, List.contains_cons]
    by_cases e : x = y
    · subst e
      rw [has_put_same hD (by exact trivial : WideAt.IsKeyLit (Lit.int .i64 x))]
      simp
    · have e1 : (Lit.int .i64 x) ≠ Lit.int .i64 y := fun h => e (by injection h)
      rw [has_put_other e1, beq_eq_false_iff_ne.2 e, Bool.false_or]
theorem has_setTo (l : List Int) (x : Int) : Maps.has (setTo l l.length) (.int .i64 x) = l.contains x := by
  unfold setTo
  rw [List.take_length, has_fold l _ isMap_empty x]
  rfl

/-- A block that is known whole. -/
def Blk (w : World) (g : Nat) (t : TypeId) (cs : Array Value) : Prop := w.heap[g]? = some (.cells cs t (0, 0))
theorem Blk.lt {w : World} {g : Nat} {t : TypeId} {cs : Array Value} (h : Blk w g t cs) : g < w.heap.size := by
  rcases Nat.lt_or_ge g w.heap.size with hlt | hge
  · exact hlt
  · unfold Blk at h; rw [Array.getElem?_eq_none hge] at h; cases h
theorem Blk.cell {w : World} {g : Nat} {t : TypeId} {cs : Array Value} (h : Blk w g t cs) (i : Nat) : w.cell? ⟨g, i, none⟩ = cs[i]? := cell_of_row w g i cs t (0, 0) h
theorem Blk.frozen {w : World} {g : Nat} {t : TypeId} {cs : Array Value} (h : Blk w g t cs) (i : Nat) : w.frozen? ⟨g, i, none⟩ = false := by
  unfold Blk at h
  simp [World.frozen?, h]
theorem Blk.new (w : World) (t : TypeId) (cs : Array Value) : Blk (w.alloc (.cells cs t)) w.heap.size t cs := heap_alloc_new w _
theorem Blk.alloc {w : World} {g : Nat} {t : TypeId} {cs : Array Value} (h : Blk w g t cs) (o : Obj) : Blk (w.alloc o) g t cs := (Below.heap_alloc w o g h.lt).trans h
theorem Blk.set_ {w : World} {g : Nat} {t : TypeId} {cs : Array Value} (h : Blk w g t cs) (i : Nat) (u : Value) : Blk (w.setCell ⟨g, i, none⟩ u) g t (cs.setIfInBounds i u) := by
  unfold Blk at h ⊢
  simp [World.setCell, Array.getElem?_modify, h]
theorem Blk.far {w : World} {g : Nat} {t : TypeId} {cs : Array Value} (h : Blk w g t cs) {p : Addr} (hp : g ≠ p.block) (u : Value) : Blk (w.setCell p u) g t cs := (Below.heap_setCell w p u g hp).trans h
theorem Blk.grown {w w' : World} {g : Nat} {t : TypeId} {cs : Array Value} {row : Option Nat} (h : Blk w g t cs) (hb : w.grownBy w' row) (hg : some g ≠ row) : Blk w' g t cs := (hb.block g h.lt hg).trans h

/-- The first loop: the set holds the first k numbers. -/
def OfOne (F : List Int) (w : World) (i : Value) (wr : World) : Prop :=
  ∃ k : Nat, k ≤ F.length ∧ i = .int .i64 k ∧ wr.ownsMap Try.prog 3 unitElem (w.heap.size + 1) k (setTo F k) ∧ Blk wr w.heap.size 25 #[.int .i64 0, .int .i64 0] ∧ Below w.heap.size w wr
/-- The second: the count stands in the share's first cell. -/
def OfTwo (F W : List Int) (w : World) (s : Nat) (i : Value) (wr : World) : Prop :=
  ∃ k n : Nat, k ≤ W.length ∧ i = .int .i64 k ∧ n ≤ k ∧ cntL F W k = n ∧ wr.ownsMap Try.prog 3 unitElem (w.heap.size + 1) F.length (setTo F F.length) ∧ Blk wr w.heap.size 25 #[.int .i64 0, .int .i64 0] ∧
    Blk wr s 25 #[.int .i64 n, .int .i64 W.length] ∧ Below w.heap.size w wr

set_option maxRecDepth 100000 in
set_option maxHeartbeats 1000000 in
theorem of_any (F W : List Hit) (A C : Option Addr) (c d : Nat) (w : World) (HF : Hs w w.heap.size A F) (HW : Hs w w.heap.size C W) (hf : F.length ≤ 4398046511104) (hw : W.length ≤ 4398046511104)
    (hFw : ∀ h ∈ F, (Lit.int .i64 h.id).wf = true) (hWw : ∀ h ∈ W, (Lit.int .i64 h.id).wf = true) :
    Calls Try.prog 5 #[.slice A F.length c, .slice C W.length d] w fun e w' => e = .returned (.agg #[.int .i64 (cntL (ids F) (ids W) W.length), .int .i64 W.length]) ∧ Below w.heap.size w w' := by
  have hlF : (ids F).length = F.length := List.length_map _
  have hlW : (ids W).length = W.length := List.length_map _
  have hmm := @run_makeMap Try.prog
  go_enter Try.func5, Try.ntmps5
  go_wp2_with fail
  go_loopw [16] (fun i wr => OfOne (ids F) w i wr) (fun i _ => F.length - (intOf i).toNat)
  case atStart => exact ⟨0, Nat.zero_le _, rfl, by have h := World.ownsMap_made (H := Unit) (w.alloc (.cells #[.int .i64 0, .int .i64 0] 25)) Try.prog 3 unitElem; rw [World.size_alloc] at h; exact h, (Blk.new w _ _).alloc _, ((Below.refl _ _).alloc (Nat.le_refl _) _).alloc (by simp) _⟩
  case round =>
    obtain ⟨k, hk, rfl, hown, hb4, hB⟩ := hrel
    rw [hlF] at hk
    by_cases hlt : k < F.length
    · obtain ⟨b, off, h, rfl, hb, hj, e0, e1, e2⟩ := (HF.below hB).at_ hlt
      have hset := setTo_succ (ids F) k h.id (ids_at hj)
      have hkey : keyOf Try.prog 3 (.int .i64 h.id) = some (.int .i64 h.id) := keyOf_int_mk Try.underlying3 (hFw h (List.mem_iff_getElem?.2 ⟨k, hj⟩))
      have HS := Lib.hid hset
      have HK := Lib.hid hkey
      clear hj hset hkey
      go_wp2_with (at_mapUpdate; refine wpList_mapUpdate_own _ rfl _ _ _ 30 rfl 3 32 intKey Try.underlying30 (unitElem (H := Unit)) (w.heap.size + 1) k _ rfl (hown.alloc _) (by unfold maxLen; omega) _ _ _ rfl rfl HK.out _ [] unitElem_mk ?_; intro w1 hown1 hgrow1)
      go_roundw
      case rel =>
        refine ⟨k + 1, by omega, by go_num, ?_, (hb4.alloc _).grown hgrow1 (by simp), (hB.alloc hB.size _).grown hgrow1 (by have := hB.size; simp; omega) (fun j e => by cases e; exact Nat.le_succ _)⟩
        rw [HS.out]; exact hown1
      case measure => simp [intOf]; omega
    · obtain rfl : k = F.length := by omega
      obtain ⟨wo, rfl⟩ : ∃ wo : World, wo = wr := ⟨_, rfl⟩
      have hbl : w.heap.size < wo.heap.size := hb4.lt
      have hml := hown.lt
      go_wp2_with fail
      go_loopw [30] (fun i wr => OfTwo (ids F) (ids W) w wo.heap.size i wr) (fun i _ => W.length - (intOf i).toNat)
      case atStart =>
        refine ⟨0, 0, Nat.zero_le _, rfl, Nat.le_refl _, rfl, ?_, hb4.alloc _, ?_, hB.alloc hB.size _⟩
        · rw [hlF]; exact hown.alloc _
        · rw [hlW]; exact Blk.new wo _ _
      case round =>
        obtain ⟨k, n, hk, rfl, hn, hcnt, hown2, hb5, hb6, hB2⟩ := hrel
        rw [hlW] at hk hb6
        rw [hlF] at hown2
        have HC := Lib.hid hcnt
        clear hcnt
        by_cases hlt : k < W.length
        · obtain ⟨b, off, h, rfl, hb, hj, e0, e1, e2⟩ := (HW.below hB2).at_ hlt
          have hsc := cntL_succ (ids F) (ids W) k h.id (ids_at hj)
          rw [HC.out] at hsc
          have hkey : keyOf Try.prog 3 (.int .i64 h.id) = some (.int .i64 h.id) := keyOf_int_mk Try.underlying3 (hWw h (List.mem_iff_getElem?.2 ⟨k, hj⟩))
          have hhas := has_setTo (ids F) h.id
          rw [hlF] at hhas
          obtain ⟨R, hR⟩ : ∃ R, (ids F).contains h.id = R := ⟨_, rfl⟩
          rw [hR] at hsc hhas
          have HSC := Lib.hid hsc
          have HK := Lib.hid hkey
          have HH := Lib.hid hhas
          clear hj hsc hkey hhas hR
          have s0 : ∀ o o' : Obj, ((wr.alloc o).alloc o').cell? ⟨wo.heap.size, 0, none⟩ = some (.int .i64 n) := fun o o' => ((hb6.alloc o).alloc o').cell 0
          have s1 : ∀ o o' : Obj, ((wr.alloc o).alloc o').frozen? ⟨wo.heap.size, 0, none⟩ = false := fun o o' => ((hb6.alloc o).alloc o').frozen 0
          cases R with
          | true =>
            go_wp2_with (at_lookup; refine wpList_lookup_own_unit _ rfl _ _ 30 rfl 3 32 intKey Try.underlying30 (zeroNone _) (w.heap.size + 1) F.length _ rfl (hown2.alloc _) _ _ rfl HK.out ?_; rw [HH.out])
            go_roundw
            case rel =>
              refine ⟨k + 1, n + 1, by omega, by go_num, by omega, HSC.out, ?_, ((hb5.alloc _).alloc _).far (by simp; omega) _, ?_, ((hB2.alloc hB2.size _).alloc (by simp; have := hB2.size; omega) _).setCell (by simp; omega) _⟩
              · rw [hlF]; exact ((hown2.alloc _).alloc _).setCell (by simp; omega) _
              · have hb7 := ((hb6.alloc (.cells #[.int .i64 h.dist, .int .i64 h.id, .string h.code] 29)).alloc (.cells #[] 32)).set_ 0 (.int .i64 ((n : Int) + 1))
                rw [hlW]; exact hb7
            case measure => simp [intOf]; omega
          | false =>
            go_wp2_with (at_lookup; refine wpList_lookup_own_unit _ rfl _ _ 30 rfl 3 32 intKey Try.underlying30 (zeroNone _) (w.heap.size + 1) F.length _ rfl (hown2.alloc _) _ _ rfl HK.out ?_; rw [HH.out])
            go_roundw
            case rel =>
              refine ⟨k + 1, n, by omega, by go_num, by omega, HSC.out, ?_, (hb5.alloc _).alloc _, ?_, (hB2.alloc hB2.size _).alloc (by simp; have := hB2.size; omega) _⟩
              · rw [hlF]; exact (hown2.alloc _).alloc _
              · rw [hlW]; exact (hb6.alloc _).alloc _
            case measure => simp [intOf]; omega
        · obtain rfl : k = W.length := by omega
          have r0 := hb6.cell 0
          have r1 := hb6.cell 1
          have q0 := hb5.cell 0
          have q1 := hb5.cell 1
          have z0 := hb5.frozen 0
          have z1 := hb5.frozen 1
          simp only [List.getElem?_toArray, List.getElem?_cons_zero, List.getElem?_cons_succ] at r0 r1 q0 q1
          have q0' : (wr.setCell ⟨w.heap.size, 0, none⟩ (.int .i64 n)).cell? ⟨w.heap.size, 0, none⟩ = some (.int .i64 n) := World.cell?_setCell_same _ _ _ q0
          have q1' : ((wr.setCell ⟨w.heap.size, 0, none⟩ (.int .i64 n)).setCell ⟨w.heap.size, 1, none⟩ (.int .i64 W.length)).cell? ⟨w.heap.size, 1, none⟩ = some (.int .i64 W.length) :=
            World.cell?_setCell_same _ _ _ (by rw [World.cell?_setCell_other _ _ _ _ (by simp)]; exact q1)
          go_wp2_with fail
          rw [HC.out]
          refine bodyPost_ret (v := .agg #[.int .i64 n, .int .i64 W.length]) (by simp [results, Try.results5, go_sem, q0', q1']) rfl ⟨rfl, ?_⟩
          exact (hB2.setCell (Nat.le_refl _) _).setCell (Nat.le_refl _) _
end Go.Proofs.Ytjoaimccfoakmaa
