/- Rows of hits; contract of ordered: they are sorted by distance, then code. Conditions: each theorem's own hypotheses. -/
import Derived.Test.YtikhahkmebkccaaGreatDoorBkJ
import Derived.Shelf.SlSortCmp.NoneTotal
namespace Go.Proofs.YtikhahkmebkccaaGreatDoor
open Go.RowKit Go.Maps Go.Sort Go.Shelf
set_option linter.unusedVariables false

/-- Hits' cells. -/
def Bk.hc (h : Bk.H) : List Value := [.int .i64 (h.d : Nat), .int .i64 0, Tx.v h.c]
def Bk.hcs (F : List Bk.H) : List Value := F.flatMap Bk.hc
theorem Bk.hcs_len : ∀ F, (Bk.hcs F).length = F.length * 3
  | [] => rfl
  | h :: F => by unfold Bk.hcs; rw [List.flatMap_cons, List.length_append, List.length_cons]; have := Bk.hcs_len F; unfold Bk.hcs at this; rw [this]; simp [Bk.hc]; omega
/-- In order: by distance, then code. -/
def Bk.leH (a b : Bk.H) : Bool := decide (a.d < b.d) || (decide (a.d = b.d) && leB a.c b.c)
def Bk.sortH (F : List Bk.H) : List Bk.H := F.mergeSort Bk.leH
abbrev Bk.P := Fin 1025 × List UInt8
def Bk.encP (x : Bk.P) : List Value := [.int .i64 ((x.1.val : Nat) : Int), .int .i64 0, Tx.v x.2]
def Bk.toH (x : Bk.P) : Bk.H := ⟨x.1.val, x.2⟩
def Bk.cmpP (x y : Bk.P) : Int := if x.1 = y.1 then Lib.compareBytes x.2 y.2 else ((x.1.val : Nat) : Int) - ((y.1.val : Nat) : Int)
theorem Bk.cb_lt : ∀ a b : List UInt8, Lib.compareBytes a b < 0 ↔ a < b
  | [], [] => by simp [Lib.compareBytes]
  | [], _ :: _ => by simp [Lib.compareBytes]
  | _ :: _, [] => by simp [Lib.compareBytes]
  | a :: s, b :: t => by
    rw [Lib.compareBytes, List.cons_lt_cons_iff]
    by_cases h1 : a < b
    · simp [h1]
    · rw [if_neg h1]
      by_cases h2 : b < a
      · rw [if_pos h2]
        have hne : a ≠ b := fun e => by subst e; exact h1 h2
        simp [h1, hne]
      · rw [if_neg h2]
        have he : a = b := UInt8.le_antisymm (UInt8.not_lt.1 h2) (UInt8.not_lt.1 h1)
        rw [Bk.cb_lt s t]
        simp [he]
theorem Bk.lt_cmp (x y : Bk.P) : ltOf Bk.cmpP x y = (decide (x.1.val < y.1.val) || (decide (x.1.val = y.1.val) && decide (x.2 < y.2))) := by
  unfold ltOf Bk.cmpP
  by_cases h : x.1 = y.1
  · have h' : x.1.val = y.1.val := by rw [h]
    rw [if_pos h, Bool.eq_iff_iff]
    simp [h, Bk.cb_lt]
  · have h' : ¬ x.1.val = y.1.val := fun e => h (Fin.ext e)
    rw [if_neg h, Bool.eq_iff_iff]
    simp [h']
    omega
theorem Bk.lt_iff (x y : Bk.P) : ltOf Bk.cmpP x y = true ↔ (x.1.val < y.1.val ∨ (x.1.val = y.1.val ∧ x.2 < y.2)) := by
  rw [Bk.lt_cmp]; simp
theorem Bk.lt_iff' (x y : Bk.P) : ltOf Bk.cmpP x y = false ↔ (y.1.val < x.1.val ∨ (x.1.val = y.1.val ∧ y.2 ≤ x.2)) := by
  rw [Bk.lt_cmp]
  simp only [Bool.or_eq_false_iff, decide_eq_false_iff_not, Bool.and_eq_false_iff, List.not_lt]
  constructor
  · rintro ⟨h1, h2⟩
    by_cases h3 : x.1.val = y.1.val
    · rcases h2 with h2 | h2
      · exact absurd h3 h2
      · exact .inr ⟨h3, h2⟩
    · exact .inl (by omega)
  · rintro (h | ⟨h1, h2⟩)
    · exact ⟨by omega, .inl (by omega)⟩
    · exact ⟨by omega, .inr h2⟩
theorem Bk.swo : SWO (ltOf Bk.cmpP) where
  irrefl x := by rw [Bk.lt_iff']; exact .inr ⟨rfl, List.le_refl _⟩
  trans x y z h1 h2 := by
    rw [Bk.lt_iff] at *
    rcases h1 with h1 | ⟨h1, h1'⟩
    · rcases h2 with h2 | ⟨h2, h2'⟩ <;> exact .inl (by omega)
    · rcases h2 with h2 | ⟨h2, h2'⟩
      · exact .inl (by omega)
      · exact .inr ⟨by omega, List.lt_trans h1' h2'⟩
  ntrans x y z h1 h2 := by
    rw [Bk.lt_iff'] at *
    rcases h1 with h1 | ⟨h1, h1'⟩
    · rcases h2 with h2 | ⟨h2, h2'⟩ <;> exact .inl (by omega)
    · rcases h2 with h2 | ⟨h2, h2'⟩
      · exact .inl (by omega)
      · exact .inr ⟨by omega, List.le_trans h2' h1'⟩
theorem Bk.total (x y : Bk.P) (h1 : ltOf Bk.cmpP x y = false) (h2 : ltOf Bk.cmpP y x = false) : x = y := by
  rw [Bk.lt_iff'] at *
  rcases h1 with h1 | ⟨h1, h1'⟩
  · rcases h2 with h2 | ⟨h2, h2'⟩ <;> omega
  · rcases h2 with h2 | ⟨h2, h2'⟩
    · omega
    · exact Prod.ext (Fin.ext h1) (List.le_antisymm h2' h1')
theorem Bk.le_toH (x y : Bk.P) : (!(ltOf Bk.cmpP) y x) = Bk.leH (Bk.toH x) (Bk.toH y) := by
  unfold Bk.leH Bk.toH
  rw [Bool.eq_iff_iff, Bool.not_eq_true', Bk.lt_iff']
  simp only [Bool.or_eq_true, decide_eq_true_eq, Bool.and_eq_true, leB]
  constructor
  · rintro (h | ⟨h1, h2⟩)
    · exact .inl h
    · exact .inr ⟨h1.symm, h2⟩
  · rintro (h | ⟨h1, h2⟩)
    · exact .inl h
    · exact .inr ⟨h1.symm, h2⟩
set_option maxHeartbeats 1000000 in
/-- The closure of ordered. -/
theorem Bk.cmp_any (x y : Bk.P) (W : World) : Calls Tryz.prog 54 #[.agg (Bk.encP x).toArray, .agg (Bk.encP y).toArray] W fun e w' => e = .returned (.int .i64 (Bk.cmpP x y)) ∧ ∃ q os', w' = grow (W.drewN q) os' := by
  obtain ⟨⟨dx, hdx⟩, cx⟩ := x
  obtain ⟨⟨dy, hdy⟩, cy⟩ := y
  have hs := fun W => Tryz.strings_Compare ⟨cx.toArray⟩ ⟨cy.toArray⟩ W
  simp only at hs
  unfold Bk.cmpP Bk.encP Tx.v
  simp only [Fin.mk.injEq]
  by_cases h : dx = dy
  · subst h
    have u1 : ((dx : Int) != (dx : Int)) = false := by simp
    rw [if_pos rfl]
    generalize Lib.compareBytes cx cy = r at hs ⊢
    go_enter Tryz.func54, Tryz.ntmps54
    go_wp2_with (go_at_call 55; refine (hs _).mono ?_; clear hs; rintro e w' ⟨rfl, rfl⟩)
    go_ret
    exact ⟨rfl, 0, _, by rw [alloc_eq_grow, alloc_eq_grow, grow_grow]; rfl⟩
  · have u1 : ((dx : Int) != (dy : Int)) = true := by simp; omega
    rw [if_neg h]
    clear hs
    go_enter Tryz.func54, Tryz.ntmps54
    go_wp2_with fail
    go_ret
    exact ⟨rfl, 0, _, by rw [alloc_eq_grow, alloc_eq_grow, grow_grow]; rfl⟩
theorem Bk.flat_get : ∀ (l : List Bk.P) (t : Nat), t < l.length * 3 → (l.flatMap Bk.encP)[t]! = (Bk.encP l.toArray[t / 3]!)[t % 3]!
  | [], t, h => by simp at h
  | x :: l, 0, _ => by simp [Bk.encP]
  | x :: l, 1, _ => by simp [Bk.encP]
  | x :: l, 2, _ => by simp [Bk.encP]
  | x :: l, t + 3, h => by
    have ih := Bk.flat_get l t (by simp at h; omega)
    rw [show (t + 3) / 3 = t / 3 + 1 by omega, show (t + 3) % 3 = t % 3 by omega, List.flatMap_cons]
    have e1 : (Bk.encP x ++ l.flatMap Bk.encP)[t + 3]! = (l.flatMap Bk.encP)[t]! := by
      simp [Bk.encP]
    have e2 : (x :: l).toArray[t / 3 + 1]! = l.toArray[t / 3]! := by simp
    rw [e1, e2, ih]
theorem Bk.flatK_eq (l : List Bk.P) : flatK Bk.encP 3 l.toArray = (l.flatMap Bk.encP).toArray := by
  have hl : ∀ l : List Bk.P, (l.flatMap Bk.encP).length = l.length * 3 := by
    intro l
    induction l with
    | nil => rfl
    | cons x l ih => rw [List.flatMap_cons, List.length_append, ih, List.length_cons]; simp [Bk.encP]; omega
  refine ext_get! (by rw [size_flatK]; simp [hl]) fun t ht => ?_
  have ht' : t < l.toArray.size * 3 := by rwa [size_flatK] at ht
  rw [get_flatK _ _ _ _ ht']
  have := Bk.flat_get l t (by simpa using ht')
  rw [← this]
  simp
/-- Hits whose distances are small, as pairs. -/
def Bk.toP (h : Bk.H) : Bk.P := (Fin.ofNat 1025 h.d, h.c)
theorem Bk.toH_toP {F : List Bk.H} (h : ∀ x ∈ F, x.d ≤ 1024) : (F.map Bk.toP).map Bk.toH = F := by
  rw [List.map_map]
  refine (List.map_congr_left fun x hx => ?_).trans (List.map_id _)
  have hd := h x hx
  show Bk.toH (Bk.toP x) = x
  unfold Bk.toH Bk.toP
  have : (Fin.ofNat 1025 x.d).val = x.d := by simp [Fin.ofNat]; omega
  rw [this]
theorem Bk.flat_toH : ∀ l : List Bk.P, l.flatMap Bk.encP = Bk.hcs (l.map Bk.toH)
  | [] => rfl
  | x :: l => by
    unfold Bk.hcs
    rw [List.flatMap_cons, List.map_cons, List.flatMap_cons, Bk.flat_toH l]; rfl
theorem Bk.holds_id {w : World} {g n : Nat} {cur : Array Value} {e : TypeId} {xs : List Value} (hb : w.heap[g]? = some (.cells cur e (0, 0))) (hn : xs.length = n) (ht : cur.toList.take n = xs) : Holds id w g 0 xs.toArray := by
  intro j hj
  have hj' : j < xs.length := by simpa using hj
  refine ⟨?_, by simp [World.frozen?, hb]⟩
  have h1 : (cur.toList.take n)[j]? = xs[j]? := by rw [ht]
  rw [List.getElem?_take_of_lt (by omega)] at h1
  simp only [World.cell?, hb, Nat.zero_add]
  simp only [Option.isSome_none, Bool.false_eq_true, if_false]
  rw [← Array.getElem?_toList, h1]
  simp [hj']
theorem Bk.heap_id {w : World} {g n : Nat} {os : Array Obj} {cur : Array Value} {e : TypeId} {fr : Nat × Nat} (d : Array Value) (hb : w.heap[g]? = some (.cells cur e fr)) :
    (grow (putRow id (Sort.ahead w n) g 0 d) os).heap[g]? = some (.cells (putCells id 0 d cur) e fr) := by
  have hg : g < w.heap.size := (Array.getElem?_eq_some_iff.1 hb).1
  rw [heap_grow_old _ _ (by simpa using hg)]
  simp [putRow, mapBlock, Sort.ahead, Array.getElem?_modify, hb, onCells]
theorem Bk.grown_id {w : World} {g n : Nat} {os : Array Obj} (d : Array Value) : w.grownBy (grow (putRow id (Sort.ahead w n) g 0 d) os) (some g) := by
  refine ⟨rfl, rfl, rfl, by simp, fun k hk hne => ?_⟩
  rw [heap_grow_old _ _ (by simpa using hk)]
  have : g ≠ k := fun e => hne (by rw [e])
  simp [putRow, mapBlock, Sort.ahead, Array.getElem?_modify, this]
theorem Bk.take_id (cur : Array Value) (ts : List Value) (h : ts.length ≤ cur.size) : (putCells id 0 ts.toArray cur).toList.take ts.length = ts := by
  apply List.ext_getElem?
  intro j
  by_cases hj : j < ts.length
  · rw [List.getElem?_take_of_lt hj, Array.getElem?_toList]
    simp [putCells, hj, show j < cur.size by omega]
  · rw [List.getElem?_take_eq_none (by omega), List.getElem?_eq_none (by omega)]
/-- slices.SortFunc of a row of hits of the call's own, by ordered's closure. -/
theorem Bk.sortF {w : World} {B : Nat} {v : Value} {F : List Bk.H} (hrow : w.ownsRow B 61 3 v F.length (Bk.hcs F)) (hF : ∀ h ∈ F, h.d ≤ 1024) (hl : F.length < 4611686018427387904) :
    Calls Tryz.prog 53 #[v, .func (.func 54) #[] #[]] w fun e w' => e = .returned (.tuple #[]) ∧ w'.ownsRow B 61 3 v F.length (Bk.hcs (Bk.sortH F)) ∧ w.grownBy w' v.ownBlock := by
  rcases hrow.2 with ⟨rfl, hn0⟩ | ⟨g, cap, cur, rfl, hbase, hb, h1, h2, h3, h4⟩
  · obtain rfl : F = [] := List.length_eq_zero_iff.1 hn0
    refine (AnyF.slices_SortFunc_none Tryz.sortHit none 0 (.func (.func 54) #[] #[]) w).mono fun e w' ⟨a, b⟩ => ?_
    subst b
    exact ⟨a, ⟨by simp [Bk.sortH, Bk.hcs], Or.inl ⟨rfl, rfl⟩⟩, World.grownBy.refl _ _⟩
  · have hPF := Bk.toH_toP hF
    have hcs : (F.map Bk.toP).flatMap Bk.encP = Bk.hcs F := by rw [Bk.flat_toH, hPF]
    have hgl : g < w.heap.size := (Array.getElem?_eq_some_iff.1 hb).1
    have hH : HoldsK Bk.encP 3 w g 0 (F.map Bk.toP).toArray := by
      unfold HoldsK
      rw [Bk.flatK_eq, hcs]
      exact Bk.holds_id hb (Bk.hcs_len F) h4
    have eg : ∀ args w, (callFunc 54 args).run Tryz.prog w = .ok (.enter 54 args) w := enters_of Tryz.func54 (by kernel_rfl) rfl
    have hcon := AnyQ.slices_SortFunc_total Tryz.sortHit 3 Tryz.isAgg61 Tryz.sizeOf61 Bk.encP (fun _ => rfl) (fun x v hv => by simp [Bk.encP] at hv; rcases hv with rfl | rfl | rfl <;> rfl) Bk.cmpP Bk.swo 54 #[] g 0 cap (F.map Bk.toP).toArray w eg (fun _ _ _ _ x y => Bk.cmp_any x y _) hH hgl (by simpa using hl) Bk.total
    have hsz : (F.map Bk.toP).toArray.size = F.length := by simp
    rw [hsz] at hcon
    refine Calls.mono (P := Tryz.prog) hcon fun e w' ⟨a, n, os, b⟩ => ?_
    have hso : ((F.map Bk.toP).mergeSort fun x y => !(ltOf Bk.cmpP) y x).map Bk.toH = Bk.sortH F := by
      unfold Bk.sortH
      rw [List.map_mergeSort (s := Bk.leH) (fun a _ b _ => Bk.le_toH a b), hPF]
    have hfl : flatK Bk.encP 3 ((F.map Bk.toP).toArray.toList.mergeSort fun x y => !(ltOf Bk.cmpP) y x).toArray = (Bk.hcs (Bk.sortH F)).toArray := by
      rw [Bk.flatK_eq, Bk.flat_toH, hso]
    have hlen : (Bk.hcs (Bk.sortH F)).length = F.length * 3 := by rw [Bk.hcs_len]; simp [Bk.sortH]
    unfold sortWorldK putRowK at b
    rw [hfl] at b
    subst b
    refine ⟨a, ⟨hlen, .inr ⟨g, cap, _, rfl, hbase, Bk.heap_id _ hb, h1, h2, by simp [putCells, h3], ?_⟩⟩, Bk.grown_id _⟩
    rw [← hlen]
    exact Bk.take_id cur _ (by rw [hlen, h3]; exact Nat.mul_le_mul_right _ h1)
/-- ordered. -/
theorem Bk.ordered_any {w : World} {B : Nat} {v : Value} {F : List Bk.H} (hrow : w.ownsRow B 61 3 v F.length (Bk.hcs F)) (hF : ∀ h ∈ F, h.d ≤ 1024) (hl : F.length < 4611686018427387904) :
    Calls Tryz.prog 37 #[v] w fun e w' => e = .returned (.tuple #[]) ∧ w'.ownsRow B 61 3 v F.length (Bk.hcs (Bk.sortH F)) ∧ w.grownBy w' v.ownBlock := by
  have hs := Bk.sortF hrow hF hl
  clear hrow hF hl
  go_enter Tryz.func37, Tryz.ntmps37
  go_wp2_with (go_at_call 53; refine hs.mono ?_; clear hs; rintro e w' ⟨rfl, h1, h2⟩)
  go_end0
  exact ⟨rfl, h1, h2⟩
end Go.Proofs.YtikhahkmebkccaaGreatDoor
