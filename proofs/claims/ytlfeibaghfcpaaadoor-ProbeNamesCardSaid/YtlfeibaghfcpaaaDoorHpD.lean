/- Rows of hits sorted by best.order; the closure of best.newPile. Conditions: each theorem's own hypotheses. -/
import Derived.Test.YtlfeibaghfcpaaaDoorHpC
import Derived.Maps.AppendAt
namespace Go.Proofs.YtlfeibaghfcpaaaDoor
open Go.RowKit Go.Maps Go.Sort Go.Shelf
set_option linter.unusedVariables false
set_option linter.unusedSimpArgs false

theorem Hp.lt_gt (x y : Pb.H) : ltOf Pb.cmp x y = Pb.gt y x := by
  unfold ltOf
  rw [Bool.eq_iff_iff, Pb.gt_iff, decide_eq_true_iff]
  unfold Pb.cmp Pb.cmpI Pb.cmpS
  rcases Int.lt_trichotomy x.d y.d with h | h | h
  · simp only [if_pos h]; simp; omega
  · rw [if_neg (show ¬ x.d < y.d by omega), if_neg (show ¬ y.d < x.d by omega)]
    rcases Int.lt_trichotomy x.id y.id with h2 | h2 | h2
    · simp only [if_pos h2]; simp; omega
    · rw [if_neg (show ¬ x.id < y.id by omega), if_neg (show ¬ y.id < x.id by omega)]
      by_cases h3 : x.c < y.c
      · simp [if_pos h3, h, h2, h3]
      · rw [if_neg h3]
        by_cases h4 : y.c < x.c
        · simp [if_pos h4, h, h2, h3]
        · simp [if_neg h4, h, h2, h3]
    · rw [if_neg (show ¬ x.id < y.id by omega), if_pos h2]; simp; omega
  · rw [if_neg (show ¬ x.d < y.d by omega), if_pos h]; simp; omega
theorem Hp.swo : SWO (ltOf Pb.cmp) where
  irrefl x := by rw [Hp.lt_gt]; exact Pb.ord.irrefl x
  trans x y z h1 h2 := by
    rw [Hp.lt_gt] at *
    exact Pb.ord.trans h2 h1
  ntrans x y z h1 h2 := by
    rw [Hp.lt_gt] at *
    exact Pb.ord.le_trans h2 h1
theorem Hp.total (x y : Pb.H) (h1 : ltOf Pb.cmp x y = false) (h2 : ltOf Pb.cmp y x = false) : x = y := by
  rw [Hp.lt_gt] at *
  by_cases e : x = y
  · exact e
  · rcases Pb.ord.total e with h | h
    · rw [h] at h2; cases h2
    · rw [h] at h1; cases h1
/-- Hits' cells; hits in order. -/
def Hp.cs (F : List Pb.H) : List Value := F.flatMap Hp.enc
theorem Hp.cs_len : ∀ F, (Hp.cs F).length = F.length * 3
  | [] => rfl
  | h :: F => by unfold Hp.cs; rw [List.flatMap_cons, List.length_append, List.length_cons]; have := Hp.cs_len F; unfold Hp.cs at this; rw [this]; simp [Hp.enc]; omega
theorem Hp.cs_snoc (F : List Pb.H) (h : Pb.H) : Hp.cs (F ++ [h]) = Hp.cs F ++ Hp.enc h := by simp [Hp.cs]
def Hp.sort (F : List Pb.H) : List Pb.H := F.mergeSort fun x y => !Pb.gt x y
theorem Hp.sort_perm (F : List Pb.H) : (Hp.sort F).Perm F := List.mergeSort_perm _ _
theorem Hp.sort_sorted {F : List Pb.H} (hn : F.Nodup) : (Hp.sort F).Pairwise fun a b => Pb.gt b a = true := by
  have h := List.pairwise_mergeSort (le := fun x y => !Pb.gt x y) (fun a b c h1 h2 => by
    simp only [Bool.not_eq_true'] at *
    exact Pb.ord.le_trans h1 h2) (fun a b => by
    cases h1 : Pb.gt a b with
    | false => simp
    | true => simp [Pb.ord.asymm h1]) F
  have hn2 : (Hp.sort F).Nodup := (Hp.sort_perm F).nodup_iff.2 hn
  refine (h.and hn2).imp fun {a b} ⟨h1, h2⟩ => ?_
  simp only [Bool.not_eq_true'] at h1
  exact Pb.ord.gt_of h2 h1
theorem Hp.flat_get : ∀ (l : List Pb.H) (t : Nat), t < l.length * 3 → (l.flatMap Hp.enc)[t]! = (Hp.enc l.toArray[t / 3]!)[t % 3]!
  | [], t, h => by simp at h
  | x :: l, 0, _ => by simp [Hp.enc]
  | x :: l, 1, _ => by simp [Hp.enc]
  | x :: l, 2, _ => by simp [Hp.enc]
  | x :: l, t + 3, h => by
    have ih := Hp.flat_get l t (by simp at h; omega)
    rw [show (t + 3) / 3 = t / 3 + 1 by omega, show (t + 3) % 3 = t % 3 by omega, List.flatMap_cons]
    have e1 : (Hp.enc x ++ l.flatMap Hp.enc)[t + 3]! = (l.flatMap Hp.enc)[t]! := by
      simp [Hp.enc]
    have e2 : (x :: l).toArray[t / 3 + 1]! = l.toArray[t / 3]! := by simp
    rw [e1, e2, ih]
theorem Hp.flatK_eq (l : List Pb.H) : flatK Hp.enc 3 l.toArray = (l.flatMap Hp.enc).toArray := by
  have hl : ∀ l : List Pb.H, (l.flatMap Hp.enc).length = l.length * 3 := Hp.cs_len
  refine ext_get! (by rw [size_flatK]; simp [hl]) fun t ht => ?_
  have ht' : t < l.toArray.size * 3 := by rwa [size_flatK] at ht
  rw [get_flatK _ _ _ _ ht']
  have := Hp.flat_get l t (by simpa using ht')
  rw [← this]
  simp
theorem Hp.holds_id {w : World} {g n : Nat} {cur : Array Value} {e : TypeId} {xs : List Value} (hb : w.heap[g]? = some (.cells cur e (0, 0))) (hn : xs.length = n) (ht : cur.toList.take n = xs) : Holds id w g 0 xs.toArray := by
  intro j hj
  have hj' : j < xs.length := by simpa using hj
  refine ⟨?_, by simp [World.frozen?, hb]⟩
  have h1 : (cur.toList.take n)[j]? = xs[j]? := by rw [ht]
  rw [List.getElem?_take_of_lt (by omega)] at h1
  simp only [World.cell?, hb, Nat.zero_add]
  simp only [Option.isSome_none, Bool.false_eq_true, if_false]
  rw [← Array.getElem?_toList, h1]
  simp [hj']
theorem Hp.heap_id {w : World} {g n : Nat} {os : Array Obj} {cur : Array Value} {e : TypeId} {fr : Nat × Nat} (d : Array Value) (hb : w.heap[g]? = some (.cells cur e fr)) :
    (grow (putRow id (Sort.ahead w n) g 0 d) os).heap[g]? = some (.cells (putCells id 0 d cur) e fr) := by
  have hg : g < w.heap.size := (Array.getElem?_eq_some_iff.1 hb).1
  rw [heap_grow_old _ _ (by simpa using hg)]
  simp [putRow, mapBlock, Sort.ahead, Array.getElem?_modify, hb, onCells]
theorem Hp.grown_id {w : World} {g n : Nat} {os : Array Obj} (d : Array Value) : w.grownBy (grow (putRow id (Sort.ahead w n) g 0 d) os) (some g) := by
  refine ⟨rfl, rfl, rfl, by simp, fun k hk hne => ?_⟩
  rw [heap_grow_old _ _ (by simpa using hk)]
  have : g ≠ k := fun e => hne (by rw [e])
  simp [putRow, mapBlock, Sort.ahead, Array.getElem?_modify, this]
theorem Hp.take_id (cur : Array Value) (ts : List Value) (h : ts.length ≤ cur.size) : (putCells id 0 ts.toArray cur).toList.take ts.length = ts := by
  apply List.ext_getElem?
  intro j
  by_cases hj : j < ts.length
  · rw [List.getElem?_take_of_lt hj, Array.getElem?_toList]
    simp [putCells, hj, show j < cur.size by omega]
  · rw [List.getElem?_take_eq_none (by omega), List.getElem?_eq_none (by omega)]
/-- slices.SortFunc of a row of hits of the call's own, by order. -/
theorem Hp.sortF {w : World} {B : Nat} {v : Value} {F : List Pb.H} (hrow : w.ownsRow B 50 3 v F.length (Hp.cs F)) (hl : F.length < 4611686018427387904) :
    Calls Tryd.prog 44 #[v, .func (.func 34) #[] #[]] w fun e w' => e = .returned (.tuple #[]) ∧ w'.ownsRow B 50 3 v F.length (Hp.cs (Hp.sort F)) ∧ w.grownBy w' v.ownBlock := by
  rcases hrow.2 with ⟨rfl, hn0⟩ | ⟨g, cap, cur, rfl, hbase, hb, h1, h2, h3, h4⟩
  · obtain rfl : F = [] := List.length_eq_zero_iff.1 hn0
    refine (AnyF.slices_SortFunc_none Tryd.sortHit none 0 (.func (.func 34) #[] #[]) w).mono fun e w' ⟨a, b⟩ => ?_
    subst b
    exact ⟨a, ⟨by simp [Hp.sort, Hp.cs], Or.inl ⟨rfl, rfl⟩⟩, World.grownBy.refl _ _⟩
  · have hgl : g < w.heap.size := (Array.getElem?_eq_some_iff.1 hb).1
    have hH : HoldsK Hp.enc 3 w g 0 F.toArray := by
      unfold HoldsK
      rw [Hp.flatK_eq]
      exact Hp.holds_id hb (Hp.cs_len F) h4
    have eg : ∀ args w, (callFunc 34 args).run Tryd.prog w = .ok (.enter 34 args) w := enters_of Tryd.func34 (by kernel_rfl) rfl
    have hcon := AnyQ.slices_SortFunc_total Tryd.sortHit 3 Tryd.isAgg50 Tryd.sizeOf50 Hp.enc (fun _ => rfl) (fun x v hv => by simp [Hp.enc] at hv; rcases hv with rfl | rfl | rfl <;> rfl) Pb.cmp Hp.swo 34 #[] g 0 cap F.toArray w eg (fun _ _ _ _ x y => Hp.order_any x y _) hH hgl (by simpa using hl) Hp.total
    have hsz : F.toArray.size = F.length := by simp
    rw [hsz] at hcon
    refine Calls.mono (P := Tryd.prog) hcon fun e w' ⟨a, n, os, b⟩ => ?_
    have hso : (F.mergeSort fun x y => !(ltOf Pb.cmp) y x) = Hp.sort F := by
      unfold Hp.sort
      congr 1
      funext x y
      rw [Hp.lt_gt]
    have hfl : flatK Hp.enc 3 (F.toArray.toList.mergeSort fun x y => !(ltOf Pb.cmp) y x).toArray = (Hp.cs (Hp.sort F)).toArray := by
      rw [Hp.flatK_eq, ← hso]; rfl
    have hlen : (Hp.cs (Hp.sort F)).length = F.length * 3 := by rw [Hp.cs_len]; simp [Hp.sort]
    unfold sortWorldK putRowK at b
    rw [hfl] at b
    subst b
    refine ⟨a, ⟨hlen, .inr ⟨g, cap, _, rfl, hbase, Hp.heap_id _ hb, h1, h2, by simp [putCells, h3], ?_⟩⟩, Hp.grown_id _⟩
    rw [← hlen]
    exact Hp.take_id cur _ (by rw [hlen, h3]; exact Nat.mul_le_mul_right _ h1)
theorem Hp.below_grow {B : Nat} {w : World} (hB : B ≤ w.heap.size) (n : Nat) (os : Array Obj) : Below B w (grow (w.drewN n) os) := by
  refine ⟨rfl, rfl, rfl, by simp, fun k hk => ?_⟩
  rw [heap_grow_old _ _ (by simp; omega)]
  rfl
/-- The closure of newPile: does the one stand behind the other? -/
theorem Hp.less_any (x y : Pb.H) (W : World) : Calls Tryd.prog 39 #[.agg (Hp.enc x).toArray, .agg (Hp.enc y).toArray] W fun e w' => e = .returned (.bool (Pb.gt x y)) ∧ Below W.heap.size W w' := by
  have ho := fun WW => Hp.order_any x y WW
  unfold Pb.gt
  generalize Pb.cmp x y = r at ho ⊢
  obtain ⟨dx, ix, cx⟩ := x
  obtain ⟨dy, iy, cy⟩ := y
  unfold Hp.enc Tx.v at *
  simp only at ho ⊢
  have HO := Lib.hid ho
  clear ho
  generalize (⟨cx.toArray⟩ : ByteArray) = bx at HO ⊢
  generalize (⟨cy.toArray⟩ : ByteArray) = by_ at HO ⊢
  have a1 : Blk ((W.alloc (.cells #[.int .i64 dx, .int .i64 ix, .string bx] 50)).alloc (.cells #[.int .i64 dy, .int .i64 iy, .string by_] 50)) W.heap.size 50 #[.int .i64 dx, .int .i64 ix, .string bx] := (Blk.new W _ _).alloc _
  have a2 : Blk ((W.alloc (.cells #[.int .i64 dx, .int .i64 ix, .string bx] 50)).alloc (.cells #[.int .i64 dy, .int .i64 iy, .string by_] 50)) (W.heap.size + 1) 50 #[.int .i64 dy, .int .i64 iy, .string by_] := by
    have := Blk.new (W.alloc (.cells #[.int .i64 dx, .int .i64 ix, .string bx] 50)) 50 #[.int .i64 dy, .int .i64 iy, .string by_]
    rwa [World.size_alloc] at this
  have c0 := a1.cell 0
  have c1 := a1.cell 1
  have c2 := a1.cell 2
  have c3 := a2.cell 0
  have c4 := a2.cell 1
  have c5 := a2.cell 2
  go_enter Tryd.func39, Tryd.ntmps39
  go_wp2_with (go_at_call 34; refine (HO.out _).mono ?_; rintro e w' ⟨rfl, q, os, rfl⟩)
  go_ret
  refine ⟨rfl, ?_⟩
  exact (((Below.refl W.heap.size W).alloc (Nat.le_refl _) (.cells #[.int .i64 dx, .int .i64 ix, .string bx] 50)).alloc (by simp) (.cells #[.int .i64 dy, .int .i64 iy, .string by_] 50)).trans (Hp.below_grow (by simp; omega) _ _)
end Go.Proofs.YtlfeibaghfcpaaaDoor
