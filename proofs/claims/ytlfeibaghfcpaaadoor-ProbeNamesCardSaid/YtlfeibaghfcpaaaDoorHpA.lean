/- A heap in a list, by an order: putting in and taking away, step by step. Plain Lean, no program in sight. Conditions: each theorem's own hypotheses. -/
import Derived.Test.YtlfeibaghfcpaaaDoorMem
namespace Go.Proofs.YtlfeibaghfcpaaaDoor
set_option linter.unusedVariables false
set_option linter.unusedSimpArgs false

/-- An order: 'stands behind'. -/
structure Hp.Ord {α : Type} (gt : α → α → Bool) : Prop where
  irrefl : ∀ a, gt a a = false
  trans : ∀ {a b c}, gt a b = true → gt b c = true → gt a c = true
  total : ∀ {a b}, a ≠ b → gt a b = true ∨ gt b a = true

namespace Hp
variable {α : Type} {gt : α → α → Bool}

theorem Ord.asymm (h : Ord gt) {a b : α} (h1 : gt a b = true) : gt b a = false := by
  cases h2 : gt b a with
  | false => rfl
  | true => exact absurd (h.trans h1 h2) (by rw [h.irrefl]; decide)
theorem Ord.le_trans (h : Ord gt) {a b c : α} (h1 : gt a b = false) (h2 : gt b c = false) : gt a c = false := by
  by_cases e : a = b
  · rw [e]; exact h2
  · rcases h.total e with h3 | h3
    · rw [h1] at h3; cases h3
    · by_cases e2 : b = c
      · rw [← e2]; exact h1
      · rcases h.total e2 with h4 | h4
        · rw [h2] at h4; cases h4
        · exact h.asymm (h.trans h4 h3)
theorem Ord.gt_of (h : Ord gt) {a b : α} (hab : a ≠ b) (h1 : gt a b = false) : gt b a = true := by
  rcases h.total hab with h2 | h2
  · rw [h1] at h2; cases h2
  · exact h2

/-- Two elements exchanged. -/
def swap (l : List α) (i j : Nat) (a b : α) : List α := (l.set i b).set j a
theorem swap_length (l : List α) (i j : Nat) (a b : α) : (swap l i j a b).length = l.length := by simp [swap]
theorem perm_set {l : List α} {i : Nat} {a : α} (h : l[i]? = some a) (b : α) : (b :: l).Perm (a :: l.set i b) := by
  induction l generalizing i with
  | nil => simp at h
  | cons x l ih =>
    cases i with
    | zero =>
      obtain rfl : x = a := by simpa using h
      exact List.Perm.swap _ _ _
    | succ i =>
      rw [List.set_cons_succ]
      exact (List.Perm.swap _ _ _).trans (((ih (by simpa using h)).cons x).trans (List.Perm.swap _ _ _))
theorem swap_perm {l : List α} {i j : Nat} {a b : α} (hi : l[i]? = some a) (hj : l[j]? = some b) : (swap l i j a b).Perm l := by
  by_cases e : i = j
  · subst e
    rw [hi] at hj
    obtain rfl : a = b := by simpa using hj
    unfold swap
    have h1 : (l.set i a) = l := by
      apply List.ext_getElem?
      intro k
      rw [List.getElem?_set]
      split
      · rename_i e
        subst e
        have : i < l.length := by
          rcases Nat.lt_or_ge i l.length with h | h
          · exact h
          · rw [List.getElem?_eq_none h] at hi; cases hi
        have h5 := hi
        rw [List.getElem?_eq_getElem this] at h5
        simp only [Option.some.injEq] at h5
        simp [this, h5]
      · rfl
    rw [h1, h1]
  · have h1 := perm_set hi b
    have h2 : (l.set i b)[j]? = some b := by rw [List.getElem?_set_ne e]; exact hj
    have h3 := perm_set h2 a
    exact ((List.perm_cons b).1 (h1.trans h3)).symm
theorem get_swap (l : List α) (i j : Nat) (a b : α) (hi : i < l.length) (hj : j < l.length) (k : Nat) : (swap l i j a b)[k]? = if k = j then some a else if k = i then some b else l[k]? := by
  unfold swap
  rw [List.getElem?_set, List.getElem?_set]
  by_cases h1 : k = j
  · subst h1
    simp [hj]
  · rw [if_neg (fun h => h1 h.symm), if_neg h1]
    by_cases h2 : k = i
    · subst h2
      simp [hi]
    · rw [if_neg (fun h => h2 h.symm), if_neg h2]

/-- A heap: nothing stands behind what it hangs under. -/
def Heap (gt : α → α → Bool) (l : List α) : Prop := ∀ k a b, 0 < k → l[k]? = some a → l[(k - 1) / 2]? = some b → gt a b = false
theorem Heap.nil : Heap gt ([] : List α) := fun k a b _ h => by simp at h
theorem Heap.top (h : Ord gt) {l : List α} (hl : Heap gt l) {t : α} (ht : l[0]? = some t) : ∀ (k : Nat) (a : α), l[k]? = some a → gt a t = false := by
  intro k
  induction k using Nat.strongRecOn with
  | ind k ih =>
    intro a ha
    by_cases e : k = 0
    · subst e
      rw [ht] at ha
      obtain rfl : t = a := by simpa using ha
      exact h.irrefl _
    · have hk : k < l.length := by
        rcases Nat.lt_or_ge k l.length with h | h
        · exact h
        · rw [List.getElem?_eq_none h] at ha; cases ha
      have hp : (k - 1) / 2 < l.length := by omega
      have hb : l[(k - 1) / 2]? = some l[(k - 1) / 2] := List.getElem?_eq_getElem hp
      exact h.le_trans (hl k a _ (by omega) ha hb) (ih _ (by omega) _ hb)
theorem Heap.mem_top (h : Ord gt) {l : List α} (hl : Heap gt l) {t : α} (ht : l[0]? = some t) {a : α} (ha : a ∈ l) : gt a t = false := by
  obtain ⟨k, hk⟩ := List.mem_iff_getElem?.1 ha
  exact hl.top h ht k a hk

/-- A heap but for place i, whose element may stand behind what it hangs under. -/
def Up (gt : α → α → Bool) (l : List α) (i : Nat) : Prop :=
  (∀ k a b, 0 < k → k ≠ i → l[k]? = some a → l[(k - 1) / 2]? = some b → gt a b = false) ∧
  (∀ k a b, 0 < k → 0 < i → (k - 1) / 2 = i → l[k]? = some a → l[(i - 1) / 2]? = some b → gt a b = false)
theorem Up.start {l : List α} (h : Heap gt l) (x : α) : Up gt (l ++ [x]) l.length := by
  refine ⟨fun k a b hk hn ha hb => ?_, fun k a b hk hi he ha hb => ?_⟩
  · have h1 : k < (l ++ [x]).length := by
      rcases Nat.lt_or_ge k (l ++ [x]).length with h | h
      · exact h
      · rw [List.getElem?_eq_none h] at ha; cases ha
    rw [List.length_append, List.length_singleton] at h1
    rw [List.getElem?_append_left (by omega)] at ha hb
    exact h k a b hk ha hb
  · have h1 : k < (l ++ [x]).length := by
      rcases Nat.lt_or_ge k (l ++ [x]).length with h | h
      · exact h
      · rw [List.getElem?_eq_none h] at ha; cases ha
    rw [List.length_append, List.length_singleton] at h1
    omega
theorem Up.stop {l : List α} {i : Nat} (h : Up gt l i) (hi : ∀ a b, 0 < i → l[i]? = some a → l[(i - 1) / 2]? = some b → gt a b = false) : Heap gt l := fun k a b hk ha hb => by
  by_cases e : k = i
  · subst e
    exact hi a b hk ha hb
  · exact h.1 k a b hk e ha hb
theorem Up.step (o : Ord gt) {l : List α} {i : Nat} (h : Up gt l i) (hi : 0 < i) {a b : α} (ha : l[i]? = some a) (hb : l[(i - 1) / 2]? = some b) (hgt : gt a b = true) : Up gt (swap l i ((i - 1) / 2) a b) ((i - 1) / 2) := by
  have li : i < l.length := by
    rcases Nat.lt_or_ge i l.length with h | h
    · exact h
    · rw [List.getElem?_eq_none h] at ha; cases ha
  have lp : (i - 1) / 2 < l.length := by omega
  have hg := get_swap l i ((i - 1) / 2) a b li lp
  refine ⟨fun k x y hk hn hx hy => ?_, fun k x y hk hi2 he hx hy => ?_⟩
  · rw [hg] at hx hy
    rw [if_neg hn] at hx
    by_cases e1 : k = i
    · subst e1
      rw [if_pos rfl] at hx
      rw [if_pos rfl] at hy
      obtain rfl : b = x := by simpa using hx
      obtain rfl : a = y := by simpa using hy
      exact o.asymm hgt
    · rw [if_neg e1] at hx
      by_cases e2 : (k - 1) / 2 = (i - 1) / 2
      · rw [if_pos e2] at hy
        obtain rfl : a = y := by simpa using hy
        exact o.le_trans (h.1 k x b hk e1 hx (by rw [e2]; exact hb)) (o.asymm hgt)
      · rw [if_neg e2] at hy
        by_cases e3 : (k - 1) / 2 = i
        · rw [if_pos e3] at hy
          obtain rfl : b = y := by simpa using hy
          exact h.2 k x b hk hi e3 hx hb
        · rw [if_neg e3] at hy
          exact h.1 k x y hk e1 hx hy
  · rw [hg] at hx hy
    have hkn : k ≠ (i - 1) / 2 := by omega
    rw [if_neg hkn] at hx
    have hp1 : ((i - 1) / 2 - 1) / 2 ≠ (i - 1) / 2 := by omega
    have hp2 : ((i - 1) / 2 - 1) / 2 ≠ i := by omega
    rw [if_neg hp1, if_neg hp2] at hy
    have hby := h.1 ((i - 1) / 2) b y hi2 (by omega) hb hy
    by_cases e1 : k = i
    · rw [if_pos e1] at hx
      obtain rfl : b = x := by simpa using hx
      exact hby
    · rw [if_neg e1] at hx
      exact o.le_trans (h.1 k x b hk e1 hx (by rw [he]; exact hb)) hby

/-- A heap but for place i, whose element may stand ahead of what hangs under it. -/
def Down (gt : α → α → Bool) (l : List α) (i : Nat) : Prop :=
  (∀ k a b, 0 < k → (k - 1) / 2 ≠ i → l[k]? = some a → l[(k - 1) / 2]? = some b → gt a b = false) ∧
  (∀ k a b, 0 < k → 0 < i → (k - 1) / 2 = i → l[k]? = some a → l[(i - 1) / 2]? = some b → gt a b = false)
theorem Down.stop {l : List α} {i : Nat} (h : Down gt l i) (hi : ∀ k a b, 0 < k → (k - 1) / 2 = i → l[k]? = some a → l[i]? = some b → gt a b = false) : Heap gt l := fun k a b hk ha hb => by
  by_cases e : (k - 1) / 2 = i
  · exact hi k a b hk e ha (by rw [← e]; exact hb)
  · exact h.1 k a b hk e ha hb
theorem Down.step (o : Ord gt) {l : List α} {i j : Nat} (h : Down gt l i) (hj : 0 < j) (hji : (j - 1) / 2 = i) {a b : α} (ha : l[i]? = some a) (hb : l[j]? = some b) (hgt : gt b a = true)
    (hbig : ∀ k x, 0 < k → (k - 1) / 2 = i → l[k]? = some x → gt x b = false) : Down gt (swap l i j a b) j := by
  have li : i < l.length := by
    rcases Nat.lt_or_ge i l.length with h | h
    · exact h
    · rw [List.getElem?_eq_none h] at ha; cases ha
  have lj : j < l.length := by
    rcases Nat.lt_or_ge j l.length with h | h
    · exact h
    · rw [List.getElem?_eq_none h] at hb; cases hb
  have hg := get_swap l i j a b li lj
  have hij : i ≠ j := by omega
  refine ⟨fun k x y hk hn hx hy => ?_, fun k x y hk hi2 he hx hy => ?_⟩
  · rw [hg] at hx hy
    rw [if_neg hn] at hy
    by_cases e1 : k = j
    · subst e1
      rw [if_pos rfl] at hx
      obtain rfl : a = x := by simpa using hx
      rw [if_pos hji] at hy
      obtain rfl : b = y := by simpa using hy
      exact o.asymm hgt
    · rw [if_neg e1] at hx
      by_cases e2 : k = i
      · subst e2
        rw [if_pos rfl] at hx
        obtain rfl : b = x := by simpa using hx
        rw [if_neg (by omega)] at hy
        exact h.2 j b y hj hk hji hb hy
      · rw [if_neg e2] at hx
        by_cases e3 : (k - 1) / 2 = i
        · rw [if_pos e3] at hy
          obtain rfl : b = y := by simpa using hy
          exact hbig k x hk e3 hx
        · rw [if_neg e3] at hy
          exact h.1 k x y hk e3 hx hy
  · rw [hg] at hx hy
    rw [if_neg (by omega), if_neg (by omega)] at hx
    rw [if_neg (by omega), if_pos hji] at hy
    obtain rfl : b = y := by simpa using hy
    exact h.1 k x b hk (by omega) hx (by rw [he]; exact hb)

/-- The top taken away: the last one in its place. -/
theorem Down.start {l : List α} (h : Heap gt l) {x : α} (hx : l[l.length - 1]? = some x) : Down gt ((l.set 0 x).take (l.length - 1)) 0 := by
  refine ⟨fun k a b hk hn ha hb => ?_, fun k a b hk hi => absurd hi (by decide)⟩
  rw [List.getElem?_take] at ha hb
  split at ha
  · split at hb
    · rw [List.getElem?_set_ne (by omega)] at ha hb
      exact h k a b hk ha hb
    · cases hb
  · cases ha
theorem drop_perm {l : List α} {t x : α} (ht : l[0]? = some t) (hx : l[l.length - 1]? = some x) : (t :: (l.set 0 x).take (l.length - 1)).Perm l := by
  cases l with
  | nil => simp at ht
  | cons y l =>
    obtain rfl : y = t := by simpa using ht
    rw [List.set_cons_zero]
    cases hl : l with
    | nil => simp
    | cons z l' =>
      have hlen : l.length = l'.length + 1 := by rw [hl]; rfl
      rw [← hl]
      rw [List.length_cons, Nat.add_sub_cancel] at *
      have e1 : (x :: l).take l.length = x :: l.take l'.length := by rw [hlen, List.take_succ_cons]
      rw [e1]
      refine List.Perm.cons _ ?_
      have e2 : l = l.take l'.length ++ [x] := by
        apply List.ext_getElem?
        intro k
        have hx2 : l[l'.length]? = some x := by
          rw [hlen] at hx
          simpa using hx
        rcases Nat.lt_trichotomy k l'.length with h | h | h
        · rw [List.getElem?_append_left (by rw [List.length_take]; omega), List.getElem?_take, if_pos h]
        · have hm : (l.take l'.length).length = l'.length := by rw [List.length_take]; omega
          rw [List.getElem?_append_right (by rw [hm]; omega), hm, h, Nat.sub_self, hx2]
          rfl
        · rw [List.getElem?_eq_none (by omega), List.getElem?_eq_none (by rw [List.length_append, List.length_take, List.length_singleton]; omega)]
      exact (List.perm_append_singleton x _).symm.trans (List.Perm.of_eq e2.symm)

/-- The first k of all that was handed in, in whatever order. -/
structure First (gt : α → α → Bool) (k : Nat) (A l : List α) : Prop where
  rest : ∃ r, (l ++ r).Perm A ∧ ∀ x ∈ l, ∀ y ∈ r, gt y x = true
  size : l.length = min k A.length
theorem First.nil (k : Nat) : First gt k ([] : List α) [] := ⟨⟨[], List.Perm.refl _, fun x hx => absurd hx List.not_mem_nil⟩, by simp⟩
theorem First.perm {k : Nat} {A l l' : List α} (h : First gt k A l) (hp : l'.Perm l) : First gt k A l' := by
  obtain ⟨⟨r, h1, h2⟩, h3⟩ := h
  exact ⟨⟨r, (hp.append_right r).trans h1, fun x hx => h2 x (hp.mem_iff.1 hx)⟩, by rw [hp.length_eq, h3]⟩
theorem First.permA {k : Nat} {A B l : List α} (h : First gt k A l) (hp : A.Perm B) : First gt k B l := by
  obtain ⟨⟨r, h1, h2⟩, h3⟩ := h
  exact ⟨⟨r, h1.trans hp, h2⟩, by rw [h3, hp.length_eq]⟩
theorem First.mem {k : Nat} {A l : List α} (h : First gt k A l) {x : α} (hx : x ∈ l) : x ∈ A := by
  obtain ⟨⟨r, h1, h2⟩, h3⟩ := h
  exact h1.mem_iff.1 (List.mem_append_left _ hx)
/-- Handed in and not taken: there are k, and all stand ahead of it. -/
theorem First.not {k : Nat} {A l : List α} (h : First gt k A l) {x : α} (hk : l.length = k) (hx : ∀ y ∈ l, gt x y = true) : First gt k (x :: A) l := by
  obtain ⟨⟨r, h1, h2⟩, h3⟩ := h
  refine ⟨⟨x :: r, List.perm_middle.trans (h1.cons x), fun y hy z hz => ?_⟩, ?_⟩
  · rcases List.mem_cons.1 hz with rfl | hz
    · exact hx y hy
    · exact h2 y hy z hz
  · have : l.length ≤ A.length := by rw [h3]; exact Nat.min_le_right _ _
    rw [hk, List.length_cons]
    omega
/-- Taken, and there is room. -/
theorem First.room {k : Nat} {A l : List α} (h : First gt k A l) (x : α) (hk : l.length < k) : First gt k (x :: A) (x :: l) := by
  obtain ⟨⟨r, h1, h2⟩, h3⟩ := h
  have hl := h1.length_eq
  rw [List.length_append] at hl
  have hr : r = [] := List.eq_nil_of_length_eq_zero (by omega)
  subst hr
  refine ⟨⟨[], by simpa using h1, fun _ _ y hy => absurd hy List.not_mem_nil⟩, by simp only [List.length_cons]; omega⟩
/-- Taken, and the last one goes. -/
theorem First.full (o : Ord gt) {k : Nat} {A l l' : List α} (h : First gt k A l) {x t : α} (hk : l.length = k) (hn : l.Nodup) (hxl : x ∉ l) (hp : (t :: l').Perm (x :: l)) (ht : ∀ y ∈ x :: l, gt y t = false) : First gt k (x :: A) l' := by
  obtain ⟨⟨r, h1, h2⟩, h3⟩ := h
  have hnx : (x :: l).Nodup := List.nodup_cons.2 ⟨hxl, hn⟩
  have hnt : (t :: l').Nodup := hp.nodup_iff.2 hnx
  have htl : t ∉ l' := (List.nodup_cons.1 hnt).1
  have htm : t ∈ x :: l := hp.mem_iff.1 List.mem_cons_self
  have below : ∀ y ∈ l', gt t y = true := fun y hy => by
    have hym : y ∈ x :: l := hp.mem_iff.1 (List.mem_cons_of_mem _ hy)
    exact o.gt_of (fun e => htl (e ▸ hy)) (ht y hym)
  refine ⟨⟨t :: r, ?_, fun y hy z hz => ?_⟩, ?_⟩
  · exact List.perm_middle.trans ((hp.append_right r).trans (h1.cons x))
  · rcases List.mem_cons.1 hz with rfl | hz
    · exact below y hy
    · have hym : y ∈ x :: l := hp.mem_iff.1 (List.mem_cons_of_mem _ hy)
      rcases List.mem_cons.1 hym with rfl | hyl
      · rcases List.mem_cons.1 htm with e | htl2
        · exact absurd hy (e ▸ htl)
        · exact o.trans (h2 t htl2 z hz) (below _ hy)
      · exact h2 y hyl z hz
  · have e1 := hp.length_eq
    simp only [List.length_cons] at e1 ⊢
    omega
/-- Sorted, they are the beginning of all of them sorted. -/
theorem First.take (o : Ord gt) {k : Nat} {A l S F : List α} (h : First gt k A l) (hS : S.Perm l) (hSs : S.Pairwise fun a b => gt b a = true) (hF : F.Perm A) (hFs : F.Pairwise fun a b => gt b a = true) : S = F.take k := by
  obtain ⟨⟨r, h1, h2⟩, h3⟩ := h
  have hlen : S.length = min k F.length := by rw [hS.length_eq, h3, hF.length_eq]
  let le : α → α → Bool := fun a b => !gt a b
  have let_ : ∀ a b c, le a b = true → le b c = true → le a c = true := fun a b c h1 h2 => by
    simp only [le, Bool.not_eq_true'] at *
    exact o.le_trans h1 h2
  have leo : ∀ a b, (le a b || le b a) = true := fun a b => by
    simp only [le]
    cases h1 : gt a b with
    | false => simp
    | true => simp [o.asymm h1]
  have hr := List.mergeSort_perm r le
  have hrs := List.pairwise_mergeSort let_ leo r
  have hall : F = S ++ r.mergeSort le := by
    refine List.Perm.eq_of_pairwise (le := fun a b => le a b = true) (fun a b _ _ k1 k2 => ?_) (hFs.imp fun {a b} h => by simp [le, o.asymm h]) (List.pairwise_append.2 ⟨hSs.imp fun {a b} h => by simp [le, o.asymm h], hrs, fun a ha b hb => ?_⟩) ?_
    · simp only [le, Bool.not_eq_true'] at k1 k2
      by_cases e : a = b
      · exact e
      · rcases o.total e with h | h
        · rw [k1] at h; cases h
        · rw [k2] at h; cases h
    · simp only [le]
      rw [o.asymm (h2 a (hS.mem_iff.1 ha) b (hr.mem_iff.1 hb))]
      rfl
    · exact hF.trans (h1.symm.trans ((hS.symm.append_right r).trans (hr.symm.append_left S)))
  have hfl := congrArg List.length hall
  rw [List.length_append] at hfl
  rw [hall, List.take_append]
  have : k - S.length = 0 ∨ (r.mergeSort le) = [] := by
    rcases Nat.lt_or_ge S.length k with h | h
    · exact .inr (List.eq_nil_of_length_eq_zero (by omega))
    · exact .inl (by omega)
  rcases this with e | e
  · rw [e, List.take_zero, List.append_nil, List.take_of_length_le (by omega)]
  · rw [e, List.take_nil, List.append_nil, List.take_of_length_le (by omega)]
end Hp
end Go.Proofs.YtlfeibaghfcpaaaDoor
