/- What the searches answer. Conditions: each theorem's own hypotheses. -/
import Derived.Test.YtikhahkmebkccaaGreatDoorBkAC
namespace Go.Proofs.YtikhahkmebkccaaGreatDoor
open Go.RowKit Go.Maps Go.Sort Go.Shelf
set_option linter.unusedVariables false
set_option linter.unusedSimpArgs false

theorem Bk.leH_iff (a b : Bk.H) : Bk.leH a b = true ↔ (a.d < b.d ∨ (a.d = b.d ∧ a.c ≤ b.c)) := by
  unfold Bk.leH leB
  simp
theorem Bk.leH_trans (a b c : Bk.H) (h1 : Bk.leH a b = true) (h2 : Bk.leH b c = true) : Bk.leH a c = true := by
  rw [Bk.leH_iff] at *
  rcases h1 with h1 | ⟨h1, h1'⟩ <;> rcases h2 with h2 | ⟨h2, h2'⟩
  · exact .inl (by omega)
  · exact .inl (by omega)
  · exact .inl (by omega)
  · exact .inr ⟨by omega, List.le_trans h1' h2'⟩
theorem Bk.leH_total (a b : Bk.H) : (Bk.leH a b || Bk.leH b a) = true := by
  rw [Bool.or_eq_true, Bk.leH_iff, Bk.leH_iff]
  rcases Nat.lt_trichotomy a.d b.d with h | h | h
  · exact .inl (.inl h)
  · rcases List.le_total a.c b.c with h' | h'
    · exact .inl (.inr ⟨h, h'⟩)
    · exact .inr (.inr ⟨h.symm, h'⟩)
  · exact .inr (.inl h)
theorem Bk.leH_anti (a b : Bk.H) (h1 : Bk.leH a b = true) (h2 : Bk.leH b a = true) : a = b := by
  rw [Bk.leH_iff] at *
  obtain ⟨ad, ac⟩ := a
  obtain ⟨bd, bc⟩ := b
  simp only at h1 h2
  rcases h1 with h1 | ⟨h1, h1'⟩ <;> rcases h2 with h2 | ⟨h2, h2'⟩
  · omega
  · omega
  · omega
  · rw [h1, List.le_antisymm h1' h2']
theorem Bk.sortH_sorted (l : List Bk.H) : (Bk.sortH l).Pairwise fun a b => Bk.leH a b = true := List.pairwise_mergeSort Bk.leH_trans Bk.leH_total l
theorem Bk.sortH_is (l : List Bk.H) : (Bk.sortH l).Perm l := List.mergeSort_perm _ _
/-- Sorted lists of the same hits are one. -/
theorem Bk.sorted_one {a b : List Bk.H} (ha : a.Pairwise fun a b => Bk.leH a b = true) (hb : b.Pairwise fun a b => Bk.leH a b = true) (hp : a.Perm b) : a = b :=
  List.Perm.eq_of_pairwise (le := fun a b => Bk.leH a b = true) (fun x y _ _ h1 h2 => Bk.leH_anti x y h1 h2) ha hb hp
theorem Bk.sortH_perm {a b : List Bk.H} (hp : a.Perm b) : Bk.sortH a = Bk.sortH b := Bk.sorted_one (Bk.sortH_sorted a) (Bk.sortH_sorted b) ((Bk.sortH_is a).trans (hp.trans (Bk.sortH_is b).symm))
theorem Bk.sortH_filter (l : List Bk.H) (p : Bk.H → Bool) : Bk.sortH (l.filter p) = (Bk.sortH l).filter p :=
  Bk.sorted_one (Bk.sortH_sorted _) ((Bk.sortH_sorted l).filter p) ((Bk.sortH_is _).trans ((Bk.sortH_is l).filter p).symm)
/-- All live codes, as hits in order. -/
def Bk.all (T : Bk.T) (q : List UInt8) : List Bk.H := Bk.sortH ((Bk.lives T.l).map (Bk.hitC q))
theorem Bk.Good.within_is {T : Bk.T} (h : Bk.Good T.w T.l) {q : List UInt8} (hq : q.length = T.w / 8) {r : Nat} (hr : r ≤ T.w) : (Bk.within T q r).2 = ((Bk.all T q).filter fun x => decide (x.d ≤ r), 0) := by
  have hp := h.res_perm (r := fun _ => r) hq (fun _ _ => Nat.le_refl _)
  unfold Bk.within
  rw [if_pos hq, if_neg (by omega)]
  show (Bk.sortH _, (0 : Int)) = _
  rw [show ((r : Int).toNat) = r from rfl, Bk.sortH_perm hp, Bk.sortH_filter]
  rfl
/-- The first k, and all that are as far as the k-th. -/
def Bk.firstK (l : List Bk.H) (k : Nat) : List Bk.H := if k = 0 then [] else
  match l[min k l.length - 1]? with
  | none => []
  | some x => l.filter fun y => decide (y.d ≤ x.d)
theorem Bk.idx_le {b : Nat} : ∀ (S : List Bk.H), (S.Pairwise fun a b => Bk.leH a b = true) → ∀ (m : Nat) (x : Bk.H), S[m]? = some x → (x.d ≤ b ↔ m < (S.filter fun y => decide (y.d ≤ b)).length)
  | [], _, _, _, h => by simp at h
  | y :: S, hS, m, x, h => by
    rw [List.pairwise_cons] at hS
    rw [List.filter_cons]
    by_cases hy : y.d ≤ b
    · rw [if_pos (by simpa using hy), List.length_cons]
      cases m with
      | zero =>
        obtain rfl : y = x := by simpa using h
        constructor
        · intro _; omega
        · intro _; exact hy
      | succ m =>
        have := Bk.idx_le (b := b) S hS.2 m x (by simpa using h)
        rw [this]; omega
    · rw [if_neg (by simpa using hy)]
      have hnone : S.filter (fun y => decide (y.d ≤ b)) = [] := by
        rw [List.filter_eq_nil_iff]
        intro z hz
        have := (Bk.leH_iff y z).1 (hS.1 z hz)
        simp; omega
      rw [hnone]
      cases m with
      | zero =>
        obtain rfl : y = x := by simpa using h
        simp; omega
      | succ m =>
        have hx : x ∈ S := List.mem_of_getElem? (by simpa using h)
        have := (Bk.leH_iff y x).1 (hS.1 x hx)
        simp; omega
theorem Bk.down_facts (k : Nat) (F : List Bk.H) : ∀ w, (Bk.down k F w = 0 ∨ Bk.cle F (Bk.down k F w - 1) < k) ∧ (k ≤ Bk.cle F (Bk.down k F w) ∨ Bk.down k F w = w)
  | 0 => ⟨.inl rfl, .inr rfl⟩
  | w + 1 => by
    have ih := Bk.down_facts k F w
    unfold Bk.down
    split
    · rename_i h
      refine ⟨ih.1, .inl ?_⟩
      rcases ih.2 with h2 | h2
      · exact h2
      · rw [h2]; exact h
    · rename_i h
      exact ⟨.inr (by simpa using h), .inr rfl⟩
theorem Bk.down_mono (k : Nat) (F G : List Bk.H) : ∀ w, Bk.down k (F ++ G) w ≤ Bk.down k F w
  | 0 => Nat.le_refl _
  | w + 1 => by
    have ih := Bk.down_mono k F G w
    unfold Bk.down
    have hc : Bk.cle F w ≤ Bk.cle (F ++ G) w := by unfold Bk.cle; rw [List.filter_append, List.length_append]; omega
    by_cases h : k ≤ Bk.cle F w
    · rw [if_pos h, if_pos (by omega)]; exact ih
    · rw [if_neg h]
      split
      · exact Nat.le_succ_of_le (Bk.down_le _ _ _)
      · exact Nat.le_refl _
theorem Bk.cle_of {b c : Nat} (h : b ≤ c) (F : List Bk.H) : Bk.cle F b = ((F.filter fun x => decide (x.d ≤ c)).filter fun x => decide (x.d ≤ b)).length := by
  unfold Bk.cle
  rw [List.filter_filter]
  congr 1
  refine List.filter_congr fun x _ => ?_
  rw [Bool.eq_iff_iff]
  simp only [Bool.and_eq_true, decide_eq_true_eq]
  omega
theorem Bk.Good.nearest_is {T : Bk.T} (h : Bk.Good T.w T.l) {q : List UInt8} (hq : q.length = T.w / 8) {k : Nat} (hk : k ≤ 4096) : (Bk.nearest T q k).2 = (Bk.firstK (Bk.all T q) k, 0) := by
  unfold Bk.nearest
  rw [if_pos hq, if_neg (by omega)]
  by_cases hk0 : k = 0
  · subst hk0
    rw [if_pos (show ((0 : Nat) : Int) = 0 from rfl)]
    rfl
  rw [if_neg (by omega)]
  show (Bk.sortH _, (0 : Int)) = _
  rw [show ((k : Int).toNat) = k from rfl]
  have hp := h.res_perm (r := fun F => Bk.down k F T.w) hq (fun F G => Bk.down_mono k F G T.w)
  generalize (Bk.Res T q fun F => Bk.down k F T.w).1 = F at hp ⊢
  obtain ⟨f1, f2⟩ := Bk.down_facts k F T.w
  have f3 := Bk.down_le k F T.w
  generalize Bk.down k F T.w = b at hp f1 f2 f3 ⊢
  have hcnt : ∀ c, c ≤ b → Bk.cle F c = ((Bk.all T q).filter fun y => decide (y.d ≤ c)).length := by
    intro c hc
    rw [Bk.cle_of hc, (hp.filter _).length_eq, ← Bk.cle_of hc]
    unfold Bk.cle Bk.all
    exact ((Bk.sortH_is _).filter _).length_eq.symm
  rw [Bk.sortH_perm hp, Bk.sortH_filter]
  have hS := Bk.sortH_sorted ((Bk.lives T.l).map (Bk.hitC q))
  have hw : ∀ x ∈ Bk.all T q, x.d ≤ T.w := by
    intro x hx
    have := ((Bk.sortH_is _).mem_iff).1 hx
    obtain ⟨c, hc, rfl⟩ := List.mem_map.1 this
    obtain ⟨n, hn, rfl⟩ := List.mem_map.1 hc
    have h1 := Bk.far_le n.code q
    have h2 := h.len n (List.mem_filter.1 hn).1
    show Bk.far n.code q ≤ _
    omega
  show ((Bk.all T q).filter _, (0 : Int)) = _
  have hS' : (Bk.all T q).Pairwise fun a b => Bk.leH a b = true := hS
  generalize Bk.all T q = S at hcnt hS' hw ⊢
  unfold Bk.firstK
  rw [if_neg hk0]
  cases hm : S[min k S.length - 1]? with
  | none =>
    have : S = [] := by
      rw [List.getElem?_eq_none_iff] at hm
      apply List.length_eq_zero_iff.1
      omega
    rw [this]; rfl
  | some x =>
    simp only
    refine congrArg (fun l => (l, (0 : Int))) (List.filter_congr fun y hy => ?_)
    rw [Bool.eq_iff_iff, decide_eq_true_eq, decide_eq_true_eq]
    have hxm := (List.getElem?_eq_some_iff.1 hm).1
    obtain ⟨j, hj⟩ := List.getElem?_of_mem hy
    have hjl := (List.getElem?_eq_some_iff.1 hj).1
    constructor
    · intro hyb
      rcases Nat.lt_or_ge x.d y.d with hlt | hge
      · exfalso
        by_cases hkn : k ≤ S.length
        · have h1 := (Bk.idx_le (b := b - 1) S hS' _ x hm).1 (by omega)
          rw [← hcnt (b - 1) (by omega)] at h1
          rcases f1 with f1 | f1 <;> omega
        · have h1 := (Bk.idx_le (b := x.d) S hS' _ x hm).1 (Nat.le_refl _)
          have h2 := mt (Bk.idx_le (b := x.d) S hS' j y hj).2 (by omega)
          omega
      · exact hge
    · intro hyx
      rcases Nat.lt_or_ge b y.d with hlt | hge
      · exfalso
        have hyw := hw y hy
        rcases f2 with f2 | f2
        · rw [hcnt b (Nat.le_refl _)] at f2
          have h3 : (S.filter fun y => decide (y.d ≤ b)).length ≤ S.length := List.length_filter_le _ _
          have h1 := (Bk.idx_le (b := b) S hS' _ x hm).2 (by omega)
          omega
        · omega
      · exact hge
end Go.Proofs.YtikhahkmebkccaaGreatDoor
