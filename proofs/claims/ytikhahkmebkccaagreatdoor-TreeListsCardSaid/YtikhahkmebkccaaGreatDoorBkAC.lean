/- What a search finds. Conditions: each theorem's own hypotheses. -/
import Derived.Test.YtikhahkmebkccaaGreatDoorBkAA
namespace Go.Proofs.YtikhahkmebkccaaGreatDoor
open Go.RowKit Go.Maps Go.Sort Go.Shelf
set_option linter.unusedVariables false
set_option linter.unusedSimpArgs false

def Bk.hit (l : List Bk.N) (q : List UInt8) (j : Nat) : Bk.H := ⟨Bk.far (Bk.code l j) q, Bk.code l j⟩
/-- The hits at these nodes. -/
def Bk.hits (l : List Bk.N) (q : List UInt8) (vs : List Nat) : List Bk.H := (vs.filter (Bk.liveAt l)).map (Bk.hit l q)
theorem Bk.hits_app (l : List Bk.N) (q : List UInt8) (a b : List Nat) : Bk.hits l q (a ++ b) = Bk.hits l q a ++ Bk.hits l q b := by unfold Bk.hits; rw [List.filter_append, List.map_append]
theorem Bk.hits_one (l : List Bk.N) (q : List UInt8) (i : Nat) (s : List Bk.H × Nat) : (Bk.look l q i s).1 = s.1 ++ Bk.hits l q [i] := by
  unfold Bk.look Bk.hits
  by_cases h : Bk.liveAt l i = true
  · simp [h, Bk.hit]
  · simp [h]
theorem Bk.up_cases {l : List Bk.N} {j i : Nat} (h : Bk.Up l j i) : j = i ∨ ∃ (c : Nat) (n : Bk.N), Bk.Up l j c ∧ l[c]? = some n ∧ n.over = (i : Int) := by
  induction h with
  | refl => exact .inl rfl
  | @step j p c n hi ho hu ih =>
    rcases ih with rfl | ⟨c', n', h1, h2, h3⟩
    · exact .inr ⟨j, n, .refl j, hi, ho⟩
    · exact .inr ⟨c', n', .step hi ho h1, h2, h3⟩
theorem Bk.Good.up_root {w : Nat} {l : List Bk.N} (h : Bk.Good w l) : ∀ j, j < l.length → Bk.Up l j 0 := by
  intro j
  induction j using Nat.strongRecOn with
  | _ j ih =>
    intro hj
    have hn : l[j]? = some (l[j]'hj) := List.getElem?_eq_getElem hj
    rcases h.over j _ hn with ⟨rfl, _⟩ | ⟨p, m, ho, hp, hm, _⟩
    · exact .refl 0
    · exact .step hn ho (ih p hp (by omega))
theorem Bk.flatMap_mem {α β : Type} {f g : α → List β} : ∀ {l : List α}, (∀ x ∈ l, f x = g x) → l.flatMap f = l.flatMap g
  | [], _ => rfl
  | x :: l, h => by rw [List.flatMap_cons, List.flatMap_cons, h x (List.mem_cons_self ..), Bk.flatMap_mem fun y hy => h y (List.mem_cons_of_mem _ hy)]
section
variable {w : Nat} {l : List Bk.N} {q : List UInt8} {r : List Bk.H → Nat}
theorem Bk.Good.fold_find (h : Bk.Good w l) (hq : q.length = w / 8) (hr : ∀ F G, r (F ++ G) ≤ r F) {g : Nat → List Bk.H × Nat → List Bk.H × Nat} {sb : Nat → List Nat} {i : Nat} (hi : i < l.length)
    (hg : ∀ k s, i < k → ∃ vs : List Nat, vs.Sublist (sb k) ∧ (g k s).1 = s.1 ++ Bk.hits l q vs ∧ ∀ j, j < l.length → Bk.Up l j k → Bk.far (Bk.code l j) q ≤ r (g k s).1 → j ∈ vs) :
    ∀ (left : List (Nat × Nat)) (s : List Bk.H × Nat), (∀ ec ∈ left, Bk.child l i ec.1 = some ec.2) →
      ∃ vs : List Nat, vs.Sublist (left.flatMap fun ec => sb ec.2) ∧ (left.foldl (fun s ec => if Bk.near (Bk.far (Bk.code l i) q) ec.1 (r s.1) = true then g ec.2 s else s) s).1 = s.1 ++ Bk.hits l q vs ∧
        ∀ j, j < l.length → (∃ ec ∈ left, Bk.Up l j ec.2) → Bk.far (Bk.code l j) q ≤ r (left.foldl (fun s ec => if Bk.near (Bk.far (Bk.code l i) q) ec.1 (r s.1) = true then g ec.2 s else s) s).1 → j ∈ vs
  | [], s, _ => ⟨[], List.Sublist.refl _, by simp [Bk.hits], fun j _ ⟨ec, hec, _⟩ => by cases hec⟩
  | (e, k) :: left, s, hc => by
    have hck := hc (e, k) (List.mem_cons_self ..)
    obtain ⟨n, hk, ho, hd⟩ := Bk.child_some hck
    have hik := (h.child_lt hck).1
    have hrest := fun s => h.fold_find hq hr hi hg left s fun ec hec => hc ec (List.mem_cons_of_mem _ hec)
    rw [List.foldl_cons]
    by_cases hn : Bk.near (Bk.far (Bk.code l i) q) e (r s.1) = true
    · obtain ⟨v1, a1, a2, a3⟩ := hg k s hik
      obtain ⟨v2, b1, b2, b3⟩ := hrest (g k s)
      rw [if_pos hn]
      refine ⟨v1 ++ v2, ?_, ?_, ?_⟩
      · rw [List.flatMap_cons]; exact a1.append b1
      · rw [b2, a2, List.append_assoc, Bk.hits_app]
      · rintro j hj ⟨ec, hec, hu⟩ hle
        rcases List.mem_cons.1 hec with rfl | hec
        · refine List.mem_append_left _ (a3 j hj hu (Nat.le_trans hle ?_))
          rw [b2]
          exact hr _ _
        · exact List.mem_append_right _ (b3 j hj ⟨ec, hec, hu⟩ hle)
    · obtain ⟨v2, b1, b2, b3⟩ := hrest s
      rw [if_neg hn]
      refine ⟨v2, ?_, b2, ?_⟩
      · rw [List.flatMap_cons]
        exact b1.trans (List.sublist_append_right _ _)
      · rintro j hj ⟨ec, hec, hu⟩ hle
        rcases List.mem_cons.1 hec with rfl | hec
        · exfalso
          apply hn
          have hjn : l[j]? = some (l[j]'hj) := List.getElem?_eq_getElem hj
          have hin : l[i]? = some (l[i]'hi) := List.getElem?_eq_getElem hi
          have hbk := h.bk j k i _ n _ hu hjn hk ho hin
          rw [← Bk.code_at hin, ← Bk.code_at hjn, hd] at hbk
          have l1 := h.len _ (List.mem_of_getElem? hin)
          have l2 := h.len _ (List.mem_of_getElem? hjn)
          have t1 := Bk.far_tri (Bk.code l i) (Bk.code l j) q (by rw [Bk.code_at hin, Bk.code_at hjn, l1, l2])
          have t2 := Bk.far_tri (Bk.code l i) q (Bk.code l j) (by rw [Bk.code_at hin, l1, hq])
          have hle2 : Bk.far (Bk.code l j) q ≤ r s.1 := Nat.le_trans hle (by rw [b2]; exact hr _ _)
          rw [Bk.far_comm q] at t2
          unfold Bk.near
          rw [decide_eq_true (by omega), decide_eq_true (by omega)]
          rfl
        · exact b3 j hj ⟨ec, hec, hu⟩ hle
theorem Bk.Good.visit_find (h : Bk.Good w l) (hq : q.length = w / 8) (hr : ∀ F G, r (F ++ G) ≤ r F) : ∀ f i s, i < l.length → l.length - i < f →
    ∃ vs : List Nat, vs.Sublist (Bk.sub w l f i) ∧ (Bk.visit w l q r f i s).1 = s.1 ++ Bk.hits l q vs ∧ ∀ j, j < l.length → Bk.Up l j i → Bk.far (Bk.code l j) q ≤ r (Bk.visit w l q r f i s).1 → j ∈ vs
  | 0, _, _, _, hf => by omega
  | f + 1, i, s, hi, hf => by
    have hg : ∀ k s, i < k → ∃ vs : List Nat, vs.Sublist (if k < l.length then Bk.sub w l f k else []) ∧ ((if k < l.length then Bk.visit w l q r f k s else s)).1 = s.1 ++ Bk.hits l q vs ∧ ∀ j, j < l.length → Bk.Up l j k → Bk.far (Bk.code l j) q ≤ r (if k < l.length then Bk.visit w l q r f k s else s).1 → j ∈ vs := by
      intro k s hk
      by_cases hkl : k < l.length
      · simp only [if_pos hkl]
        exact h.visit_find hq hr f k s hkl (by omega)
      · simp only [if_neg hkl]
        refine ⟨[], List.Sublist.refl _, by simp [Bk.hits], fun j hj hu _ => ?_⟩
        have := h.up_lt hu
        omega
    have hch : ∀ ec ∈ Bk.kids w l i, Bk.child l i ec.1 = some ec.2 := fun ec hec => (Bk.mem_kids.1 (show (ec.1, ec.2) ∈ Bk.kids w l i from hec)).2
    obtain ⟨vs, a1, a2, a3⟩ := h.fold_find hq hr hi hg (Bk.kids w l i) (Bk.look l q i s) hch
    have e1 : (Bk.kids w l i).foldl (fun s ec => if Bk.near (Bk.far (Bk.code l i) q) ec.1 (r s.1) = true then (if ec.2 < l.length then Bk.visit w l q r f ec.2 s else s) else s) (Bk.look l q i s) = Bk.visit w l q r (f + 1) i s := by
      refine (Bk.foldl_mem (g := fun s ec => if Bk.near (Bk.far (Bk.code l i) q) ec.1 (r s.1) = true then Bk.visit w l q r f ec.2 s else s) _ _ fun a ec hec => ?_).trans rfl
      rw [if_pos (h.child_lt (hch ec hec)).2]
    have e2 : (Bk.kids w l i).flatMap (fun ec => if ec.2 < l.length then Bk.sub w l f ec.2 else []) = (Bk.kids w l i).flatMap fun ec => Bk.sub w l f ec.2 := by
      refine Bk.flatMap_mem fun ec hec => ?_
      rw [if_pos (h.child_lt (hch ec hec)).2]
    rw [e1] at a2 a3
    rw [e2] at a1
    refine ⟨i :: vs, ?_, ?_, ?_⟩
    · unfold Bk.sub
      exact a1.cons_cons i
    · rw [a2, Bk.hits_one, List.append_assoc, ← Bk.hits_app]; rfl
    · intro j hj hu hle
      rcases Bk.up_cases hu with rfl | ⟨c, n, hc1, hc2, hc3⟩
      · exact List.mem_cons_self ..
      · refine List.mem_cons_of_mem _ (a3 j hj ⟨(n.dist, c), ?_, hc1⟩ hle)
        refine Bk.mem_kids.2 ⟨?_, h.child_of hc2 hc3⟩
        rcases h.over c n hc2 with ⟨rfl, ho, _⟩ | ⟨p, m, ho, hp, hm, hd⟩
        · rw [hc3] at ho; omega
        · rw [hd]
          have := Bk.far_le m.code n.code
          have := h.len m (List.mem_of_getElem? hm)
          omega
end
/-- A search finds hits at nodes none twice; and whatever is within the bound at its end. -/
theorem Bk.Good.res_find {T : Bk.T} (h : Bk.Good T.w T.l) {q : List UInt8} {r : List Bk.H → Nat} (hq : q.length = T.w / 8) (hr : ∀ F G, r (F ++ G) ≤ r F) :
    ∃ vs : List Nat, vs.Nodup ∧ (∀ j ∈ vs, j < T.l.length) ∧ (Bk.Res T q r).1 = Bk.hits T.l q vs ∧ ∀ j, j < T.l.length → Bk.far (Bk.code T.l j) q ≤ r (Bk.Res T q r).1 → j ∈ vs := by
  unfold Bk.Res
  split
  · rename_i h0
    exact ⟨[], List.nodup_nil, (fun j hj => absurd hj (List.not_mem_nil)), rfl, fun j hj => absurd hj (by omega)⟩
  · rename_i h0
    obtain ⟨vs, a1, a2, a3⟩ := h.visit_find hq hr (T.l.length + 1) 0 ([], T.seen) (by omega) (by omega)
    refine ⟨vs, (h.sub_nodup _ _).sublist a1, fun j hj => h.sub_lt _ _ _ (by omega) (a1.subset hj), by unfold Bk.V; rw [a2]; rfl, fun j hj hle => a3 j hj (h.up_root j hj) hle⟩
/-- The live codes. -/
def Bk.lives (l : List Bk.N) : List (List UInt8) := (l.filter fun n => n.live).map fun n => n.code
def Bk.hitC (q c : List UInt8) : Bk.H := ⟨Bk.far c q, c⟩
theorem Bk.hits_all (l : List Bk.N) (q : List UInt8) : Bk.hits l q (List.range l.length) = (Bk.lives l).map (Bk.hitC q) := by
  have hm : l = (List.range l.length).map fun i => l.getD i ⟨[], false, 0, 0⟩ := by
    apply List.ext_getElem
    · simp
    · intro i h1 h2
      simp [List.getD_eq_getElem?_getD, List.getElem?_eq_getElem h1]
  have hg : ∀ i ∈ List.range l.length, l[i]? = some (l.getD i ⟨[], false, 0, 0⟩) := fun i hi => by
    have := List.mem_range.1 hi
    rw [List.getD_eq_getElem?_getD, List.getElem?_eq_getElem this]; rfl
  unfold Bk.lives Bk.hits
  conv => rhs; rw [hm]
  rw [List.filter_map, List.map_map, List.map_map]
  have e1 : (List.range l.length).filter (Bk.liveAt l) = (List.range l.length).filter ((fun n : Bk.N => n.live) ∘ fun i => l.getD i ⟨[], false, 0, 0⟩) := List.filter_congr fun i hi => Bk.liveAt_at (hg i hi)
  rw [← e1]
  refine List.map_congr_left fun i hi => ?_
  have := Bk.code_at (hg i (List.mem_filter.1 hi).1)
  simp only [Function.comp, Bk.hit, Bk.hitC, this]
/-- Within the bound at its end a search has found just the live codes. -/
theorem Bk.Good.res_perm {T : Bk.T} (h : Bk.Good T.w T.l) {q : List UInt8} {r : List Bk.H → Nat} (hq : q.length = T.w / 8) (hr : ∀ F G, r (F ++ G) ≤ r F) :
    ((Bk.Res T q r).1.filter fun x => decide (x.d ≤ r (Bk.Res T q r).1)).Perm (((Bk.lives T.l).map (Bk.hitC q)).filter fun x => decide (x.d ≤ r (Bk.Res T q r).1)) := by
  obtain ⟨vs, a1, a2, a3, a4⟩ := h.res_find hq hr
  generalize r (Bk.Res T q r).1 = b at a4 ⊢
  rw [a3, ← Bk.hits_all]
  unfold Bk.hits
  rw [List.filter_map, List.filter_map, List.filter_filter, List.filter_filter]
  refine List.Perm.map _ ?_
  rw [List.perm_ext_iff_of_nodup (a1.filter _) (List.nodup_range.filter _)]
  intro j
  simp only [List.mem_filter, List.mem_range, Bool.and_eq_true, Function.comp, decide_eq_true_eq, Bk.hit]
  constructor
  · rintro ⟨h1, h2⟩; exact ⟨a2 j h1, h2⟩
  · rintro ⟨h1, h2⟩; exact ⟨a4 j h1 (by first | exact h2.1 | exact of_decide_eq_true h2.1 | exact h2.2 | exact of_decide_eq_true h2.2), h2⟩
end Go.Proofs.YtikhahkmebkccaaGreatDoor
