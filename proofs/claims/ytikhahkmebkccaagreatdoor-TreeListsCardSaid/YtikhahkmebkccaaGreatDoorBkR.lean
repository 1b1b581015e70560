/- What a search can have looked at: the nodes below a node, none twice. Plain Lean; no conditions but each theorem's own. -/
import Derived.Test.YtikhahkmebkccaaGreatDoorBkQ
namespace Go.Proofs.YtikhahkmebkccaaGreatDoor
open Go.RowKit Go.Maps Go.Sort

/-- A node and all below it. -/
def Bk.sub (w : Nat) (l : List Bk.N) : Nat → Nat → List Nat
  | 0, _ => []
  | f + 1, i => i :: (Bk.kids w l i).flatMap fun ec => Bk.sub w l f ec.2
theorem Bk.up_trans {l : List Bk.N} {a b c : Nat} (h : Bk.Up l a b) (k : Bk.Up l b c) : Bk.Up l a c := by
  induction h with
  | refl => exact k
  | step hi ho _ ih => exact .step hi ho (ih k)
theorem Bk.up_linear {l : List Bk.N} {j a b : Nat} (h1 : Bk.Up l j a) (h2 : Bk.Up l j b) : Bk.Up l a b ∨ Bk.Up l b a := by
  induction h1 with
  | refl => exact .inl h2
  | @step i p c n hi ho hu ih =>
    cases h2 with
    | refl => exact .inr (.step hi ho hu)
    | step hi' ho' hu' =>
      rw [hi] at hi'
      obtain rfl := Option.some.inj hi'
      rw [ho] at ho'
      obtain rfl := Int.ofNat.inj ho'
      exact ih hu'
theorem Bk.mem_sub {w : Nat} {l : List Bk.N} : ∀ f i j, j ∈ Bk.sub w l f i → Bk.Up l j i
  | 0, _, _, h => by cases h
  | f + 1, i, j, h => by
    unfold Bk.sub at h
    rcases List.mem_cons.1 h with rfl | h
    · exact .refl _
    · obtain ⟨ec, hec, hj⟩ := List.mem_flatMap.1 h
      obtain ⟨_, hc⟩ := Bk.mem_kids.1 (show (ec.1, ec.2) ∈ Bk.kids w l i from hec)
      obtain ⟨n, hn, ho, _⟩ := Bk.child_some hc
      exact Bk.up_trans (Bk.mem_sub f ec.2 j hj) (.step hn ho (.refl _))
theorem Bk.Good.sub_lt {w : Nat} {l : List Bk.N} (h : Bk.Good w l) : ∀ f i j, i < l.length → j ∈ Bk.sub w l f i → j < l.length
  | 0, _, _, _, hj => by cases hj
  | f + 1, i, j, hi, hj => by
    unfold Bk.sub at hj
    rcases List.mem_cons.1 hj with rfl | hj
    · exact hi
    · obtain ⟨ec, hec, hj⟩ := List.mem_flatMap.1 hj
      obtain ⟨_, hc⟩ := Bk.mem_kids.1 (show (ec.1, ec.2) ∈ Bk.kids w l i from hec)
      exact Bk.Good.sub_lt h f ec.2 j (h.child_lt hc).2 hj
theorem Bk.kids_apart (w : Nat) (l : List Bk.N) (i : Nat) : (Bk.kids w l i).Pairwise fun a b => a.2 ≠ b.2 := by
  have h : (Bk.kids w l i).Pairwise fun a b => a.1 < b.1 := by
    unfold Bk.kids
    refine List.Pairwise.filterMap _ (fun a a' h b hb b' hb' => ?_) (List.pairwise_lt_range (n := w + 1))
    obtain ⟨k, _, rfl⟩ := Option.map_eq_some_iff.1 hb
    obtain ⟨k', _, rfl⟩ := Option.map_eq_some_iff.1 hb'
    exact h
  refine h.imp_of_mem fun {a b} ha hb hlt e => ?_
  obtain ⟨_, h1⟩ := Bk.mem_kids.1 (show (a.1, a.2) ∈ Bk.kids w l i from ha)
  obtain ⟨_, h2⟩ := Bk.mem_kids.1 (show (b.1, b.2) ∈ Bk.kids w l i from hb)
  obtain ⟨n, hn, _, hd⟩ := Bk.child_some h1
  obtain ⟨m, hm, _, hd'⟩ := Bk.child_some h2
  rw [e] at hn
  obtain rfl := Option.some.inj (hn.symm.trans hm)
  omega
theorem Bk.Good.sub_nodup {w : Nat} {l : List Bk.N} (h : Bk.Good w l) : ∀ f i, (Bk.sub w l f i).Nodup
  | 0, _ => List.nodup_nil
  | f + 1, i => by
    unfold Bk.sub
    refine List.nodup_cons.2 ⟨fun hm => ?_, ?_⟩
    · obtain ⟨ec, hec, hj⟩ := List.mem_flatMap.1 hm
      obtain ⟨_, hc⟩ := Bk.mem_kids.1 (show (ec.1, ec.2) ∈ Bk.kids w l i from hec)
      have h1 := h.up_lt (Bk.mem_sub f ec.2 i hj)
      have h2 := (h.child_lt hc).1
      omega
    · unfold List.Nodup
      rw [List.pairwise_flatMap]
      refine ⟨fun ec _ => Bk.Good.sub_nodup h f ec.2, (Bk.kids_apart w l i).imp_of_mem fun {a b} ha hb hne x hx y hy e => ?_⟩
      subst e
      obtain ⟨_, h1⟩ := Bk.mem_kids.1 (show (a.1, a.2) ∈ Bk.kids w l i from ha)
      obtain ⟨_, h2⟩ := Bk.mem_kids.1 (show (b.1, b.2) ∈ Bk.kids w l i from hb)
      have key : ∀ {p q ep eq : Nat}, Bk.child l i ep = some p → Bk.child l i eq = some q → p ≠ q → Bk.Up l p q → False := by
        intro p q ep eq hp hq hpq hu
        cases hu with
        | refl => exact hpq rfl
        | step hi ho hu =>
          obtain ⟨n, hn, ho', _⟩ := Bk.child_some hp
          rw [hn] at hi
          obtain rfl := Option.some.inj hi
          rw [ho'] at ho
          obtain rfl := Int.ofNat.inj ho
          have := h.up_lt hu
          have := (h.child_lt hq).1
          omega
      rcases Bk.up_linear (Bk.mem_sub f a.2 x hx) (Bk.mem_sub f b.2 x hy) with hu | hu
      · exact key h1 h2 hne hu
      · exact key h2 h1 (fun e => hne e.symm) hu
theorem Bk.nodup_le : ∀ (n : Nat) (s : List Nat), s.Nodup → (∀ x ∈ s, x < n) → s.length ≤ n
  | 0, [], _, _ => Nat.le_refl _
  | 0, x :: s, _, h => by have := h x (List.mem_cons_self ..); omega
  | n + 1, s, hd, h => by
    have h1 := Bk.nodup_le n (s.erase n) (hd.erase n) fun x hx => by
      have h2 := (hd.mem_erase_iff).1 hx
      have := h x h2.2
      omega
    have := List.length_erase_le (a := n) (l := s)
    by_cases hm : n ∈ s
    · rw [List.length_erase_of_mem hm] at h1; omega
    · rw [List.erase_of_not_mem hm] at h1; omega
theorem Bk.fold_visits {q : List UInt8} {r : List Bk.H → Nat} {g : Nat → List Bk.H × Nat → List Bk.H × Nat} {sz : Nat → Nat} {d : Nat} (hg : ∀ i s, (g i s).2 ≤ s.2 + sz i) : ∀ (left : List (Nat × Nat)) (s : List Bk.H × Nat), (left.foldl (fun s ec => if Bk.near d ec.1 (r s.1) = true then g ec.2 s else s) s).2 ≤ s.2 + (left.map fun ec => sz ec.2).sum
  | [], s => Nat.le_refl _
  | ec :: left, s => by
    rw [List.foldl_cons, List.map_cons, List.sum_cons]
    have h1 := Bk.fold_visits (q := q) (r := r) (d := d) hg left (if Bk.near d ec.1 (r s.1) = true then g ec.2 s else s)
    have h2 : (if Bk.near d ec.1 (r s.1) = true then g ec.2 s else s).2 ≤ s.2 + sz ec.2 := by
      split
      · exact hg _ _
      · omega
    omega
theorem Bk.visits_le (w : Nat) (l : List Bk.N) (q : List UInt8) (r : List Bk.H → Nat) : ∀ f i s, (Bk.visit w l q r f i s).2 ≤ s.2 + (Bk.sub w l f i).length
  | 0, _, _ => Nat.le_refl _
  | f + 1, i, s => by
    unfold Bk.visit Bk.sub
    have h := Bk.fold_visits (q := q) (r := r) (g := Bk.visit w l q r f) (sz := fun i => (Bk.sub w l f i).length) (d := Bk.far (Bk.code l i) q) (fun i s => Bk.visits_le w l q r f i s) (Bk.kids w l i) (Bk.look l q i s)
    have h2 : (Bk.look l q i s).2 = s.2 + 1 := rfl
    rw [List.length_cons, List.length_flatMap]
    omega
theorem Bk.fold_found {r : List Bk.H → Nat} {g : Nat → List Bk.H × Nat → List Bk.H × Nat} {d : Nat} (hg : ∀ i s, (g i s).1.length + s.2 ≤ s.1.length + (g i s).2) : ∀ (left : List (Nat × Nat)) (s : List Bk.H × Nat), (left.foldl (fun s ec => if Bk.near d ec.1 (r s.1) = true then g ec.2 s else s) s).1.length + s.2 ≤ s.1.length + (left.foldl (fun s ec => if Bk.near d ec.1 (r s.1) = true then g ec.2 s else s) s).2
  | [], s => Nat.le_refl _
  | ec :: left, s => by
    rw [List.foldl_cons]
    have h1 := Bk.fold_found (r := r) (d := d) hg left (if Bk.near d ec.1 (r s.1) = true then g ec.2 s else s)
    have h2 : (if Bk.near d ec.1 (r s.1) = true then g ec.2 s else s).1.length + s.2 ≤ s.1.length + (if Bk.near d ec.1 (r s.1) = true then g ec.2 s else s).2 := by
      split
      · exact hg _ _
      · omega
    omega
theorem Bk.found_le (w : Nat) (l : List Bk.N) (q : List UInt8) (r : List Bk.H → Nat) : ∀ f i s, (Bk.visit w l q r f i s).1.length + s.2 ≤ s.1.length + (Bk.visit w l q r f i s).2
  | 0, _, _ => Nat.le_refl _
  | f + 1, i, s => by
    unfold Bk.visit
    have h := Bk.fold_found (r := r) (g := Bk.visit w l q r f) (d := Bk.far (Bk.code l i) q) (fun i s => Bk.found_le w l q r f i s) (Bk.kids w l i) (Bk.look l q i s)
    have h2 : (Bk.look l q i s).2 = s.2 + 1 := rfl
    have h3 : (Bk.look l q i s).1.length ≤ s.1.length + 1 := by
      unfold Bk.look
      show (if _ then _ else _ : List Bk.H).length ≤ _
      split
      · simp
      · omega
    omega
/-- No search looks at more nodes than there are. -/
theorem Bk.Good.visits {w : Nat} {l : List Bk.N} (h : Bk.Good w l) (q : List UInt8) (r : List Bk.H → Nat) (i : Nat) (hi : i < l.length) (s : List Bk.H × Nat) : (Bk.V w l q r i s).2 ≤ s.2 + l.length := by
  have h1 := Bk.visits_le w l q r (l.length + 1) i s
  have h2 := Bk.nodup_le l.length (Bk.sub w l (l.length + 1) i) (h.sub_nodup _ _) fun x hx => h.sub_lt _ _ _ hi hx
  unfold Bk.V
  omega
end Go.Proofs.YtikhahkmebkccaaGreatDoor
