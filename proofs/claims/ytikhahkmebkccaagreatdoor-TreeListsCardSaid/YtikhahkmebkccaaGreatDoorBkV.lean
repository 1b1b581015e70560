/- How deep a tree can be: the codes of a way's nodes have subset sums that tell them apart. Conditions: each theorem's own hypotheses. -/
import Derived.Test.YtikhahkmebkccaaGreatDoorBkR
import Derived.Test.YtikhahkmebkccaaGreatDoorBkJ
namespace Go.Proofs.YtikhahkmebkccaaGreatDoor
set_option linter.unusedVariables false

/-- The sum of the first W. -/
def Bk.Sg (f : Nat → Int) : Nat → Int
  | 0 => 0
  | W + 1 => Bk.Sg f W + f W
theorem Bk.Sg_congr {f g : Nat → Int} : ∀ {W : Nat}, (∀ p, p < W → f p = g p) → Bk.Sg f W = Bk.Sg g W
  | 0, _ => rfl
  | W + 1, h => by
    show Bk.Sg f W + f W = Bk.Sg g W + g W
    rw [Bk.Sg_congr (W := W) fun p hp => h p (by omega), h W (by omega)]
theorem Bk.Sg_add (f g : Nat → Int) : ∀ W, Bk.Sg (fun p => f p + g p) W = Bk.Sg f W + Bk.Sg g W
  | 0 => rfl
  | W + 1 => by
    show Bk.Sg (fun p => f p + g p) W + (f W + g W) = (Bk.Sg f W + f W) + (Bk.Sg g W + g W)
    rw [Bk.Sg_add f g W]; omega
theorem Bk.Sg_zero : ∀ W, Bk.Sg (fun _ => 0) W = 0
  | 0 => rfl
  | W + 1 => by show Bk.Sg (fun _ => 0) W + 0 = 0; rw [Bk.Sg_zero W]; rfl
theorem Bk.Sg_split (f : Nat → Int) (m : Nat) : ∀ n, Bk.Sg f (m + n) = Bk.Sg f m + Bk.Sg (fun p => f (m + p)) n
  | 0 => by show Bk.Sg f m = Bk.Sg f m + 0; omega
  | n + 1 => by
    show Bk.Sg f (m + n) + f (m + n) = Bk.Sg f m + (Bk.Sg (fun p => f (m + p)) n + f (m + n))
    rw [Bk.Sg_split f m n]; omega
theorem Bk.Sg_filter (p : Nat → Bool) : ∀ n, (((List.range n).filter p).length : Int) = Bk.Sg (fun i => if p i then 1 else 0) n
  | 0 => rfl
  | n + 1 => by
    rw [List.range_succ, List.filter_append, List.length_append]
    show _ = Bk.Sg _ n + (if p n then 1 else 0)
    rw [← Bk.Sg_filter p n]
    by_cases h : p n = true <;> simp [h]
/-- A code's bit. -/
def Bk.bitAt (c : List UInt8) (p : Nat) : Bool := (c.getD (p / 8) 0).toNat.testBit (p % 8)
theorem Bk.far_Sg : ∀ a b : List UInt8, a.length = b.length → (Bk.far a b : Int) = Bk.Sg (fun p => if Bk.bitAt a p != Bk.bitAt b p then 1 else 0) (8 * a.length)
  | [], [], _ => rfl
  | x :: a, y :: b, h => by
    have ih := Bk.far_Sg a b (by simpa using h)
    show ((Bk.ones (x ^^^ y) + Bk.far a b : Nat) : Int) = _
    rw [List.length_cons, show 8 * (a.length + 1) = 8 + 8 * a.length by omega, Bk.Sg_split]
    have e1 : (Bk.ones (x ^^^ y) : Int) = Bk.Sg (fun p => if Bk.bitAt (x :: a) p != Bk.bitAt (y :: b) p then 1 else 0) 8 := by
      unfold Bk.ones
      rw [Bk.Sg_filter]
      refine Bk.Sg_congr fun p hp => ?_
      unfold Bk.bitAt
      rw [show p / 8 = 0 by omega, show p % 8 = p by omega]
      simp [UInt8.toNat_xor, Nat.testBit_xor]
    have e2 : Bk.Sg (fun p => if Bk.bitAt (x :: a) (8 + p) != Bk.bitAt (y :: b) (8 + p) then 1 else 0) (8 * a.length) = Bk.Sg (fun p => if Bk.bitAt a p != Bk.bitAt b p then 1 else 0) (8 * a.length) := by
      refine Bk.Sg_congr fun p hp => ?_
      unfold Bk.bitAt
      rw [show (8 + p) / 8 = p / 8 + 1 by omega, show (8 + p) % 8 = p % 8 by omega]
      simp
    rw [e2, ← ih, ← e1]
    omega
/-- The signed sum by a set. -/
def Bk.phi (S : Nat → Bool) (v : Nat → Int) (W : Nat) : Int := Bk.Sg (fun p => if S p then v p else - v p) W
def Bk.ind (S : Nat → Bool) (p : Nat) : Int := if S p then 1 else 0
theorem Bk.phi_add (S : Nat → Bool) (u v : Nat → Int) (W : Nat) : Bk.phi S (fun p => u p + v p) W = Bk.phi S u W + Bk.phi S v W := by
  unfold Bk.phi
  rw [← Bk.Sg_add]
  refine Bk.Sg_congr fun p _ => ?_
  by_cases h : S p = true
  · simp [h]
  · simp [h]; omega
theorem Bk.phi_zero (S : Nat → Bool) (W : Nat) : Bk.phi S (fun _ => 0) W = 0 := by
  unfold Bk.phi
  refine (Bk.Sg_congr fun p _ => ?_).trans (Bk.Sg_zero W)
  split <;> rfl
theorem Bk.phi_self (S : Nat → Bool) (W : Nat) : Bk.phi S (Bk.ind S) W = Bk.Sg (Bk.ind S) W := by
  refine Bk.Sg_congr fun p _ => ?_
  unfold Bk.ind
  by_cases h : S p = true <;> simp [h]
/-- The sum of the sets that a mask names. -/
def Bk.sumv : List (Nat → Bool) → List Bool → Nat → Int
  | S :: ss, a :: A, p => (if a then Bk.ind S p else 0) + Bk.sumv ss A p
  | _, _, _ => 0
/-- Each set is positive, and meets the half of every later one. -/
def Bk.Tri (W : Nat) : List (Nat → Bool) → Prop
  | [] => True
  | S :: ss => 0 < Bk.Sg (Bk.ind S) W ∧ (∀ S' ∈ ss, Bk.phi S (Bk.ind S') W = 0) ∧ Bk.Tri W ss
theorem Bk.phi_sumv {W : Nat} {S : Nat → Bool} : ∀ (ss : List (Nat → Bool)) (A : List Bool), (∀ S' ∈ ss, Bk.phi S (Bk.ind S') W = 0) → Bk.phi S (Bk.sumv ss A) W = 0
  | [], A, _ => Bk.phi_zero S W
  | S' :: ss, [], _ => Bk.phi_zero S W
  | S' :: ss, a :: A, h => by
    have ih := Bk.phi_sumv ss A fun x hx => h x (List.mem_cons_of_mem _ hx)
    have e : Bk.phi S (Bk.sumv (S' :: ss) (a :: A)) W = Bk.phi S (fun p => (if a then Bk.ind S' p else 0) + Bk.sumv ss A p) W := rfl
    rw [e, Bk.phi_add S (fun p => if a then Bk.ind S' p else 0), ih]
    cases a
    · simpa using Bk.phi_zero S W
    · simpa using h S' (List.mem_cons_self ..)
theorem Bk.sumv_inj {W : Nat} : ∀ (ss : List (Nat → Bool)), Bk.Tri W ss → ∀ A B : List Bool, A.length = ss.length → B.length = ss.length → (∀ p, p < W → Bk.sumv ss A p = Bk.sumv ss B p) → A = B
  | [], _, A, B, hA, hB, _ => by rw [List.length_eq_zero_iff.1 hA, List.length_eq_zero_iff.1 hB]
  | S :: ss, h, [], B, hA, hB, he => by cases hA
  | S :: ss, h, a :: A, [], hA, hB, he => by cases hB
  | S :: ss, ⟨h1, h2, h3⟩, a :: A, b :: B, hA, hB, he => by
    have e1 : ∀ a A, Bk.phi S (Bk.sumv (S :: ss) (a :: A)) W = if a then Bk.Sg (Bk.ind S) W else 0 := by
      intro a A
      have e : Bk.phi S (Bk.sumv (S :: ss) (a :: A)) W = Bk.phi S (fun p => (if a then Bk.ind S p else 0) + Bk.sumv ss A p) W := rfl
      rw [e, Bk.phi_add S (fun p => if a then Bk.ind S p else 0), Bk.phi_sumv ss A h2]
      cases a
      · simpa using Bk.phi_zero S W
      · simpa using Bk.phi_self S W
    have e2 : Bk.phi S (Bk.sumv (S :: ss) (a :: A)) W = Bk.phi S (Bk.sumv (S :: ss) (b :: B)) W := Bk.Sg_congr fun p hp => by rw [he p hp]
    rw [e1, e1] at e2
    have hab : a = b := by
      cases a <;> cases b <;> simp at e2 <;> first | rfl | omega
    subst hab
    have := Bk.sumv_inj ss h3 A B (by simpa using hA) (by simpa using hB) fun p hp => by
      have := he p hp
      simp only [Bk.sumv] at this
      omega
    rw [this]
theorem Bk.sumv_bound : ∀ (ss : List (Nat → Bool)) (A : List Bool) (p : Nat), 0 ≤ Bk.sumv ss A p ∧ Bk.sumv ss A p ≤ ss.length
  | [], A, p => by simp [Bk.sumv]
  | S :: ss, [], p => by simp [Bk.sumv]; omega
  | S :: ss, a :: A, p => by
    have ih := Bk.sumv_bound ss A p
    simp only [Bk.sumv, List.length_cons]
    have : 0 ≤ (if a then Bk.ind S p else 0) ∧ (if a then Bk.ind S p else 0) ≤ 1 := by
      unfold Bk.ind
      cases a <;> cases S p <;> simp
    omega
/-- A vector as a number. -/
def Bk.enc (n : Nat) (v : Nat → Int) : Nat → Nat
  | 0 => 0
  | W + 1 => Bk.enc n v W + (v W).toNat * n ^ W
theorem Bk.enc_lt {n : Nat} {v : Nat → Int} (h : ∀ p, 0 ≤ v p ∧ v p < n) : ∀ W, Bk.enc n v W < n ^ W
  | 0 => by simp [Bk.enc]
  | W + 1 => by
    have ih := Bk.enc_lt h W
    have h1 : (v W).toNat + 1 ≤ n := by have := h W; omega
    have h2 := Nat.mul_le_mul_right (n ^ W) h1
    rw [Nat.add_mul, Nat.one_mul] at h2
    rw [Nat.pow_succ, Nat.mul_comm (n ^ W) n]
    show Bk.enc n v W + (v W).toNat * n ^ W < _
    omega
theorem Bk.enc_inj {n : Nat} {u v : Nat → Int} (hu : ∀ p, 0 ≤ u p ∧ u p < n) (hv : ∀ p, 0 ≤ v p ∧ v p < n) : ∀ W, Bk.enc n u W = Bk.enc n v W → ∀ p, p < W → u p = v p
  | 0, _, p, hp => by omega
  | W + 1, h, p, hp => by
    have h' : Bk.enc n u W + (u W).toNat * n ^ W = Bk.enc n v W + (v W).toNat * n ^ W := h
    have l1 := Bk.enc_lt hu W
    have l2 := Bk.enc_lt hv W
    have hpos : 0 < n ^ W := by omega
    have hd : (u W).toNat = (v W).toNat := by
      have a := congrArg (· / n ^ W) h'
      simp only [Nat.add_mul_div_right _ _ hpos, Nat.div_eq_of_lt l1, Nat.div_eq_of_lt l2] at a
      omega
    have he : Bk.enc n u W = Bk.enc n v W := by rw [hd] at h'; omega
    by_cases hpW : p = W
    · subst hpW
      have := hu p; have := hv p; omega
    · exact Bk.enc_inj hu hv W he p (by omega)
def Bk.masks : Nat → List (List Bool)
  | 0 => [[]]
  | m + 1 => (Bk.masks m).map (false :: ·) ++ (Bk.masks m).map (true :: ·)
theorem Bk.masks_len : ∀ m, (Bk.masks m).length = 2 ^ m
  | 0 => rfl
  | m + 1 => by simp [Bk.masks, Bk.masks_len m, Nat.pow_succ]; omega
theorem Bk.masks_each : ∀ m, ∀ A ∈ Bk.masks m, A.length = m
  | 0, A, h => by simp [Bk.masks] at h; rw [h]; rfl
  | m + 1, A, h => by
    simp only [Bk.masks, List.mem_append, List.mem_map] at h
    rcases h with ⟨B, hB, rfl⟩ | ⟨B, hB, rfl⟩ <;> simp [Bk.masks_each m B hB]
theorem Bk.nodup_map {α β : Type} {f : α → β} : ∀ {l : List α}, l.Nodup → (∀ x ∈ l, ∀ y ∈ l, f x = f y → x = y) → (l.map f).Nodup
  | [], _, _ => by simp
  | x :: l, h, hi => by
    rw [List.nodup_cons] at h
    rw [List.map_cons, List.nodup_cons]
    refine ⟨fun hm => ?_, Bk.nodup_map h.2 fun a ha b hb => hi a (List.mem_cons_of_mem _ ha) b (List.mem_cons_of_mem _ hb)⟩
    obtain ⟨y, hy, e⟩ := List.mem_map.1 hm
    have := hi y (List.mem_cons_of_mem _ hy) x (List.mem_cons_self ..) e
    subst this
    exact h.1 hy
theorem Bk.masks_nodup : ∀ m, (Bk.masks m).Nodup
  | 0 => by simp [Bk.masks]
  | m + 1 => by
    have ih := Bk.masks_nodup m
    unfold Bk.masks
    rw [List.nodup_append]
    refine ⟨Bk.nodup_map ih fun x _ y _ e => by simpa using e, Bk.nodup_map ih fun x _ y _ e => by simpa using e, ?_⟩
    intro a ha b hb e
    obtain ⟨x, _, rfl⟩ := List.mem_map.1 ha
    obtain ⟨y, _, rfl⟩ := List.mem_map.1 hb
    simp at e
theorem Bk.Tri.drop {W : Nat} : ∀ (k : Nat) (ss : List (Nat → Bool)), Bk.Tri W ss → Bk.Tri W (ss.drop k)
  | 0, ss, h => h
  | k + 1, [], h => h
  | k + 1, S :: ss, h => Bk.Tri.drop k ss h.2.2
theorem Bk.Tri.pow {W : Nat} {ss : List (Nat → Bool)} (h : Bk.Tri W ss) : 2 ^ ss.length ≤ (ss.length + 1) ^ W := by
  have hb : ∀ A p, 0 ≤ Bk.sumv ss A p ∧ Bk.sumv ss A p < ((ss.length + 1 : Nat) : Int) := fun A p => by have := Bk.sumv_bound ss A p; omega
  have := Bk.nodup_le ((ss.length + 1) ^ W) ((Bk.masks ss.length).map fun A => Bk.enc (ss.length + 1) (Bk.sumv ss A) W)
    (Bk.nodup_map (Bk.masks_nodup _) fun A hA B hB e => Bk.sumv_inj ss h A B (Bk.masks_each _ A hA) (Bk.masks_each _ B hB) (Bk.enc_inj (hb A) (hb B) W e))
    (fun x hx => by
      obtain ⟨A, _, rfl⟩ := List.mem_map.1 hx
      exact Bk.enc_lt (hb A) W)
  rwa [List.length_map, Bk.masks_len] at this
theorem Bk.pow_no {n W m : Nat} (hn : n ≤ 32768) (hW : W ≤ 1024) (hm : 15360 < m) (h : 2 ^ m ≤ n ^ W) : False := by
  have h1 : n ^ W ≤ (2 ^ 15) ^ W := Nat.pow_le_pow_left (by simpa using hn) W
  rw [← Nat.pow_mul] at h1
  have h2 : 15 * W < m := by omega
  have h4 : 2 ^ (15 * W) < 2 ^ m := Nat.pow_lt_pow_right (by omega) h2
  exact absurd (Nat.lt_of_lt_of_le h4 (Nat.le_trans h h1)) (Nat.lt_irrefl _)
theorem Bk.Tri.short_of {W m : Nat} {ss : List (Nat → Bool)} (h : Bk.Tri W ss) (hW : W ≤ 1024) (h1 : 15360 < m) (h2 : m + 1 ≤ 32768) : ss.length < m := by
  rcases Nat.lt_or_ge ss.length m with h3 | h3
  · exact h3
  exfalso
  have h4 := (h.drop (ss.length - m)).pow
  rw [List.length_drop, show ss.length - (ss.length - m) = m by omega] at h4
  exact Bk.pow_no h2 hW h1 h4
theorem Bk.Tri.short {W : Nat} {ss : List (Nat → Bool)} (h : Bk.Tri W ss) (hW : W ≤ 1024) : ss.length < 16384 := h.short_of hW (by omega) (by omega)
/-- a stands properly above b. -/
def Bk.Above (l : List Bk.N) (a b : Nat) : Prop := ∃ (c : Nat) (m : Bk.N), Bk.Up l b c ∧ l[c]? = some m ∧ m.over = (a : Int)
theorem Bk.Above.up {l : List Bk.N} {a b : Nat} (h : Bk.Above l a b) : Bk.Up l b a := by
  obtain ⟨c, m, hu, hm, ho⟩ := h
  exact Bk.up_trans hu (.step hm ho (.refl a))
/-- The nodes above a node, from the root on. -/
theorem Bk.Good.tops {w : Nat} {l : List Bk.N} (h : Bk.Good w l) : ∀ i, i < l.length → ∃ ts : List Nat, ts.length + 1 = (Bk.deeps (Bk.os l)).getD i 0 ∧ ts.Pairwise (Bk.Above l) ∧ ∀ a ∈ ts, Bk.Above l a i := by
  intro i
  induction i using Nat.strongRecOn with
  | _ i ih =>
    intro hi
    have hn : l[i]? = some (l[i]'hi) := List.getElem?_eq_getElem hi
    rcases h.over i _ hn with ⟨rfl, ho, _⟩ | ⟨p, m, ho, hp, hm, _⟩
    · exact ⟨[], by rw [h.deep_root (by omega)]; rfl, List.Pairwise.nil, fun a ha => by cases ha⟩
    · obtain ⟨ts, h1, h2, h3⟩ := ih p hp (by omega)
      refine ⟨ts ++ [p], ?_, ?_, ?_⟩
      · rw [Bk.deeps_at _ i (p : Int) (by simp [Bk.os, hn, ho]) (by omega), if_neg (by omega), List.length_append, Int.toNat_natCast, ← h1]
        rfl
      · rw [List.pairwise_append]
        refine ⟨h2, List.pairwise_singleton _ _, fun a ha b hb => ?_⟩
        rw [List.mem_singleton] at hb
        subst hb
        exact h3 a ha
      · intro a ha
        rcases List.mem_append.1 ha with ha | ha
        · obtain ⟨c, m', hu, hm', ho'⟩ := h3 a ha
          exact ⟨c, m', .step hn ho hu, hm', ho'⟩
        · rw [List.mem_singleton] at ha
          subst ha
          exact ⟨i, _, .refl i, hn, ho⟩
theorem Bk.Good.above_far {w : Nat} {l : List Bk.N} (h : Bk.Good w l) {a b i : Nat} (hi : i < l.length) (hab : Bk.Above l a b) (hbi : Bk.Above l b i) : Bk.far (Bk.code l a) (Bk.code l b) = Bk.far (Bk.code l a) (Bk.code l i) := by
  obtain ⟨c, m, hu, hm, ho⟩ := hab
  have hib := hbi.up
  have hbl := h.up_lt hib
  have hcl := h.up_lt hu
  rcases h.over c m hm with ⟨rfl, ho', _⟩ | ⟨p, x, ho', hp, hx, _⟩
  · rw [ho] at ho'; omega
  · have hap : p = a := by rw [ho] at ho'; omega
    subst hap
    have hn : l[i]? = some (l[i]'hi) := List.getElem?_eq_getElem hi
    have hb : l[b]? = some (l[b]'(by omega)) := List.getElem?_eq_getElem (by omega)
    rw [Bk.code_at hx, Bk.code_at hn, Bk.code_at hb]
    rw [h.bk b c p _ m x hu hb hm ho hx, h.bk i c p _ m x (Bk.up_trans hib hu) hn hm ho hx]
theorem Bk.Good.above_lt {w : Nat} {l : List Bk.N} (h : Bk.Good w l) {a b : Nat} (hab : Bk.Above l a b) : a < b := by
  obtain ⟨c, m, hu, hm, ho⟩ := hab
  have hcl := h.up_lt hu
  rcases h.over c m hm with ⟨rfl, ho', _⟩ | ⟨p, x, ho', hp, hx, _⟩ <;> rw [ho] at ho' <;> omega
/-- Where two codes are unlike. -/
def Bk.un (a b : List UInt8) (p : Nat) : Bool := Bk.bitAt a p != Bk.bitAt b p
theorem Bk.un_ind (a b : List UInt8) (W : Nat) (h : a.length = b.length) (hW : W = 8 * a.length) : Bk.Sg (Bk.ind (Bk.un a b)) W = Bk.far a b := by
  rw [Bk.far_Sg a b h, ← hW]
  rfl
theorem Bk.key3 : ∀ x y z : Bool, (if (x != z) = true then (if (y != z) = true then (1 : Int) else 0) else -(if (y != z) = true then (1 : Int) else 0)) + (if (x != y) = true then (1 : Int) else 0) = if (x != z) = true then (1 : Int) else 0 := by decide
theorem Bk.un_phi (a b z : List UInt8) (W : Nat) (h1 : a.length = b.length) (h2 : a.length = z.length) (hW : W = 8 * a.length) : Bk.phi (Bk.un a z) (Bk.ind (Bk.un b z)) W = (Bk.far a z : Int) - Bk.far a b := by
  rw [Bk.far_Sg a z h2, Bk.far_Sg a b h1, ← hW]
  have e : ∀ p, p < W → (if Bk.un a z p then Bk.ind (Bk.un b z) p else - Bk.ind (Bk.un b z) p) + (if Bk.bitAt a p != Bk.bitAt b p then (1 : Int) else 0) = (if Bk.bitAt a p != Bk.bitAt z p then (1 : Int) else 0) := by
    intro p _
    exact Bk.key3 (Bk.bitAt a p) (Bk.bitAt b p) (Bk.bitAt z p)
  have := Bk.Sg_congr e
  rw [Bk.Sg_add] at this
  unfold Bk.phi
  omega
theorem Bk.Good.tri {w : Nat} {l : List Bk.N} (h : Bk.Good w l) {i : Nat} (hi : i < l.length) : ∀ ts : List Nat, ts.Pairwise (Bk.Above l) → (∀ a ∈ ts, Bk.Above l a i) → Bk.Tri (8 * (w / 8)) (ts.map fun a => Bk.un (Bk.code l a) (Bk.code l i))
  | [], _, _ => trivial
  | a :: ts, hp, ha => by
    rw [List.pairwise_cons] at hp
    have hlen : ∀ j, j < l.length → (Bk.code l j).length = w / 8 := fun j hj => by
      have hn : l[j]? = some (l[j]'hj) := List.getElem?_eq_getElem hj
      rw [Bk.code_at hn]
      exact h.len _ (List.mem_of_getElem? hn)
    have hai := h.above_lt (ha a (List.mem_cons_self ..))
    have la := hlen a (by omega)
    have li := hlen i hi
    refine ⟨?_, fun S' hS' => ?_, h.tri hi ts hp.2 fun b hb => ha b (List.mem_cons_of_mem _ hb)⟩
    · rw [Bk.un_ind _ _ _ (by omega) (by omega)]
      have hne : Bk.far (Bk.code l a) (Bk.code l i) ≠ 0 := fun e => by
        have hc := Bk.far_eq _ _ (by omega) e
        have hna : l[a]? = some (l[a]'(by omega)) := List.getElem?_eq_getElem (by omega)
        have hni : l[i]? = some (l[i]'hi) := List.getElem?_eq_getElem hi
        rw [Bk.code_at hna, Bk.code_at hni] at hc
        have := h.nodup a i _ _ hna hni hc
        omega
      omega
    · obtain ⟨b, hb, rfl⟩ := List.mem_map.1 hS'
      have hbi := ha b (List.mem_cons_of_mem _ hb)
      have hbl := h.above_lt hbi
      have lb := hlen b (by omega)
      rw [Bk.un_phi _ _ _ _ (by omega) (by omega) (by omega), h.above_far hi (hp.1 b hb) hbi]
      omega
/-- No node of a tree of codes of at most 1024 bits stands deeper than 16384. -/
theorem Bk.Good.deep {w : Nat} {l : List Bk.N} (h : Bk.Good w l) (hw : w ≤ 1024) : ∀ i, (Bk.deeps (Bk.os l)).getD i 0 ≤ 16384 := by
  intro i
  rcases Nat.lt_or_ge i l.length with hi | hi
  · obtain ⟨ts, h1, h2, h3⟩ := h.tops i hi
    have := (h.tri hi ts h2 h3).short (by omega)
    rw [List.length_map] at this
    omega
  · rw [List.getD_eq_getElem?_getD, List.getElem?_eq_none (by rw [Bk.deeps_len]; simpa [Bk.os] using hi)]
    simp
end Go.Proofs.YtikhahkmebkccaaGreatDoor
