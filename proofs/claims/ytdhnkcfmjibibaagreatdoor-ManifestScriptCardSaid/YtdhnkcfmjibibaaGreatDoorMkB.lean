/- Bytes of manifests have one spelling; what is cut off or changed is told. No conditions but each theorem's own. -/
import Derived.Test.YtdhnkcfmjibibaaGreatDoorMdR
import Derived.Test.YtdhnkcfmjibibaaGreatDoorMdF
import Derived.Test.YtdhnkcfmjibibaaGreatDoorMkA
namespace Go.Proofs.YtdhnkcfmjibibaaGreatDoor
set_option linter.unusedVariables false

/-- Numbers that were read were written so. -/
theorem Mf.take_back {p : List UInt8} {most a : Nat} : ∀ {k : Nat} {T : Mf.Tk}, Mf.take p most 0 a k = T → T.code = 0 → p.drop a = Mf.enc T.vals ++ p.drop T.at_
  | 0, T, hT, h => by subst hT; rfl
  | k + 1, T, hT, h => by
    obtain ⟨X, hX⟩ : ∃ X, Mf.take p most 0 a k = X := ⟨_, rfl⟩
    rw [Mf.take, hX] at hT
    have hX0 : X.code = 0 := by
      have := Mf.take_fine (l := p) (most := most) (c := 0) (a := a) (k := k + 1) (by rw [Mf.take, hX, hT]; exact h) k (by omega)
      rw [hX] at this; exact this
    have ih := Mf.take_back hX hX0
    obtain ⟨R, hR⟩ : ∃ R, Sl.var (p.drop X.at_) = R := ⟨_, rfl⟩
    unfold Mf.tkStep at hT
    rw [hR, if_neg (not_not_intro hX0)] at hT
    by_cases h1 : R.code = 0
    · rw [if_neg (not_not_intro h1)] at hT
      by_cases h2 : most < R.val
      · rw [if_pos h2] at hT; subst hT; cases h
      · rw [if_neg h2] at hT
        subst hT
        obtain ⟨c, v, m⟩ := R
        obtain rfl : c = 0 := h1
        obtain ⟨rest, e1, e2⟩ := Sl.putVar_var _ v m hR
        have e3 : p.drop (X.at_ + m) = rest := by rw [← List.drop_drop, e1, e2, List.drop_left]
        show p.drop a = Mf.enc (X.vals ++ [v]) ++ p.drop (X.at_ + m)
        rw [ih, e1, e3, Mf.enc_append, List.append_assoc]
        congr 1
        simp [Mf.enc]
    · rw [if_pos h1] at hT; subst hT; exact absurd h h1
theorem Mf.of_rows : ∀ (k : Nat) (v : List Nat), v.length = 4 * k → (Mf.runsOf v).flatMap Mf.row = v
  | 0, v, h => by
    obtain rfl := List.eq_nil_of_length_eq_zero (show v.length = 0 by omega)
    rfl
  | k + 1, v, h => by
    match v, h with
    | x :: y :: z :: u :: v', h =>
      simp only [List.length_cons] at h
      have ih := Mf.of_rows k v' (by omega)
      show Mf.row ⟨x, y, z, u⟩ ++ (Mf.runsOf v').flatMap Mf.row = _
      rw [ih]
      rfl
/-- A payload that was read was written so. -/
theorem Mf.body_decP {p : List UInt8} {M : Man} (h : Mf.decP p = ⟨0, M⟩) : Mf.check M = 0 ∧ Mf.body M = p := by
  have no : ∀ {c : Nat} {X : Man}, c ≠ 0 → (⟨c, X⟩ : Mf.Dec) = ⟨0, M⟩ → False := fun hc e => hc (Mf.Dec.mk.inj e).1
  by_cases h1 : (Mf.rdN p).code = 0
  rotate_left
  · rw [Mf.decP_bad1 h1] at h; exact (no h1 h).elim
  obtain ⟨n, hn, hn24, hh6, hh60, hha, hna⟩ := Mf.rd_facts h1
  obtain ⟨X, hX⟩ : ∃ X, Mf.take p 1152921504606846976 0 (Mf.rdN p).at_ (4 * n) = X := ⟨_, rfl⟩
  by_cases h2 : X.code = 0
  rotate_left
  · rw [Mf.decP_bad2 h1 hn (Nat.le_refl n) (by rw [hX]) h2] at h; exact (no h2 h).elim
  rw [Mf.decP_end h1 hn hX h2] at h
  have hok := Mf.take_ok hna (k := 4 * n) (by rw [hX]; exact h2)
  rw [hX] at hok
  obtain ⟨hXl, hX60, _, _⟩ := hok
  by_cases h3 : X.at_ = p.length
  rotate_left
  · rw [if_pos h3] at h; exact (no (by decide) h).elim
  rw [if_neg (not_not_intro h3)] at h
  by_cases h4 : Mf.check (Mf.manOf (Mf.rdH p).vals X.vals) = 0
  rotate_left
  · rw [if_pos h4] at h; exact (no h4 h).elim
  rw [if_neg (not_not_intro h4)] at h
  obtain rfl := (Mf.Dec.mk.inj h).2
  refine ⟨h4, ?_⟩
  have bH := Mf.take_back (T := Mf.rdH p) rfl (Mf.rdH_code h1)
  have bN : p.drop (Mf.rdH p).at_ = Mf.enc (Mf.rdN p).vals ++ p.drop (Mf.rdN p).at_ := by
    have e0 := Mf.rdH_code h1
    have e : Mf.take p 24 0 (Mf.rdH p).at_ 1 = Mf.rdN p := by rw [Mf.rdN, e0]
    exact Mf.take_back e h1
  have bV := Mf.take_back hX h2
  rw [List.drop_zero] at bH
  rw [h3, List.drop_length, List.append_nil] at bV
  rw [bV] at bN
  rw [bN] at bH
  rw [hn] at bH
  generalize Mf.rdH p = H at *
  have hr := Mf.runsOf_len n X.vals hXl
  have hrow := Mf.of_rows n X.vals hXl
  obtain ⟨v0, v1, v2, v3, v4, v5, hv⟩ := nats6 hh6
  rw [hv] at bH ⊢
  unfold Mf.body Mf.nums
  rw [List.take_length]
  show Mf.enc (Mf.heads (Mf.manOf [v0, v1, v2, v3, v4, v5] X.vals) ++ (Mf.runsOf X.vals).flatMap Mf.row) = p
  rw [hrow]
  have hhd : Mf.heads (Mf.manOf [v0, v1, v2, v3, v4, v5] X.vals) = [v0, v1, v2, v3, v4, v5] ++ [n] := by
    unfold Mf.heads Mf.manOf
    simp [hr]
  rw [hhd, Mf.enc_append, Mf.enc_append, List.append_assoc]
  exact bH.symm
theorem Mf.frame_decode {b : List UInt8} {M : Man} (h : Mf.decode b = ⟨0, M⟩) : Mf.check M = 0 ∧ b = Sl.frame 3 (Mf.body M) ∧ (Mf.body M).length ≤ 65536 := by
  have no : ∀ {c : Nat} {X : Man}, c ≠ 0 → (⟨c, X⟩ : Mf.Dec) = ⟨0, M⟩ → False := fun hc e => hc (Mf.Dec.mk.inj e).1
  unfold Mf.decode at h
  obtain ⟨R, hR⟩ : ∃ R, Sl.parse b = R := ⟨_, rfl⟩
  rw [hR] at h
  by_cases h1 : R.code = 0
  rotate_left
  · rw [if_pos h1] at h; exact (no h1 h).elim
  rw [if_neg (not_not_intro h1)] at h
  by_cases h2 : R.len = b.length
  rotate_left
  · rw [if_pos h2] at h; exact (no (by decide) h).elim
  rw [if_neg (not_not_intro h2)] at h
  by_cases h3 : R.kind = 3
  rotate_left
  · rw [if_pos h3] at h; exact (no (by decide) h).elim
  rw [if_neg (not_not_intro h3)] at h
  obtain ⟨c, k, p, m⟩ := R
  obtain rfl : c = 0 := h1
  obtain rfl : k = 3 := h3
  obtain ⟨_, _, hp, hm, _, hb⟩ := Sl.frame_parse b 3 m p hR
  obtain ⟨hc, hbd⟩ := Mf.body_decP h
  refine ⟨hc, ?_, by rw [hbd]; exact hp⟩
  rw [hbd]
  have e : m = b.length := h2
  rw [e, List.drop_length, List.append_nil] at hb
  exact hb
theorem Mf.decode_zero {b : List UInt8} (h : (Mf.decode b).code ≠ 0) : (Mf.decode b).man = Mf.zero := by
  have main : ∀ p, (Mf.decP p).code ≠ 0 → (Mf.decP p).man = Mf.zero := fun p h => by
    unfold Mf.decP at h ⊢
    by_cases h1 : (Mf.rdN p).code = 0
    · rw [if_neg (not_not_intro h1)] at h ⊢
      by_cases h2 : (Mf.rdV p).code = 0
      · rw [if_neg (not_not_intro h2)] at h ⊢
        by_cases h3 : (Mf.rdV p).at_ = p.length
        · rw [if_neg (not_not_intro h3)] at h ⊢
          by_cases h4 : Mf.check (Mf.manOf (Mf.rdH p).vals (Mf.rdV p).vals) = 0
          · rw [if_neg (not_not_intro h4)] at h; exact absurd rfl h
          · rw [if_pos h4]
        · rw [if_pos h3]
      · rw [if_pos h2]
    · rw [if_pos h1]
  unfold Mf.decode at h ⊢
  by_cases h1 : (Sl.parse b).code = 0
  · rw [if_neg (not_not_intro h1)] at h ⊢
    by_cases h2 : (Sl.parse b).len = b.length
    · rw [if_neg (not_not_intro h2)] at h ⊢
      by_cases h3 : (Sl.parse b).kind = 3
      · rw [if_neg (not_not_intro h3)] at h ⊢; exact main _ h
      · rw [if_pos h3]
    · rw [if_pos h2]
  · rw [if_pos h1]
theorem Mf.is_dec {b : List UInt8} (h : (Mf.decode b).code = 0) : Mf.decode b = ⟨0, (Mf.decode b).man⟩ := by
  generalize Mf.decode b = D at *
  obtain ⟨c, M⟩ := D
  obtain rfl : c = 0 := h
  rfl
theorem Mf.body_small {M : Man} (h : Mf.check M = 0) : (Mf.body M).length ≤ 65536 := by have := Mf.body_len (Mf.good h); omega
theorem Mf.decode_cut {M : Man} (h : Mf.check M = 0) {n : Nat} (hn : n < (Sl.frame 3 (Mf.body M)).length) : (Mf.decode ((Sl.frame 3 (Mf.body M)).take n)).code ≠ 0 := fun e => by
  obtain ⟨_, h2, h3⟩ := Mf.frame_decode (Mf.is_dec e)
  exact Sl.frame_cut 3 _ _ n (Mf.body_small h) h3 hn h2
theorem Mf.decode_more {M : Man} (h : Mf.check M = 0) (c : UInt8) : (Mf.decode (Sl.frame 3 (Mf.body M) ++ [c])).code = 37 := by
  have hp := Sl.parse_frame 3 (Mf.body M) [c] (by decide) (by decide) (Mf.body_small h)
  unfold Mf.decode
  rw [hp]
  simp only [not_true_eq_false, if_false]
  rw [if_pos]
  rw [List.length_append, Sl.frame_len]
  simp
theorem Mf.decode_one {M : Man} (h : Mf.check M = 0) {a b : List UInt8} {c c' : UInt8} (e : Sl.frame 3 (Mf.body M) = a ++ c :: b) (hne : c ≠ c') : (Mf.decode (a ++ c' :: b)).code ≠ 0 := fun e0 => by
  obtain ⟨_, h2, h3⟩ := Mf.frame_decode (Mf.is_dec e0)
  exact hne (Sl.frame_one 3 _ _ a b c c' (Mf.body_small h) h3 e h2.symm)
end Go.Proofs.YtdhnkcfmjibibaaGreatDoor
