/- Contracts of journal.payload, wide, Read and of the document's payload, Width, Read. Conditions: each theorem's own hypotheses. -/
import Derived.Test.YthhkebkpophkiaaDoorJnA
namespace Go.Proofs.YthhkebkpophkiaaDoor
set_option linter.unusedVariables false
open Go.RowKit

theorem varAt_val : ∀ f i v l R, f + i = 10 → v < 2 ^ (7 * i) → Sl.varAt f i v l = R → R.val < 18446744073709551616
  | 0, _, _, _, R, _, _, h => by subst h; exact (by decide : 0 < 18446744073709551616)
  | _ + 1, _, _, [], R, _, _, h => by subst h; exact (by decide : 0 < 18446744073709551616)
  | f + 1, i, v, c :: l, R, hf, hv, h => by
    unfold Sl.varAt at h
    split at h
    · subst h; exact (by decide : 0 < 18446744073709551616)
    rename_i h9
    have hcl := c.toNat_lt
    have hm : c.toNat % 128 < 128 := Nat.mod_lt _ (by decide)
    have h9' : i = 9 → c.toNat % 128 ≤ 1 := by intro e; have : ¬ 1 < c.toNat := fun hh => h9 ⟨e, hh⟩; omega
    have hs := shl_fits (i := i) (d := c.toNat % 128) (v := v) (by omega) hm h9' hv
    split at h
    · split at h
      · subst h; exact (by decide : 0 < 18446744073709551616)
      · subst h; exact hs.2.1
    · rename_i hbig
      by_cases e : i = 9
      · exfalso; apply h9; exact ⟨e, by omega⟩
      · exact varAt_val f (i + 1) _ l R (by omega) (hs.2.2.2 (by omega)) h

theorem var_val (l : List UInt8) (R : Sl.Got) (h : Sl.var l = R) : R.val < 18446744073709551616 := varAt_val 10 0 0 l R rfl (by decide) h

/-- What a payload's reading rests on, laid in one. -/
theorem pay_cases (P : Jn.Upd → Prop) (s : ByteArray) (k l : Nat)
    (hk : ¬ (k = 1 ∨ k = 2) → P (Jn.no 35))
    (hr : (k = 1 ∨ k = 2) → ∀ c v m, Sl.var (s.data.toList.drop 0) = ⟨c, v, m⟩ → ∀ p, (if c = 0 then 0 + m else 0) = p → v < 18446744073709551616 → c ≤ 32 → p ≤ s.size →
      (¬ c = 0 → P (Jn.no c)) ∧ (c = 0 → v < 1 → P (Jn.no 51)) ∧ (c = 0 → 1152921504606846976 < v → P (Jn.no 51)) ∧
      (c = 0 → 1 ≤ v → v ≤ 1152921504606846976 → ∀ c' v' m', Sl.var (s.data.toList.drop p) = ⟨c', v', m'⟩ → ∀ p', (if c' = 0 then p + m' else 0) = p' → v' < 18446744073709551616 → c' ≤ 32 → p' ≤ s.size →
        (¬ c' = 0 → P (Jn.no c')) ∧ (c' = 0 → 281474976710656 < v' → P (Jn.no 60)) ∧
        (c' = 0 → v' ≤ 281474976710656 → ∀ C : ByteArray, s.extract p' s.size = C → C.size + p' = s.size →
          (k = 1 → ¬ C.size = l / 8 → P (Jn.no 11)) ∧ (k = 2 → ¬ C.size = 0 → P (Jn.no 11)) ∧
          (k = 1 → C.size = l / 8 → P ⟨v, 1, v', C.data.toList, 0⟩) ∧ (k = 2 → C.size = 0 → P ⟨v, 2, v', C.data.toList, 0⟩)))) :
    P (Jn.pay k s.data.toList l) := by
  unfold Jn.pay
  by_cases h1 : k = 1 ∨ k = 2
  rotate_left
  · rw [if_pos h1]; exact hk h1
  rw [if_neg (not_not_intro h1)]
  have hll : s.data.toList.length = s.size := Array.length_toList
  obtain ⟨R, hR⟩ : ∃ R, Sl.var s.data.toList = R := ⟨_, rfl⟩
  rw [hR]
  have hv := var_val _ _ hR
  have hc := Jn.var_code _ _ hR
  have hln := Jn.var_len _ _ hR
  obtain ⟨c, v, m⟩ := R
  simp only at hv hc hln ⊢
  obtain ⟨p, hp⟩ : ∃ p, (if c = 0 then 0 + m else 0) = p := ⟨_, rfl⟩
  obtain ⟨a1, a2, a3, a4⟩ := hr h1 c v m hR p hp hv hc (by rw [← hp]; split <;> omega)
  by_cases h2 : c = 0
  rotate_left
  · rw [if_pos h2]; exact a1 h2
  rw [if_neg (not_not_intro h2)]
  rw [if_pos h2, Nat.zero_add] at hp
  subst hp
  by_cases h3 : v < 1
  · rw [if_pos (Or.inl h3)]; exact a2 h2 h3
  by_cases h4 : 1152921504606846976 < v
  · rw [if_pos (Or.inr h4)]; exact a3 h2 h4
  rw [if_neg (fun h => h.elim h3 h4)]
  have hml := hln h2
  obtain ⟨R, hR'⟩ : ∃ R, Sl.var (s.data.toList.drop m) = R := ⟨_, rfl⟩
  rw [hR']
  have hv' := var_val _ _ hR'
  have hc' := Jn.var_code _ _ hR'
  have hln' := Jn.var_len _ _ hR'
  obtain ⟨c', v', m'⟩ := R
  simp only at hv' hc' hln' ⊢
  rw [List.length_drop] at hln'
  obtain ⟨p', hp'⟩ : ∃ p', (if c' = 0 then m + m' else 0) = p' := ⟨_, rfl⟩
  obtain ⟨b1, b2, b3⟩ := a4 h2 (by omega) (by omega) c' v' m' hR' p' hp' hv' hc' (by rw [← hp']; split <;> omega)
  by_cases h5 : c' = 0
  rotate_left
  · rw [if_pos h5]; exact b1 h5
  rw [if_neg (not_not_intro h5)]
  rw [if_pos h5] at hp'
  subst hp'
  have hml' := hln' h5
  by_cases h6 : 281474976710656 < v'
  · rw [if_pos h6]; exact b2 h5 h6
  rw [if_neg h6]
  obtain ⟨C, hC⟩ : ∃ C, s.extract (m + m') s.size = C := ⟨_, rfl⟩
  have hCd : C.data.toList = s.data.toList.drop (m + m') := by rw [← hC]; exact rest_data s _
  have hCs : C.size = s.size - (m + m') := by rw [size_data C, hCd, List.length_drop, hll]
  obtain ⟨g1, g2, g3, g4⟩ := b3 h5 (by omega) C hC (by omega)
  rw [hll, ← hCs, ← hCd]
  rcases h1 with h1 | h1
  · by_cases h7 : C.size = l / 8
    · rw [if_neg (fun h => h.elim (fun h => h.2 h7) (fun h => by omega)), h1]; exact g3 h1 h7
    · rw [if_pos (Or.inl ⟨h1, h7⟩)]; exact g1 h1 h7
  · by_cases h7 : C.size = 0
    · rw [if_neg (fun h => h.elim (fun h => by omega) (fun h => h.2 h7)), h1]; exact g4 h1 h7
    · rw [if_pos (Or.inr ⟨h1, h7⟩)]; exact g2 h1 h7

theorem payload_any (s : ByteArray) (k l : Nat) (w : World) (hs : s.size ≤ 9223372036854775807) (hl : l ≤ 1024) :
    Calls Tryd.prog 47 #[.int .i64 k, .string s, .int .i64 l] w fun e w' => e = .returned (updV (Jn.pay k s.data.toList l)) ∧ Below w.heap.size w w' := by
  refine pay_cases (fun U => Calls Tryd.prog 47 #[.int .i64 k, .string s, .int .i64 l] w fun e w' => e = .returned (updV U) ∧ Below w.heap.size w w') s k l ?_ ?_
  · intro h
    exact pay_kind s k l w (by rw [bne_iff_ne]; omega) (by rw [bne_iff_ne]; omega)
  · intro h12 c v m hR p hp hv hc hpl
    rcases h12 with rfl | rfl
    · refine ⟨fun h => pay_code1 s l w hs hl c v m p hR hp hv hc hpl h, fun h h1 => pay_low1 s l w hs hl c v m p hR hp hv hc hpl h h1, fun h h1 => pay_high1 s l w hs hl c v m p hR hp hv hc hpl h h1, ?_⟩
      intro h h1 h2 c' v' m' hR' p' hp' hv' hc' hpl'
      refine ⟨fun h3 => pay_code21 s l w hs hl c v m p hR hp hv hc hpl c' v' m' p' hR' hp' hv' hc' hpl' h h1 h2 h3, fun h3 h4 => pay_id1 s l w hs hl c v m p hR hp hv hc hpl c' v' m' p' hR' hp' hv' hc' hpl' h h1 h2 h3 h4, ?_⟩
      intro h3 h4 C hC hCs
      refine ⟨fun _ h5 => pay_len1 s l w hs hl c v m p hR hp hv hc hpl c' v' m' p' hR' hp' hv' hc' hpl' h h1 h2 h3 h4 C hC hCs h5, fun h => absurd h (by decide), fun _ h5 => ?_, fun h => absurd h (by decide)⟩
      refine (pay_good1 s l w hs hl c v m p hR hp hv hc hpl c' v' m' p' hR' hp' hv' hc' hpl' h h1 h2 h3 h4 C hC hCs h5).mono fun e w' ⟨he, hB⟩ => ⟨?_, hB⟩
      rw [he, str_eq (b := C) rfl]; rfl
    · refine ⟨fun h => pay_code2 s l w hs hl c v m p hR hp hv hc hpl h, fun h h1 => pay_low2 s l w hs hl c v m p hR hp hv hc hpl h h1, fun h h1 => pay_high2 s l w hs hl c v m p hR hp hv hc hpl h h1, ?_⟩
      intro h h1 h2 c' v' m' hR' p' hp' hv' hc' hpl'
      refine ⟨fun h3 => pay_code22 s l w hs hl c v m p hR hp hv hc hpl c' v' m' p' hR' hp' hv' hc' hpl' h h1 h2 h3, fun h3 h4 => pay_id2 s l w hs hl c v m p hR hp hv hc hpl c' v' m' p' hR' hp' hv' hc' hpl' h h1 h2 h3 h4, ?_⟩
      intro h3 h4 C hC hCs
      refine ⟨fun h => absurd h (by decide), fun _ h5 => pay_len2 s l w hs hl c v m p hR hp hv hc hpl c' v' m' p' hR' hp' hv' hc' hpl' h h1 h2 h3 h4 C hC hCs h5, fun h => absurd h (by decide), fun _ h5 => ?_⟩
      refine (pay_good2 s l w hs hl c v m p hR hp hv hc hpl c' v' m' p' hR' hp' hv' hc' hpl' h h1 h2 h3 h4 C hC hCs h5).mono fun e w' ⟨he, hB⟩ => ⟨?_, hB⟩
      rw [he, str_eq (b := C) rfl]; rfl

theorem refPayload_any (s : ByteArray) (k l : Nat) (w : World) (hs : s.size ≤ 9223372036854775807) (hl : l ≤ 1024) :
    Calls Tryd.prog 77 #[.int .i64 k, .string s, .int .i64 l] w fun e w' => e = .returned (updV (Jn.pay k s.data.toList l)) ∧ Below w.heap.size w w' := by
  refine pay_cases (fun U => Calls Tryd.prog 77 #[.int .i64 k, .string s, .int .i64 l] w fun e w' => e = .returned (updV U) ∧ Below w.heap.size w w') s k l ?_ ?_
  · intro h
    exact refPay_kind s k l w (by rw [bne_iff_ne]; omega) (by rw [bne_iff_ne]; omega)
  · intro h12 c v m hR p hp hv hc hpl
    rcases h12 with rfl | rfl
    · refine ⟨fun h => refPay_code1 s l w hs hl c v m p hR hp hv hc hpl h, fun h h1 => refPay_low1 s l w hs hl c v m p hR hp hv hc hpl h h1, fun h h1 => refPay_high1 s l w hs hl c v m p hR hp hv hc hpl h h1, ?_⟩
      intro h h1 h2 c' v' m' hR' p' hp' hv' hc' hpl'
      refine ⟨fun h3 => refPay_code21 s l w hs hl c v m p hR hp hv hc hpl c' v' m' p' hR' hp' hv' hc' hpl' h h1 h2 h3, fun h3 h4 => refPay_id1 s l w hs hl c v m p hR hp hv hc hpl c' v' m' p' hR' hp' hv' hc' hpl' h h1 h2 h3 h4, ?_⟩
      intro h3 h4 C hC hCs
      refine ⟨fun _ h5 => refPay_len1 s l w hs hl c v m p hR hp hv hc hpl c' v' m' p' hR' hp' hv' hc' hpl' h h1 h2 h3 h4 C hC hCs h5, fun h => absurd h (by decide), fun _ h5 => ?_, fun h => absurd h (by decide)⟩
      refine (refPay_good1 s l w hs hl c v m p hR hp hv hc hpl c' v' m' p' hR' hp' hv' hc' hpl' h h1 h2 h3 h4 C hC hCs h5).mono fun e w' ⟨he, hB⟩ => ⟨?_, hB⟩
      rw [he, str_eq (b := C) rfl]; rfl
    · refine ⟨fun h => refPay_code2 s l w hs hl c v m p hR hp hv hc hpl h, fun h h1 => refPay_low2 s l w hs hl c v m p hR hp hv hc hpl h h1, fun h h1 => refPay_high2 s l w hs hl c v m p hR hp hv hc hpl h h1, ?_⟩
      intro h h1 h2 c' v' m' hR' p' hp' hv' hc' hpl'
      refine ⟨fun h3 => refPay_code22 s l w hs hl c v m p hR hp hv hc hpl c' v' m' p' hR' hp' hv' hc' hpl' h h1 h2 h3, fun h3 h4 => refPay_id2 s l w hs hl c v m p hR hp hv hc hpl c' v' m' p' hR' hp' hv' hc' hpl' h h1 h2 h3 h4, ?_⟩
      intro h3 h4 C hC hCs
      refine ⟨fun h => absurd h (by decide), fun _ h5 => refPay_len2 s l w hs hl c v m p hR hp hv hc hpl c' v' m' p' hR' hp' hv' hc' hpl' h h1 h2 h3 h4 C hC hCs h5, fun h => absurd h (by decide), fun _ h5 => ?_⟩
      refine (refPay_good2 s l w hs hl c v m p hR hp hv hc hpl c' v' m' p' hR' hp' hv' hc' hpl' h h1 h2 h3 h4 C hC hCs h5).mono fun e w' ⟨he, hB⟩ => ⟨?_, hB⟩
      rw [he, str_eq (b := C) rfl]; rfl


theorem wide_low (l : Int) (w : World) (h : l < 64) :
    Calls Tryd.prog 69 #[.int .i64 l] w fun e w' => e = .returned (.bool false) ∧ w = w' := by
  go_enter Tryd.func69, Tryd.ntmps69
  go_wp2_with fail
  go_ret
  exact ⟨rfl, rfl⟩
theorem wide_high (l : Int) (w : World) (h : 1024 < l) :
    Calls Tryd.prog 69 #[.int .i64 l] w fun e w' => e = .returned (.bool false) ∧ w = w' := by
  have h2 : decide (l < 64) = false := by rw [decide_eq_false_iff_not]; omega
  go_enter Tryd.func69, Tryd.ntmps69
  go_wp2_with fail
  go_ret
  exact ⟨rfl, rfl⟩
theorem wide_mid (n : Nat) (w : World) (h : 64 ≤ n) (h2 : n ≤ 1024) (b : Bool) (hb : ((((n % 64 : Nat) : Int) == 0)) = b) :
    Calls Tryd.prog 69 #[.int .i64 n] w fun e w' => e = .returned (.bool b) ∧ w = w' := by
  have hq : (n : Int).tmod 64 = ((n % 64 : Nat) : Int) := by rw [Int.tmod_eq_emod_of_nonneg (by omega)]; rfl
  go_enter Tryd.func69, Tryd.ntmps69
  go_wp2_with fail
  go_ret
  exact ⟨by simp_all, rfl⟩

theorem refWide_low (l : Int) (w : World) (h : l < 64) :
    Calls Tryd.prog 75 #[.int .i64 l] w fun e w' => e = .returned (.bool false) ∧ w = w' := by
  go_enter Tryd.func75, Tryd.ntmps75
  go_wp2_with fail
  go_ret
  exact ⟨rfl, rfl⟩
theorem refWide_high (l : Int) (w : World) (h : 1024 < l) :
    Calls Tryd.prog 75 #[.int .i64 l] w fun e w' => e = .returned (.bool false) ∧ w = w' := by
  have h2 : decide (l < 64) = false := by rw [decide_eq_false_iff_not]; omega
  go_enter Tryd.func75, Tryd.ntmps75
  go_wp2_with fail
  go_ret
  exact ⟨rfl, rfl⟩
theorem refWide_mid (n : Nat) (w : World) (h : 64 ≤ n) (h2 : n ≤ 1024) (b : Bool) (hb : ((((n % 64 : Nat) : Int) == 0)) = b) :
    Calls Tryd.prog 75 #[.int .i64 n] w fun e w' => e = .returned (.bool b) ∧ w = w' := by
  have hq : (n : Int).tmod 64 = ((n % 64 : Nat) : Int) := by rw [Int.tmod_eq_emod_of_nonneg (by omega)]; rfl
  go_enter Tryd.func75, Tryd.ntmps75
  go_wp2_with fail
  go_ret
  exact ⟨by simp_all, rfl⟩
end Go.Proofs.YthhkebkpophkiaaDoor
