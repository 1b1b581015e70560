/- A contract of masks.Next at every mask of n bits: the mask behind it, or none where it is the last of its weight. Conditions: each theorem's own hypotheses. -/
import Derived.Test.YtpldjhlhkjmneaaDoorMasksD
namespace Go.Proofs.YtpldjhlhkjmneaaDoor
open Go.RowKit

theorem le_low (n m : Nat) : m ≤ lowN n ↔ m < 2 ^ n := by
  have := Nat.two_pow_pos n
  unfold lowN
  omega

theorem pow_le_64 {n : Nat} (h : n ≤ 64) : (2 : Nat) ^ n ≤ 18446744073709551616 := by
  have := Nat.pow_le_pow_right (n := 2) (by decide) h
  have e : (2 : Nat) ^ 64 = 18446744073709551616 := by decide
  omega

/-- what the walk asks of a mask, in plain numbers. -/
theorem next_facts (n A j k m : Nat) (hn : n ≤ 64) (hm : m = A * 2 ^ (j + k + 2) + (2 ^ (k + 1) - 1) * 2 ^ j) (hlt : m < 2 ^ n) :
    (m &&& (18446744073709551616 - m)) = 2 ^ j ∧
    m + 2 ^ j = A * 2 ^ (j + k + 2) + 2 ^ (j + k + 1) ∧
    (j + k + 2 ≤ 64 → m + 2 ^ j < 18446744073709551616 ∧ Mm.wt 64 m = Mm.wt 64 (m + 2 ^ j) + k ∧ (m + 2 ^ j ||| lowN k) = A * 2 ^ (j + k + 2) + (2 ^ (j + k + 1) + (2 ^ k - 1))) := by
  have hk := Nat.two_pow_pos k
  have hj := Nat.two_pow_pos j
  have h64 := pow_le_64 hn
  have hge : 2 ^ (j + k) ≤ (2 ^ (k + 1) - 1) * 2 ^ j := by rw [Mm.ones_succ]; omega
  have hjk : j + k < 64 := by
    apply Nat.lt_of_not_le
    intro h'
    have := Nat.pow_le_pow_right (n := 2) (by decide) h'
    have e : (2 : Nat) ^ 64 = 18446744073709551616 := by decide
    omega
  have e64 : (18446744073709551616 : Nat) = 2 ^ (j + (64 - j)) := by rw [show j + (64 - j) = 64 from by omega]
  have eo : m = 2 ^ j * (A * 2 ^ (k + 2) + (2 ^ (k + 1) - 1)) := by
    rw [hm, Nat.mul_add, Nat.mul_comm (2 ^ (k + 1) - 1), show j + k + 2 = j + (k + 2) from by omega, Nat.pow_add 2 j (k + 2), ← Nat.mul_assoc, Nat.mul_comm A, Nat.mul_assoc]
  have hodd : (A * 2 ^ (k + 2) + (2 ^ (k + 1) - 1)) % 2 = 1 := by
    rw [show k + 2 = (k + 1) + 1 from rfl, Nat.pow_succ 2 (k + 1), Nat.pow_succ 2 k, ← Nat.mul_assoc]
    omega
  have hup : m + 2 ^ j = A * 2 ^ (j + k + 2) + 2 ^ (j + k + 1) := by
    have e : (2 ^ (k + 1) - 1) * 2 ^ j + 2 ^ j = 2 ^ (j + k + 1) := by
      rw [show j + k + 1 = (k + 1) + j from by omega, Nat.pow_add 2 (k + 1) j, Nat.sub_mul, Nat.one_mul]
      have := Nat.mul_le_mul_right (2 ^ j) (Nat.two_pow_pos (k + 1))
      omega
    omega
  refine ⟨?_, hup, ?_⟩
  · have hlt' : A * 2 ^ (k + 2) + (2 ^ (k + 1) - 1) < 2 ^ (64 - j) := by
      refine Nat.lt_of_mul_lt_mul_left (a := 2 ^ j) ?_
      rw [← eo, ← Nat.pow_add, ← e64]
      omega
    have := Mm.lowest j _ (64 - j) hodd hlt' (by omega)
    rw [← eo, ← e64] at this
    exact this
  · intro hL
    obtain ⟨t, ht⟩ : ∃ t, 64 = j + k + 2 + t := ⟨64 - (j + k + 2), by omega⟩
    have e1 : (18446744073709551616 : Nat) = 2 ^ t * 2 ^ (j + k + 2) := by
      rw [← Nat.pow_add, Nat.add_comm t, ← ht]
    have e2 : (2 : Nat) ^ (j + k + 2) = 2 * 2 ^ (j + k + 1) := by rw [Nat.pow_succ]; omega
    have hA : A < 2 ^ t := by
      refine Nat.lt_of_mul_lt_mul_right (a := 2 ^ (j + k + 2)) ?_
      rw [← e1]; omega
    have h5 : (A + 1) * 2 ^ (j + k + 2) ≤ 2 ^ t * 2 ^ (j + k + 2) := Nat.mul_le_mul_right _ hA
    rw [Nat.add_mul] at h5
    have hpos := Nat.two_pow_pos (j + k + 1)
    refine ⟨by rw [hup]; omega, ?_, ?_⟩
    · have ho := Mm.ones_lt j (k + 1)
      rw [← Nat.add_assoc] at ho
      have hB : (2 ^ (k + 1) - 1) * 2 ^ j < 2 ^ (j + k + 2) := by omega
      have hB' : 2 ^ (j + k + 1) < 2 ^ (j + k + 2) := by omega
      have w1 : Mm.wt 64 m = Mm.wt (j + k + 2) ((2 ^ (k + 1) - 1) * 2 ^ j) + Mm.wt t A := by
        rw [ht, hm]; exact Mm.wt_split _ A _ t hB
      have w2 : Mm.wt 64 (m + 2 ^ j) = Mm.wt (j + k + 2) (2 ^ (j + k + 1)) + Mm.wt t A := by
        rw [ht, hup]; exact Mm.wt_split _ A _ t hB'
      have w3 : Mm.wt (j + k + 2) ((2 ^ (k + 1) - 1) * 2 ^ j) = k + 1 := by
        rw [show j + k + 2 = (j + k + 1) + 1 from rfl, Mm.wt_s, Mm.bt_of_lt _ _ ho]
        have := (Mm.last_of j (k + 1)).1
        rw [← Nat.add_assoc] at this
        rw [this]
      have w4 : Mm.wt (j + k + 2) (2 ^ (j + k + 1)) = 1 := by
        have hb := Mm.bt_add (j + k + 1) 0 hpos
        rw [Nat.add_zero] at hb
        rw [show j + k + 2 = (j + k + 1) + 1 from rfl, Mm.wt_s, hb, ← Mm.wt_mod _ _ _ (Nat.le_refl _), Nat.mod_self]
        have := (Mm.first_of 0 (j + k + 1) (by omega)).1
        simp only [Nat.pow_zero, Nat.sub_self] at this
        rw [this]
      omega
    · have h0 : (m + 2 ^ j) % 2 ^ k = 0 := by
        rw [hup]
        exact Nat.mod_eq_zero_of_dvd (Nat.dvd_add (Nat.dvd_trans (Nat.pow_dvd_pow 2 (by omega)) (Nat.dvd_mul_left _ _)) (Nat.pow_dvd_pow 2 (by omega)))
      have hl : lowN k < 2 ^ k := by unfold lowN; omega
      rw [nat_join k _ _ h0 hl, hup]
      unfold lowN
      omega

/-- masks.Next, where there is a mask behind. -/
theorem next_yes (n m : Nat) (w : World) (hn : n ≤ 64) (hlt : m < 2 ^ n) (hr : Mm.rk n m + 1 < Mm.C n (Mm.wt n m)) :
    Calls Tryd.prog 17 #[.int .i64 n, .int .u64 m] w fun e w' => e = .returned (.tuple #[.int .u64 (Mm.nextOf n m), .bool true]) ∧ w = w' := by
  rcases Mm.parts m with h0 | ⟨A, j, k, hm⟩
  · subst h0; have := Mm.no_next_zero n; omega
  have h64 := pow_le_64 hn
  obtain ⟨f1, f2, f3⟩ := next_facts n A j k m hn hm hlt
  rcases Mm.next_cases n A j k (by rw [← hm]; exact hlt) with ⟨c1, c2, _, c4⟩ | ⟨_, _, c3⟩
  · rw [← hm] at c4
    obtain ⟨g1, g2, g3⟩ := f3 (by omega)
    have hpos := Nat.two_pow_pos j
    have hm0 : 0 < m := by
      have := Nat.two_pow_pos (k + 1)
      have h2 : 2 ≤ 2 ^ (k + 1) := by rw [Nat.pow_succ]; have := Nat.two_pow_pos k; omega
      have := Nat.mul_le_mul_right (2 ^ j) (show 1 ≤ 2 ^ (k + 1) - 1 by omega)
      omega
    have hY : (m + 2 ^ j ||| lowN k) ≤ lowN n := by rw [g3, le_low]; exact c2
    have hjlt : 2 ^ j < 18446744073709551616 := by omega
    have hkl := lowN_lt k (by omega)
    have r := next_walk2 n m (lowN n) (18446744073709551616 - m) (2 ^ j) (m + 2 ^ j) k (lowN k) (m + 2 ^ j ||| lowN k) _ _ w hn rfl hm0 ((le_low n m).2 hlt) (by omega) g1
      (by rw [IntKind.wrap_u64]; omega) (by rw [← f1]; exact u64_and_nat m _ (by omega) (by omega)) (wrap_nat (m + 2 ^ j) _ rfl g1 _ (by simp)) (by omega) rfl rfl g2 rfl
      (u64_or_nat _ _ g1 hkl)
    rw [if_pos hY, show decide ((m + 2 ^ j ||| lowN k) ≤ lowN n) = true from by simpa using hY, g3, ← c4] at r
    exact r
  · rw [← hm] at c3; omega

/-- masks.Next at the last of its weight. -/
theorem next_no (n m : Nat) (w : World) (hn : n ≤ 64) (hlt : m < 2 ^ n) (hr : Mm.rk n m + 1 = Mm.C n (Mm.wt n m)) :
    Calls Tryd.prog 17 #[.int .i64 n, .int .u64 m] w fun e w' => e = .returned (.tuple #[.int .u64 0, .bool false]) ∧ w = w' := by
  rcases Mm.parts m with h0 | ⟨A, j, k, hm⟩
  · subst h0; exact next_zero n w hn
  have h64 := pow_le_64 hn
  obtain ⟨f1, f2, f3⟩ := next_facts n A j k m hn hm hlt
  have hpos := Nat.two_pow_pos j
  have hm0 : 0 < m := by
    have h2 : 2 ≤ 2 ^ (k + 1) := by rw [Nat.pow_succ]; have := Nat.two_pow_pos k; omega
    have := Nat.mul_le_mul_right (2 ^ j) (show 1 ≤ 2 ^ (k + 1) - 1 by omega)
    omega
  rcases Mm.next_cases n A j k (by rw [← hm]; exact hlt) with ⟨_, _, c3, _⟩ | ⟨c1, c2, c3⟩
  · rw [← hm] at c3; omega
  · subst c2
    rw [Nat.zero_mul, Nat.zero_add, c1] at f2
    have hjlt : 2 ^ j ≤ m + 2 ^ j := by omega
    by_cases h : n = 64
    · have e64 : (2 : Nat) ^ n = 18446744073709551616 := by rw [h]
      rw [e64] at f2
      exact next_walk n m (lowN n) (18446744073709551616 - m) (2 ^ j) 0 w hn rfl hm0 ((le_low n m).2 hlt)
        (by rw [IntKind.wrap_u64]; omega) (by rw [← f1]; exact u64_and_nat m _ (by omega) (by omega)) (by rw [IntKind.wrap_u64]; have : ((m : Int) + ((2 ^ j : Nat) : Int)) = 18446744073709551616 := by rw [← Int.natCast_add, f2]; rfl
                                                                                                          omega) hm0
    · obtain ⟨g1, g2, g3⟩ := f3 (by omega)
      have hkl := lowN_lt k (by omega)
      have hY : ¬ (m + 2 ^ j ||| lowN k) ≤ lowN n := by
        rw [le_low, g3, Nat.zero_mul, Nat.zero_add, c1]
        omega
      have r := next_walk2 n m (lowN n) (18446744073709551616 - m) (2 ^ j) (m + 2 ^ j) k (lowN k) (m + 2 ^ j ||| lowN k) _ _ w hn rfl hm0 ((le_low n m).2 hlt) (by omega) g1
        (by rw [IntKind.wrap_u64]; omega) (by rw [← f1]; exact u64_and_nat m _ (by omega) (by omega)) (wrap_nat (m + 2 ^ j) _ rfl g1 _ (by simp)) (by omega) rfl rfl g2 rfl
        (u64_or_nat _ _ g1 hkl)
      rw [if_neg hY, show decide ((m + 2 ^ j ||| lowN k) ≤ lowN n) = false from by simpa using hY] at r
      exact r
end Go.Proofs.YtpldjhlhkjmneaaDoor
