/- Plain mathematics of the next mask with as many ones. No conditions but each theorem's own. -/
import Derived.Test.YtlfeibaghfcpaaaDoorMm
namespace Go.Proofs.YtlfeibaghfcpaaaDoor.Mm

theorem bt_above (n m i : Nat) (h : m < 2 ^ n) (hi : n ≤ i) : bt m i = 0 := by
  have := Nat.pow_le_pow_right (n := 2) (by decide) hi
  exact bt_of_lt i m (by omega)

theorem wt_above (n m : Nat) (h : m < 2 ^ n) : ∀ k, wt (n + k) m = wt n m
  | 0 => rfl
  | k + 1 => by rw [← Nat.add_assoc, wt_s, wt_above n m h k, bt_above n m (n + k) h (by omega)]; rfl

theorem rk_above (n m : Nat) (h : m < 2 ^ n) : ∀ k, rk (n + k) m = rk n m
  | 0 => rfl
  | k + 1 => by rw [← Nat.add_assoc, rk_s, rk_above n m h k, bt_above n m (n + k) h (by omega), if_neg (by decide)]; rfl

theorem wt_64 (n m : Nat) (h : m < 2 ^ n) (hn : n ≤ 64) : wt 64 m = wt n m := by
  have := wt_above n m h (64 - n)
  rwa [show n + (64 - n) = 64 from by omega] at this
theorem rk_64 (n m : Nat) (h : m < 2 ^ n) (hn : n ≤ 64) : rk 64 m = rk n m := by
  have := rk_above n m h (64 - n)
  rwa [show n + (64 - n) = 64 from by omega] at this

/-- m and its complement have no bit together. -/
theorem and_compl : ∀ q p, p < 2 ^ q → p &&& (2 ^ q - 1 - p) = 0
  | 0, p, h => by
    have : p = 0 := by simpa using h
    subst this; rfl
  | q + 1, p, h => by
    rw [Nat.pow_succ] at h
    have ih := and_compl q (p / 2) (by omega)
    have e1 : (2 ^ (q + 1) - 1 - p) / 2 = 2 ^ q - 1 - p / 2 := by rw [Nat.pow_succ]; omega
    have h1 : (p &&& (2 ^ (q + 1) - 1 - p)) / 2 = 0 := by
      have := Nat.and_div_two_pow (a := p) (b := 2 ^ (q + 1) - 1 - p) (n := 1)
      simp only [Nat.pow_one] at this
      rw [this, e1, ih]
    have h2 : (p &&& (2 ^ (q + 1) - 1 - p)) % 2 = 0 := by
      have := Nat.and_mod_two_pow (a := p) (b := 2 ^ (q + 1) - 1 - p) (n := 1)
      simp only [Nat.pow_one] at this
      rw [this]
      have : (2 ^ (q + 1) - 1 - p) % 2 = 1 - p % 2 := by rw [Nat.pow_succ]; omega
      rw [this]
      rcases Nat.mod_two_eq_zero_or_one p with h | h <;> rw [h] <;> rfl
    omega

/-- 'x & -x': the lowest one. -/
theorem lowest (j o q : Nat) (ho : o % 2 = 1) (hlt : o < 2 ^ q) (hq : 1 ≤ q) : (2 ^ j * o) &&& (2 ^ (j + q) - 2 ^ j * o) = 2 ^ j := by
  have e : 2 ^ (j + q) - 2 ^ j * o = 2 ^ j * (2 ^ q - o) := by rw [Nat.pow_add, Nat.mul_sub]
  have hj := Nat.two_pow_pos j
  have h1 : (2 ^ j * o &&& 2 ^ j * (2 ^ q - o)) / 2 ^ j = o &&& (2 ^ q - o) := by
    rw [Nat.and_div_two_pow, Nat.mul_div_cancel_left _ hj, Nat.mul_div_cancel_left _ hj]
  have h2 : (2 ^ j * o &&& 2 ^ j * (2 ^ q - o)) % 2 ^ j = 0 := by
    rw [Nat.and_mod_two_pow]; simp
  obtain ⟨r, rfl⟩ : ∃ r, q = r + 1 := ⟨q - 1, by omega⟩
  rw [Nat.pow_succ] at hlt
  have h3 : o &&& (2 ^ (r + 1) - o) = 1 := by
    have e1 : (o &&& (2 ^ (r + 1) - o)) / 2 = 0 := by
      have := Nat.and_div_two_pow (a := o) (b := 2 ^ (r + 1) - o) (n := 1)
      simp only [Nat.pow_one] at this
      rw [this, show (2 ^ (r + 1) - o) / 2 = 2 ^ r - 1 - o / 2 from by rw [Nat.pow_succ]; omega]
      exact and_compl r (o / 2) (by omega)
    have e2 : (o &&& (2 ^ (r + 1) - o)) % 2 = 1 := by
      have := Nat.and_mod_two_pow (a := o) (b := 2 ^ (r + 1) - o) (n := 1)
      simp only [Nat.pow_one] at this
      rw [this, ho, show (2 ^ (r + 1) - o) % 2 = 1 from by rw [Nat.pow_succ]; omega]
      rfl
    omega
  rw [e]
  have := Nat.div_add_mod (2 ^ j * o &&& 2 ^ j * (2 ^ (r + 1) - o)) (2 ^ j)
  rw [h1, h2, h3] at this
  omega

/-- The mask behind m. -/
def nextOf (n m : Nat) : Nat := ur n (wt n m) (rk n m + 1)

theorem pow_split {a b : Nat} (h : a ≤ b) : (2 : Nat) ^ b = 2 ^ (b - a) * 2 ^ a := by rw [← Nat.pow_add]; congr 1; omega

theorem next_cases (n A j k : Nat) (hm : A * 2 ^ (j + k + 2) + (2 ^ (k + 1) - 1) * 2 ^ j < 2 ^ n) :
    (j + k + 2 ≤ n ∧ A * 2 ^ (j + k + 2) + (2 ^ (j + k + 1) + (2 ^ k - 1)) < 2 ^ n ∧
      rk n (A * 2 ^ (j + k + 2) + (2 ^ (k + 1) - 1) * 2 ^ j) + 1 < C n (wt n (A * 2 ^ (j + k + 2) + (2 ^ (k + 1) - 1) * 2 ^ j)) ∧
      nextOf n (A * 2 ^ (j + k + 2) + (2 ^ (k + 1) - 1) * 2 ^ j) = A * 2 ^ (j + k + 2) + (2 ^ (j + k + 1) + (2 ^ k - 1))) ∨
    (j + k + 1 = n ∧ A = 0 ∧
      rk n (A * 2 ^ (j + k + 2) + (2 ^ (k + 1) - 1) * 2 ^ j) + 1 = C n (wt n (A * 2 ^ (j + k + 2) + (2 ^ (k + 1) - 1) * 2 ^ j))) := by
  have hk := Nat.two_pow_pos k
  have hj := Nat.two_pow_pos j
  have hge : 2 ^ (j + k) ≤ (2 ^ (k + 1) - 1) * 2 ^ j := by
    rw [ones_succ]; omega
  by_cases h : j + k + 2 ≤ n
  · left
    obtain ⟨t, rfl⟩ : ∃ t, n = j + k + 2 + t := ⟨n - (j + k + 2), by omega⟩
    have hlt : A * 2 ^ (j + k + 2) + (2 ^ (j + k + 1) + (2 ^ k - 1)) < 2 ^ (j + k + 2 + t) := by
      have e : (2 : Nat) ^ (j + k + 2 + t) = 2 ^ t * 2 ^ (j + k + 2) := by rw [Nat.pow_add, Nat.mul_comm]
      have hA : A < 2 ^ t := by
        rw [e] at hm
        refine Nat.lt_of_mul_lt_mul_right (a := 2 ^ (j + k + 2)) ?_
        omega
      have e2 : (2 : Nat) ^ (j + k + 2) = 2 * 2 ^ (j + k + 1) := by rw [Nat.pow_succ]; omega
      have e3 : (2 : Nat) ^ (j + k + 1) = 2 ^ (j + 1) * 2 ^ k := by rw [← Nat.pow_add]; congr 1; omega
      have h4 : 2 ^ k ≤ 2 ^ (j + k + 1) := Nat.pow_le_pow_right (by decide) (by omega)
      have h5 : (A + 1) * 2 ^ (j + k + 2) ≤ 2 ^ t * 2 ^ (j + k + 2) := Nat.mul_le_mul_right _ hA
      rw [Nat.add_mul] at h5
      omega
    obtain ⟨hw, hr⟩ := next_of A j k t
    have h1 := rk_lt (j + k + 2 + t) (A * 2 ^ (j + k + 2) + (2 ^ (j + k + 1) + (2 ^ k - 1)))
    have h2 := ur_rk _ _ hlt
    rw [hw, hr] at h1 h2
    exact ⟨h, hlt, h1, h2⟩
  · right
    have h1 : j + k < n := by
      apply Nat.lt_of_not_le
      intro h'
      have := Nat.pow_le_pow_right (n := 2) (by decide) h'
      omega
    have h2 : j + k + 1 = n := by omega
    subst h2
    have hA : A = 0 := by
      apply Nat.eq_zero_of_not_pos
      intro hpos
      have e2 : (2 : Nat) ^ (j + k + 2) = 2 * 2 ^ (j + k + 1) := by rw [Nat.pow_succ]; omega
      have := Nat.mul_le_mul_right (2 ^ (j + k + 2)) hpos
      omega
    subst hA
    obtain ⟨w1, r1⟩ := last_of j (k + 1)
    rw [← Nat.add_assoc] at w1 r1
    refine ⟨rfl, rfl, ?_⟩
    rw [Nat.zero_mul, Nat.zero_add, w1, r1]

theorem no_next_zero (n : Nat) : rk n 0 + 1 = C n (wt n 0) ∧ wt n 0 = 0 := by
  have h := first_of 0 n (by omega)
  simp only [Nat.pow_zero, Nat.sub_self] at h
  rw [h.1, h.2]
  simp
end Go.Proofs.YtlfeibaghfcpaaaDoor.Mm
