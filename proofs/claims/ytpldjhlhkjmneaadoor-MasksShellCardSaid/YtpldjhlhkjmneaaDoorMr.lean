/- Plain mathematics: a number's lowest one, and what is left without it. No conditions but each theorem's own. -/
import Derived.Test.YtpldjhlhkjmneaaDoorMn
namespace Go.Proofs.YtpldjhlhkjmneaaDoor.Mm

theorem odd_part : ∀ x : Nat, 0 < x → ∃ j o, x = 2 ^ j * o ∧ o % 2 = 1 := by
  intro x
  induction x using Nat.strongRecOn with
  | _ x ih =>
    intro hx
    by_cases h : x % 2 = 1
    · exact ⟨0, x, by simp, h⟩
    · obtain ⟨j, o, e, ho⟩ := ih (x / 2) (by omega) (by omega)
      refine ⟨j + 1, o, ?_, ho⟩
      rw [Nat.pow_succ, Nat.mul_comm (2 ^ j), Nat.mul_assoc, ← e]
      omega

/-- 'x & (x - 1)': without the lowest one. -/
theorem and_pred (j o : Nat) (ho : o % 2 = 1) : (2 ^ j * o) &&& (2 ^ j * o - 1) = 2 ^ j * (o - 1) := by
  have hj := Nat.two_pow_pos j
  have e : 2 ^ j * o - 1 = 2 ^ j * (o - 1) + (2 ^ j - 1) := by
    have : 2 ^ j * o = 2 ^ j * (o - 1) + 2 ^ j := by
      rw [← Nat.mul_succ]; congr 1; omega
    omega
  have h1 : (2 ^ j * o &&& (2 ^ j * o - 1)) / 2 ^ j = o - 1 := by
    rw [Nat.and_div_two_pow, Nat.mul_div_cancel_left _ hj, e, Nat.mul_add_div hj, Nat.div_eq_of_lt (by omega), Nat.add_zero]
    have q1 : (o &&& (o - 1)) / 2 = o / 2 := by
      have := Nat.and_div_two_pow (a := o) (b := o - 1) (n := 1)
      simp only [Nat.pow_one] at this
      rw [this, show (o - 1) / 2 = o / 2 from by omega, Nat.and_self]
    have q2 : (o &&& (o - 1)) % 2 = 0 := by
      have := Nat.and_mod_two_pow (a := o) (b := o - 1) (n := 1)
      simp only [Nat.pow_one] at this
      rw [this, ho, show (o - 1) % 2 = 0 from by omega]
      rfl
    omega
  have h2 : (2 ^ j * o &&& (2 ^ j * o - 1)) % 2 ^ j = 0 := by
    rw [Nat.and_mod_two_pow]; simp
  have := Nat.div_add_mod (2 ^ j * o &&& (2 ^ j * o - 1)) (2 ^ j)
  rw [h1, h2] at this
  omega

theorem zero_run (m t : Nat) : ∀ j, t ≤ j → (∀ i, t ≤ i → i < j → bt m i = 0) → wt j m = wt t m ∧ rk j m = rk t m := by
  intro j h
  induction h with
  | refl => intro _; exact ⟨rfl, rfl⟩
  | step h ih =>
    rename_i j
    intro hz
    obtain ⟨a, b⟩ := ih fun i h1 h2 => hz i h1 (by omega)
    have hb := hz j h (by omega)
    exact ⟨by rw [wt_s, a, hb]; rfl, by rw [rk_s, b, hb]; simp⟩

/-- m from bit t on. -/
def above (t m : Nat) : Nat := m / 2 ^ t * 2 ^ t

theorem above_split (t m : Nat) : m = above t m + m % 2 ^ t := by
  unfold above
  rw [Nat.mul_comm]
  exact (Nat.div_add_mod m (2 ^ t)).symm

/-- The lowest one of m from bit t on is bit j. -/
theorem above_step (t m j o : Nat) (h : above t m = 2 ^ j * o) (ho : o % 2 = 1) :
    t ≤ j ∧ 2 ^ j * (o - 1) = above (j + 1) m ∧ wt (j + 1) m = wt t m + 1 ∧ rk (j + 1) m = rk t m + C j (wt t m + 1) := by
  have hj := Nat.two_pow_pos j
  have hr := Nat.mod_lt m (Nat.two_pow_pos t)
  have hs := above_split t m
  have ht : t ≤ j := by
    apply Nat.le_of_not_lt
    intro hlt
    have hd : 2 ^ (j + 1) ∣ above t m := Nat.dvd_trans (Nat.pow_dvd_pow 2 hlt) (Nat.dvd_mul_left _ _)
    rw [h, Nat.pow_succ] at hd
    have := Nat.dvd_of_mul_dvd_mul_left hj hd
    omega
  have hle := Nat.pow_le_pow_right (n := 2) (by decide) ht
  have hm : m = 2 ^ j * o + m % 2 ^ t := by rw [← h]; exact hs
  generalize m % 2 ^ t = r at hr hm
  have hbj : bt m j = 1 := by
    unfold bt
    rw [hm, Nat.mul_add_div hj, Nat.div_eq_of_lt (by omega), Nat.add_zero, ho]
  have hz : ∀ i, t ≤ i → i < j → bt m i = 0 := by
    intro i h1 h2
    have hle2 := Nat.pow_le_pow_right (n := 2) (by decide) h1
    have hi := Nat.two_pow_pos i
    obtain ⟨d, rfl⟩ : ∃ d, j = i + (d + 1) := ⟨j - i - 1, by omega⟩
    unfold bt
    rw [hm, Nat.pow_add, Nat.mul_assoc, Nat.mul_add_div hi, Nat.div_eq_of_lt (by omega), Nat.add_zero, Nat.pow_succ, Nat.mul_comm (2 ^ d), Nat.mul_assoc]
    exact Nat.mul_mod_right _ _
  obtain ⟨a, b⟩ := zero_run m t j ht hz
  refine ⟨ht, ?_, by rw [wt_s, a, hbj], by rw [rk_s, b, if_pos hbj, wt_s, a, hbj]⟩
  unfold above
  have e0 : m / 2 ^ j = o := by rw [hm, Nat.mul_add_div hj, Nat.div_eq_of_lt (by omega), Nat.add_zero]
  have e : m / 2 ^ (j + 1) = o / 2 := by rw [Nat.pow_succ, ← Nat.div_div_eq_div_mul, e0]
  rw [e, Nat.pow_succ, Nat.mul_comm (2 ^ j) 2, ← Nat.mul_assoc, Nat.mul_comm]
  congr 1
  omega

theorem above_zero (t m : Nat) (h : above t m = 0) : m < 2 ^ t := by
  have := above_split t m
  have := Nat.mod_lt m (Nat.two_pow_pos t)
  omega

theorem above_all (m : Nat) : above 0 m = m := by unfold above; simp

theorem above_le (t m : Nat) : above t m ≤ m := by have := above_split t m; omega

theorem ur_none : ∀ n, ur n 0 0 = 0
  | 0 => rfl
  | n + 1 => by rw [ur, C_zero, if_neg (by decide), ur_none n]

theorem ur_first (n s : Nat) (hs : s ≤ n) : ur n s 0 = 2 ^ s - 1 := by
  obtain ⟨h1, h2⟩ := first_of s n hs
  have hlt : 2 ^ s - 1 < 2 ^ n := by
    have := Nat.two_pow_pos s
    have := Nat.pow_le_pow_right (n := 2) (by decide) hs
    omega
  have := ur_rk n _ hlt
  rw [h1, h2] at this
  exact this
end Go.Proofs.YtpldjhlhkjmneaaDoor.Mm
