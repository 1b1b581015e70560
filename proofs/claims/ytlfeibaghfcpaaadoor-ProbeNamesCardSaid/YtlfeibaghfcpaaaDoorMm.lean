/- Plain mathematics of masks (Pascal's triangle, weights, places). No conditions; nothing of the program. -/
namespace Go.Proofs.YtlfeibaghfcpaaaDoor.Mm
/-- Pascal's triangle. -/
def C : Nat → Nat → Nat
  | _, 0 => 1
  | 0, _ + 1 => 0
  | n + 1, s + 1 => C n s + C n (s + 1)

@[simp] theorem C_zero (n : Nat) : C n 0 = 1 := by cases n <;> rfl
@[simp] theorem C_zero_succ (s : Nat) : C 0 (s + 1) = 0 := rfl
theorem C_succ (n s : Nat) : C (n + 1) (s + 1) = C n s + C n (s + 1) := rfl

theorem C_gt : ∀ n s, n < s → C n s = 0
  | 0, 0, h => by omega
  | 0, s + 1, _ => rfl
  | n + 1, 0, h => by omega
  | n + 1, s + 1, h => by rw [C_succ, C_gt n s (by omega), C_gt n (s + 1) (by omega)]

theorem C_self : ∀ n, C n n = 1
  | 0 => rfl
  | n + 1 => by rw [C_succ, C_self n, C_gt n (n + 1) (by omega)]

theorem C_pos : ∀ n s, s ≤ n → 1 ≤ C n s
  | _, 0, _ => by simp
  | 0, s + 1, h => by omega
  | n + 1, s + 1, h => by have := C_pos n s (by omega); rw [C_succ]; omega

theorem C_le : ∀ n s, C (n + 3) s + 1 ≤ 2 ^ (n + 2)
  | 0, 0 => by decide
  | 0, 1 => by decide
  | 0, 2 => by decide
  | 0, 3 => by decide
  | 0, s + 4 => by rw [C_gt 3 (s + 4) (by omega)]; decide
  | n + 1, 0 => by have := Nat.one_le_two_pow (n := n + 1); rw [C_zero]; simp only [Nat.pow_succ] at *; omega
  | n + 1, s + 1 => by
    have a := C_le n s; have b := C_le n (s + 1)
    rw [show n + 1 + 3 = (n + 3) + 1 from rfl, C_succ]; simp only [Nat.pow_succ] at *; omega

theorem C_mono (n s : Nat) : C n s ≤ C (n + 1) s := by
  cases s with
  | zero => simp
  | succ s => rw [C_succ]; omega

theorem C_mono_le {n m : Nat} (s : Nat) (h : n ≤ m) : C n s ≤ C m s := by
  induction h with
  | refl => exact Nat.le_refl _
  | step _ ih => exact Nat.le_trans ih (C_mono _ _)

theorem C_lt (n s : Nat) (h : n ≤ 64) : C n s < 9223372036854775808 := by
  have a := C_mono_le s h
  have b := C_le 61 s
  have : (2 : Nat) ^ (61 + 2) = 9223372036854775808 := by decide
  simp only [this] at b
  have e : (61 + 3 : Nat) = 64 := rfl
  rw [e] at b
  omega

theorem C_symm : ∀ n s, s ≤ n → C n (n - s) = C n s
  | n, 0, _ => by simp [C_self]
  | 0, s + 1, h => by omega
  | n + 1, s + 1, h => by
    by_cases e : s = n
    · subst e; rw [Nat.sub_self, C_zero, C_self]
    · have h1 := C_symm n s (by omega)
      have h2 := C_symm n (s + 1) (by omega)
      rw [show n + 1 - (s + 1) = (n - (s + 1)) + 1 from by omega, C_succ, C_succ, h2,
        show n - (s + 1) + 1 = n - s from by omega, h1]
      omega

/-- The sum of the counts up to s. -/
def S (n : Nat) : Nat → Nat
  | 0 => C n 0
  | s + 1 => S n s + C n (s + 1)

theorem S_succ (n s : Nat) : S (n + 1) (s + 1) = S n s + S n (s + 1) := by
  induction s with
  | zero => simp [S, C_succ]
  | succ s ih => rw [S, ih]; simp only [S, C_succ]; omega

theorem S_all : ∀ n, S n n = 2 ^ n
  | 0 => rfl
  | n + 1 => by
    rw [S_succ, S, C_gt n (n + 1) (by omega), S_all n, Nat.pow_succ]; omega

theorem S_mono (n : Nat) {s t : Nat} (h : s ≤ t) : S n s ≤ S n t := by
  induction h with
  | refl => exact Nat.le_refl _
  | step _ ih => exact Nat.le_trans ih (by rw [S]; omega)

/-- bit i of m. -/
def bt (m i : Nat) : Nat := m / 2 ^ i % 2
theorem bt_lt (m i : Nat) : bt m i < 2 := Nat.mod_lt _ (by decide)

/-- The weight of the lowest n bits. -/
def wt : Nat → Nat → Nat
  | 0, _ => 0
  | n + 1, m => wt n m + bt m n

/-- The place of the lowest n bits among those of their weight. -/
def rk : Nat → Nat → Nat
  | 0, _ => 0
  | n + 1, m => rk n m + (if bt m n = 1 then C n (wt (n + 1) m) else 0)

/-- The mask at a place. -/
def ur : Nat → Nat → Nat → Nat
  | 0, _, _ => 0
  | n + 1, s, r => if C n s ≤ r then 2 ^ n + ur n (s - 1) (r - C n s) else ur n s r

theorem wt_s (n m : Nat) : wt (n + 1) m = wt n m + bt m n := rfl
theorem rk_s (n m : Nat) : rk (n + 1) m = rk n m + (if bt m n = 1 then C n (wt (n + 1) m) else 0) := rfl

theorem bt_mod (m i n : Nat) (h : i < n) : bt (m % 2 ^ n) i = bt m i := by
  unfold bt
  obtain ⟨k, rfl⟩ : ∃ k, n = i + 1 + k := ⟨n - (i + 1), by omega⟩
  have e : 2 ^ (i + 1 + k) = 2 ^ i * (2 * 2 ^ k) := by rw [Nat.pow_add, Nat.pow_succ, Nat.mul_assoc]
  rw [e, Nat.mod_mul_right_div_self, Nat.mod_mul_right_mod]

theorem wt_mod (n k m : Nat) (h : k ≤ n) : wt k (m % 2 ^ n) = wt k m := by
  induction k with
  | zero => rfl
  | succ k ih => rw [wt, wt, ih (by omega), bt_mod m k n (by omega)]

theorem rk_mod (n k m : Nat) (h : k ≤ n) : rk k (m % 2 ^ n) = rk k m := by
  induction k with
  | zero => rfl
  | succ k ih => rw [rk, rk, ih (by omega), bt_mod m k n (by omega), wt_mod n (k + 1) m h]

theorem wt_le (n m : Nat) : wt n m ≤ n := by
  induction n with
  | zero => exact Nat.le_refl _
  | succ n ih => have := bt_lt m n; rw [wt]; omega

theorem rk_lt (n m : Nat) : rk n m < C n (wt n m) := by
  induction n with
  | zero => simp [rk, wt]
  | succ n ih =>
    rw [rk, wt]
    have hb := bt_lt m n
    by_cases h : bt m n = 1
    · rw [if_pos h, h, C_succ]; omega
    · have h0 : bt m n = 0 := by omega
      rw [if_neg h, h0]
      have := C_mono n (wt n m)
      simp only [Nat.add_zero]; omega

theorem low_split (n m : Nat) (h : m < 2 ^ (n + 1)) : m = 2 ^ n * bt m n + m % 2 ^ n := by
  have e : m / 2 ^ n < 2 := Nat.div_lt_of_lt_mul (by rw [Nat.pow_succ] at h; omega)
  unfold bt
  rw [Nat.mod_eq_of_lt e]
  have := Nat.div_add_mod m (2 ^ n)
  omega

/-- 'there': a mask's place gives the mask. -/
theorem ur_rk : ∀ n m, m < 2 ^ n → ur n (wt n m) (rk n m) = m
  | 0, m, h => by
    have : m = 0 := by simpa using h
    subst this; rfl
  | n + 1, m, h => by
    have hb := bt_lt m n
    have hs := low_split n m h
    have hr := rk_lt n m
    have ih := ur_rk n (m % 2 ^ n) (Nat.mod_lt _ (Nat.two_pow_pos n))
    rw [wt_mod n n m (Nat.le_refl _), rk_mod n n m (Nat.le_refl _)] at ih
    by_cases h1 : bt m n = 1
    · have ew : wt (n + 1) m = wt n m + 1 := by rw [wt, h1]
      rw [ur, rk, if_pos h1, if_pos (by omega), Nat.add_sub_cancel, ew, Nat.add_sub_cancel, ih]
      rw [h1] at hs; omega
    · have h0 : bt m n = 0 := by omega
      have ew : wt (n + 1) m = wt n m := by rw [wt, h0]; rfl
      rw [ur, rk, if_neg h1, ew, Nat.add_zero, if_neg (by omega), ih]
      rw [h0] at hs; omega

theorem ur_lt : ∀ n s r, ur n s r < 2 ^ n
  | 0, _, _ => by simp [ur]
  | n + 1, s, r => by
    rw [ur, Nat.pow_succ]
    by_cases h : C n s ≤ r
    · rw [if_pos h]; have := ur_lt n (s - 1) (r - C n s); omega
    · rw [if_neg h]; have := ur_lt n s r; omega

theorem bt_add (n k : Nat) (h : k < 2 ^ n) : bt (2 ^ n + k) n = 1 := by
  unfold bt
  rw [Nat.add_div_left _ (Nat.two_pow_pos n), Nat.div_eq_of_lt h]
theorem bt_of_lt (n k : Nat) (h : k < 2 ^ n) : bt k n = 0 := by
  unfold bt; rw [Nat.div_eq_of_lt h]

/-- 'back': the mask at a place has the weight and the place. -/
theorem of_ur : ∀ n s r, r < C n s → wt n (ur n s r) = s ∧ rk n (ur n s r) = r
  | 0, 0, r, h => by simp [C] at h; simp [wt, rk, h]
  | 0, s + 1, r, h => by simp at h
  | n + 1, s, r, h => by
    rw [ur]
    by_cases hc : C n s ≤ r
    · rw [if_pos hc]
      have hl := ur_lt n (s - 1) (r - C n s)
      have hb := bt_add n _ hl
      cases s with
      | zero => simp at h hc; omega
      | succ s =>
        rw [C_succ] at h
        rw [Nat.add_sub_cancel] at *
        have ih := of_ur n s (r - C n (s + 1)) (by omega)
        have em : (2 ^ n + ur n s (r - C n (s + 1))) % 2 ^ n = ur n s (r - C n (s + 1)) := by
          rw [Nat.add_mod_left, Nat.mod_eq_of_lt hl]
        have ew : wt n (2 ^ n + ur n s (r - C n (s + 1))) = s := by
          rw [← wt_mod n n _ (Nat.le_refl _), em]; exact ih.1
        have er : rk n (2 ^ n + ur n s (r - C n (s + 1))) = r - C n (s + 1) := by
          rw [← rk_mod n n _ (Nat.le_refl _), em]; exact ih.2
        refine ⟨by rw [wt, ew, hb], ?_⟩
        rw [rk, er, if_pos hb, wt, ew, hb]; omega
    · rw [if_neg hc]
      have hl := ur_lt n s r
      have hb := bt_of_lt n _ hl
      have ih := of_ur n s r (by omega)
      refine ⟨by rw [wt, ih.1, hb]; rfl, ?_⟩
      rw [rk, ih.2, if_neg (by omega)]; omega

/-- places are in the masks' order. -/
theorem rk_lt_rk : ∀ n x y, x < 2 ^ n → y < 2 ^ n → wt n x = wt n y → x < y → rk n x < rk n y
  | 0, x, y, hx, hy, _, h => by simp at hx hy; omega
  | n + 1, x, y, hx, hy, hw, h => by
    have bx := bt_lt x n; have by' := bt_lt y n
    have sx := low_split n x hx; have sy := low_split n y hy
    have lx := Nat.mod_lt x (Nat.two_pow_pos n); have ly := Nat.mod_lt y (Nat.two_pow_pos n)
    have ih := rk_lt_rk n (x % 2 ^ n) (y % 2 ^ n) lx ly
    rw [wt_mod n n x (Nat.le_refl _), wt_mod n n y (Nat.le_refl _), rk_mod n n x (Nat.le_refl _), rk_mod n n y (Nat.le_refl _)] at ih
    have hw' := hw
    rw [wt, wt] at hw'
    rw [rk, rk, ← hw]
    by_cases h1 : bt x n = 1
    · by_cases h2 : bt y n = 1
      · rw [h1] at sx; rw [h2] at sy
        have := ih (by omega) (by omega)
        rw [if_pos h1, if_pos h2]; omega
      · have : bt y n = 0 := by omega
        rw [h1] at sx; rw [this] at sy; omega
    · have h0 : bt x n = 0 := by omega
      by_cases h2 : bt y n = 1
      · rw [if_neg h1, if_pos h2]
        have := rk_lt n x
        have e : wt (n + 1) x = wt n x := by rw [wt, h0]; rfl
        rw [e]; omega
      · have h3 : bt y n = 0 := by omega
        rw [h0] at sx; rw [h3] at sy
        have := ih (by omega) (by omega)
        rw [if_neg h1, if_neg h2]; omega

/-! ### what lies above does not mix with what lies below -/
theorem bt_high (L A B i : Nat) (hB : B < 2 ^ L) : bt (A * 2 ^ L + B) (L + i) = bt A i := by
  unfold bt
  rw [Nat.pow_add, ← Nat.div_div_eq_div_mul, Nat.mul_comm A, Nat.mul_add_div (Nat.two_pow_pos L), Nat.div_eq_of_lt hB, Nat.add_zero]

theorem low_mod (L A B : Nat) (hB : B < 2 ^ L) : (A * 2 ^ L + B) % 2 ^ L = B := by
  rw [Nat.mul_add_mod_self_right, Nat.mod_eq_of_lt hB]

theorem wt_low (L A B : Nat) (hB : B < 2 ^ L) : wt L (A * 2 ^ L + B) = wt L B := by
  rw [← wt_mod L L _ (Nat.le_refl _), low_mod L A B hB]

theorem rk_low (L A B : Nat) (hB : B < 2 ^ L) : rk L (A * 2 ^ L + B) = rk L B := by
  rw [← rk_mod L L _ (Nat.le_refl _), low_mod L A B hB]

theorem wt_split (L A B t : Nat) (hB : B < 2 ^ L) : wt (L + t) (A * 2 ^ L + B) = wt L B + wt t A := by
  induction t with
  | zero => rw [Nat.add_zero, wt_low L A B hB]; rfl
  | succ t ih => rw [← Nat.add_assoc, wt, ih, bt_high L A B t hB, wt]; omega

/-- Two masks that part in their lowest L bits alone, which weigh the same: their places part by as much as those bits' places do. -/
theorem rk_split (L A B B' t d : Nat) (hB : B < 2 ^ L) (hB' : B' < 2 ^ L) (hw : wt L B' = wt L B) (hd : rk L B' = rk L B + d) :
    rk (L + t) (A * 2 ^ L + B') = rk (L + t) (A * 2 ^ L + B) + d := by
  induction t with
  | zero => rw [Nat.add_zero, rk_low L A B hB, rk_low L A B' hB', hd]
  | succ t ih =>
    rw [← Nat.add_assoc, rk, rk, ih, bt_high L A B t hB, bt_high L A B' t hB']
    rw [show L + t + 1 = L + (t + 1) from rfl, wt_split L A B (t + 1) hB, wt_split L A B' (t + 1) hB', hw]
    omega

/-! ### k ones with j zeros below them: the last of its weight in j + k bits -/
theorem ones_lt (j k : Nat) : (2 ^ k - 1) * 2 ^ j < 2 ^ (j + k) := by
  have := Nat.two_pow_pos k
  have h := Nat.two_pow_pos j
  rw [Nat.pow_add, Nat.mul_comm (2 ^ j)]
  exact Nat.mul_lt_mul_of_pos_right (by omega) h

theorem ones_succ (j k : Nat) : (2 ^ (k + 1) - 1) * 2 ^ j = 2 ^ (j + k) + (2 ^ k - 1) * 2 ^ j := by
  have := Nat.two_pow_pos k
  rw [Nat.pow_succ, Nat.pow_add, Nat.mul_comm (2 ^ j), ← Nat.add_mul]
  congr 1; omega

theorem last_of (j k : Nat) : wt (j + k) ((2 ^ k - 1) * 2 ^ j) = k ∧ rk (j + k) ((2 ^ k - 1) * 2 ^ j) + 1 = C (j + k) k := by
  induction k with
  | zero =>
    have : ∀ n, wt n 0 = 0 ∧ rk n 0 = 0 := by
      intro n
      induction n with
      | zero => exact ⟨rfl, rfl⟩
      | succ n ih =>
        have hb : bt 0 n = 0 := by simp [bt]
        exact ⟨by rw [wt, ih.1, hb], by rw [rk, ih.2, hb]; simp⟩
    simp [this]
  | succ k ih =>
    have hl := ones_lt j k
    have hb := bt_add (j + k) _ hl
    have e : (2 ^ (j + k) + (2 ^ k - 1) * 2 ^ j) % 2 ^ (j + k) = (2 ^ k - 1) * 2 ^ j := by
      rw [Nat.add_mod_left, Nat.mod_eq_of_lt hl]
    have ew : wt (j + k) (2 ^ (j + k) + (2 ^ k - 1) * 2 ^ j) = k := by
      rw [← wt_mod _ _ _ (Nat.le_refl _), e]; exact ih.1
    have er : rk (j + k) (2 ^ (j + k) + (2 ^ k - 1) * 2 ^ j) = rk (j + k) ((2 ^ k - 1) * 2 ^ j) := by
      rw [← rk_mod _ _ _ (Nat.le_refl _), e]
    rw [ones_succ, ← Nat.add_assoc]
    refine ⟨by rw [wt, ew, hb], ?_⟩
    rw [rk, er, if_pos hb, wt, ew, hb, C_succ]
    omega

/-- the lowest k bits: the first of its weight. -/
theorem first_of (k : Nat) : ∀ n, k ≤ n → wt n (2 ^ k - 1) = k ∧ rk n (2 ^ k - 1) = 0 := by
  have hk : ∀ k, wt k (2 ^ k - 1) = k ∧ rk k (2 ^ k - 1) = 0 := by
    intro k
    have := last_of 0 k
    simp only [Nat.zero_add, Nat.pow_zero, Nat.mul_one, C_self] at this
    exact ⟨this.1, by omega⟩
  intro n h
  induction h with
  | refl => exact hk k
  | step hm ih =>
    rename_i m
    have hlt : 2 ^ k - 1 < 2 ^ m := by
      have := Nat.two_pow_pos k
      have := Nat.pow_le_pow_right (n := 2) (by decide) hm
      omega
    have hb := bt_of_lt m _ hlt
    exact ⟨by rw [wt, ih.1, hb]; rfl, by rw [rk, ih.2, hb]; simp⟩

/-! ### the next mask -/
/-- what a number is: nothing, or: above, a zero, k + 1 ones, j zeros. -/
theorem parts : ∀ m : Nat, m = 0 ∨ ∃ A j k, m = A * 2 ^ (j + k + 2) + (2 ^ (k + 1) - 1) * 2 ^ j := by
  have odd : ∀ m : Nat, ∃ A k, m = A * 2 ^ (k + 1) + (2 ^ k - 1) := by
    intro m
    induction m using Nat.strongRecOn with
    | _ m ih =>
      by_cases h : m % 2 = 0
      · exact ⟨m / 2, 0, by simp; omega⟩
      · obtain ⟨A, k, e⟩ := ih (m / 2) (by omega)
        refine ⟨A, k + 1, ?_⟩
        have := Nat.two_pow_pos k
        rw [Nat.pow_succ 2 (k + 1), ← Nat.mul_assoc, Nat.pow_succ 2 k] at *
        omega
  intro m
  induction m using Nat.strongRecOn with
  | _ m ih =>
    by_cases h0 : m = 0
    · exact .inl h0
    right
    by_cases h : m % 2 = 0
    · rcases ih (m / 2) (by omega) with e | ⟨A, j, k, e⟩
      · omega
      · refine ⟨A, j + 1, k, ?_⟩
        rw [show j + 1 + k + 2 = (j + k + 2) + 1 from by omega, Nat.pow_succ 2 (j + k + 2), Nat.pow_succ 2 j, ← Nat.mul_assoc, ← Nat.mul_assoc, ← Nat.add_mul, ← e]
        omega
    · obtain ⟨A, k, e⟩ := odd (m / 2)
      refine ⟨A, 0, k, ?_⟩
      have := Nat.two_pow_pos k
      simp only [Nat.zero_add, Nat.pow_zero, Nat.mul_one]
      rw [show k + 2 = (k + 1) + 1 from rfl, Nat.pow_succ 2 (k + 1), ← Nat.mul_assoc, Nat.pow_succ 2 k] at *
      omega

/-- the mask behind A 0 1..1 0..0 (k + 1 ones, j zeros): A 1 0..0 1..1 (j + 1 zeros, k ones): its weight is the same, its place the next. -/
theorem next_of (A j k t : Nat) :
    wt (j + k + 2 + t) (A * 2 ^ (j + k + 2) + (2 ^ (j + k + 1) + (2 ^ k - 1))) = wt (j + k + 2 + t) (A * 2 ^ (j + k + 2) + (2 ^ (k + 1) - 1) * 2 ^ j) ∧
    rk (j + k + 2 + t) (A * 2 ^ (j + k + 2) + (2 ^ (j + k + 1) + (2 ^ k - 1))) = rk (j + k + 2 + t) (A * 2 ^ (j + k + 2) + (2 ^ (k + 1) - 1) * 2 ^ j) + 1 := by
  have hl : 2 ^ k - 1 < 2 ^ (j + k + 1) := by
    have := Nat.two_pow_pos k
    have := Nat.pow_le_pow_right (n := 2) (by decide) (show k ≤ j + k + 1 by omega)
    omega
  have ho := ones_lt j (k + 1)
  have e2 : (2 : Nat) ^ (j + k + 2) = 2 ^ (j + k + 1) * 2 := Nat.pow_succ ..
  rw [← Nat.add_assoc] at ho
  have hB : (2 ^ (k + 1) - 1) * 2 ^ j < 2 ^ (j + k + 2) := by omega
  have hB' : 2 ^ (j + k + 1) + (2 ^ k - 1) < 2 ^ (j + k + 2) := by omega
  have hb := bt_add (j + k + 1) _ hl
  have hb0 := bt_of_lt (j + k + 1) _ ho
  obtain ⟨w1, r1⟩ := last_of j (k + 1)
  rw [← Nat.add_assoc] at w1 r1
  obtain ⟨w2, r2⟩ := first_of k (j + k + 1) (by omega)
  have em : (2 ^ (j + k + 1) + (2 ^ k - 1)) % 2 ^ (j + k + 1) = 2 ^ k - 1 := by rw [Nat.add_mod_left, Nat.mod_eq_of_lt hl]
  have w3 : wt (j + k + 1) (2 ^ (j + k + 1) + (2 ^ k - 1)) = k := by rw [← wt_mod _ _ _ (Nat.le_refl _), em]; exact w2
  have r3 : rk (j + k + 1) (2 ^ (j + k + 1) + (2 ^ k - 1)) = 0 := by rw [← rk_mod _ _ _ (Nat.le_refl _), em]; exact r2
  have hw : wt (j + k + 2) (2 ^ (j + k + 1) + (2 ^ k - 1)) = wt (j + k + 2) ((2 ^ (k + 1) - 1) * 2 ^ j) := by
    rw [show j + k + 2 = (j + k + 1) + 1 from rfl, wt_s (j + k + 1), wt_s (j + k + 1), w1, hb0, w3, hb]
  have hr : rk (j + k + 2) (2 ^ (j + k + 1) + (2 ^ k - 1)) = rk (j + k + 2) ((2 ^ (k + 1) - 1) * 2 ^ j) + 1 := by
    rw [show j + k + 2 = (j + k + 1) + 1 from rfl, rk_s (j + k + 1), rk_s (j + k + 1), r3, if_pos hb, wt_s (j + k + 1), w3, hb, hb0, if_neg (by decide), Nat.add_zero, r1]; omega
  exact ⟨by rw [wt_split _ _ _ _ hB, wt_split _ _ _ _ hB', hw], rk_split _ A _ _ t 1 hB hB' hw hr⟩
end Go.Proofs.YtlfeibaghfcpaaaDoor.Mm
