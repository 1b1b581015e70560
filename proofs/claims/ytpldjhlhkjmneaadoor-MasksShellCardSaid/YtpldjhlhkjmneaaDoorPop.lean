/- The parallel sum of a word's bits (what math/bits.OnesCount64 computes) is its weight: plain mathematics. No conditions but each theorem's own. -/
import Derived.Test.YtpldjhlhkjmneaaDoorMm
namespace Go.Proofs.YtpldjhlhkjmneaaDoor.Mm

/-- The sum of the lowest n digits in base 2 ^ c. -/
def ds (c : Nat) : Nat → Nat → Nat
  | 0, _ => 0
  | n + 1, x => x % 2 ^ c + ds c n (x / 2 ^ c)

/-- Each of the lowest n digits is at most b. -/
def sm (c b : Nat) : Nat → Nat → Prop
  | 0, _ => True
  | n + 1, x => x % 2 ^ c ≤ b ∧ sm c b n (x / 2 ^ c)

/-- n fields of 2 b bits, each with its lowest b bits set. -/
def mk (b : Nat) : Nat → Nat
  | 0 => 0
  | n + 1 => (2 ^ b - 1) + 2 ^ (2 * b) * mk b n

def keep (b : Nat) : Nat → Nat → Nat
  | 0, _ => 0
  | n + 1, x => x % 2 ^ b + 2 ^ (2 * b) * keep b n (x / 2 ^ (2 * b))

/-- Neighbours added. -/
def fold (b : Nat) : Nat → Nat → Nat
  | 0, _ => 0
  | n + 1, x => (x / 2 ^ b % 2 ^ b + x % 2 ^ b) + 2 ^ (2 * b) * fold b n (x / 2 ^ (2 * b))

theorem two_b (b : Nat) : 2 ^ (2 * b) = 2 ^ b * 2 ^ b := by rw [← Nat.pow_add]; congr 1; omega

theorem and_mk (b : Nat) : ∀ n x, x &&& mk b n = keep b n x
  | 0, x => by simp [mk, keep]
  | n + 1, x => by
    have hB := Nat.two_pow_pos b
    have hm : 2 ^ b - 1 < 2 ^ (2 * b) := by
      have := Nat.pow_le_pow_right (n := 2) (by decide) (show b ≤ 2 * b by omega); omega
    have h1 : (x &&& mk b (n + 1)) % 2 ^ (2 * b) = x % 2 ^ b := by
      rw [Nat.and_mod_two_pow, mk, Nat.add_mul_mod_self_left, Nat.mod_eq_of_lt hm, Nat.and_two_pow_sub_one_eq_mod, two_b, Nat.mod_mul_right_mod]
    have h2 : (x &&& mk b (n + 1)) / 2 ^ (2 * b) = keep b n (x / 2 ^ (2 * b)) := by
      rw [Nat.and_div_two_pow, mk, Nat.add_mul_div_left _ _ (Nat.two_pow_pos _), Nat.div_eq_of_lt hm, Nat.zero_add, and_mk b n]
    rw [keep, ← h1, ← h2]
    exact (Nat.mod_add_div _ _).symm

theorem keep_fold (b : Nat) : ∀ n x, keep b n (x / 2 ^ b) + keep b n x = fold b n x
  | 0, x => rfl
  | n + 1, x => by
    have ih := keep_fold b n (x / 2 ^ (2 * b))
    rw [keep, keep, fold, ← ih, Nat.div_div_eq_div_mul, Nat.mul_comm (2 ^ b), ← Nat.div_div_eq_div_mul, Nat.mul_add]
    omega

theorem fold_mod (b n x : Nat) (hb : 1 ≤ b) : fold b (n + 1) x % 2 ^ (2 * b) = x / 2 ^ b % 2 ^ b + x % 2 ^ b ∧ fold b (n + 1) x / 2 ^ (2 * b) = fold b n (x / 2 ^ (2 * b)) := by
  have h1 := Nat.mod_lt (x / 2 ^ b) (Nat.two_pow_pos b)
  have h2 := Nat.mod_lt x (Nat.two_pow_pos b)
  have h3 : 2 * 2 ^ b ≤ 2 ^ (2 * b) := by
    rw [two_b]; exact Nat.mul_le_mul_right _ (show 2 ^ 1 ≤ 2 ^ b from Nat.pow_le_pow_right (by decide) hb)
  have h4 : x / 2 ^ b % 2 ^ b + x % 2 ^ b < 2 ^ (2 * b) := by omega
  rw [fold]
  exact ⟨by rw [Nat.add_mul_mod_self_left, Nat.mod_eq_of_lt h4], by rw [Nat.add_mul_div_left _ _ (Nat.two_pow_pos _), Nat.div_eq_of_lt h4, Nat.zero_add]⟩

theorem ds_fold (b : Nat) (hb : 1 ≤ b) : ∀ n x, ds (2 * b) n (fold b n x) = ds b (2 * n) x
  | 0, x => rfl
  | n + 1, x => by
    obtain ⟨h1, h2⟩ := fold_mod b n x hb
    rw [ds, h1, h2, ds_fold b hb n, show 2 * (n + 1) = 2 * n + 1 + 1 from by omega, ds, ds, Nat.div_div_eq_div_mul, ← two_b]
    omega

theorem sm_fold (b c : Nat) (hb : 1 ≤ b) : ∀ n x, sm b c (2 * n) x → sm (2 * b) (2 * c) n (fold b n x)
  | 0, x, _ => trivial
  | n + 1, x, h => by
    obtain ⟨h1, h2⟩ := fold_mod b n x hb
    rw [show 2 * (n + 1) = 2 * n + 1 + 1 from by omega, sm, sm, Nat.div_div_eq_div_mul, ← two_b] at h
    rw [sm, h1, h2]
    exact ⟨by omega, sm_fold b c hb n _ h.2.2⟩

theorem sm_one : ∀ n x, sm 1 1 n x
  | 0, _ => trivial
  | n + 1, x => ⟨by have := Nat.mod_lt x (show 0 < 2 ^ 1 by decide); omega, sm_one n _⟩

theorem bt_succ (m i : Nat) : bt m (i + 1) = bt (m / 2) i := by
  unfold bt
  rw [Nat.pow_succ, Nat.mul_comm, ← Nat.div_div_eq_div_mul]

theorem wt_ds : ∀ n x, wt n x = ds 1 n x
  | 0, x => rfl
  | n + 1, x => by
    have h : ∀ n x, wt (n + 1) x = x % 2 + wt n (x / 2) := by
      intro n
      induction n with
      | zero => intro x; simp [wt, bt]
      | succ n ih => intro x; rw [wt_s (n + 1), ih, wt_s n (x / 2), bt_succ]; omega
    rw [h, wt_ds n]
    rfl

/-- The third step leaves the first mask away. -/
theorem keep_sum : ∀ n x, sm 4 4 (2 * n) x → x < 2 ^ (8 * n) → keep 4 n (x / 16 + x) = fold 4 n x
  | 0, x, _, _ => rfl
  | n + 1, x, h, hx => by
    rw [show 2 * (n + 1) = 2 * n + 1 + 1 from by omega, sm, sm] at h
    obtain ⟨h1, h2, h3⟩ := h
    have h3' : sm 4 4 (2 * n) (x / 256) := by
      rw [Nat.div_div_eq_div_mul] at h3; exact h3
    have hx' : x / 256 < 2 ^ (8 * n) := by
      rw [show 8 * (n + 1) = 8 * n + 8 from by omega, Nat.pow_add] at hx
      exact Nat.div_lt_of_lt_mul (by rw [Nat.mul_comm]; exact hx)
    have ih := keep_sum n (x / 256) h3' hx'
    have h4 : x / 256 % 16 ≤ 4 := by
      cases n with
      | zero => simp at hx'; omega
      | succ n => rw [show 2 * (n + 1) = 2 * n + 1 + 1 from by omega, sm] at h3'; exact h3'.1
    simp only [show (2 : Nat) ^ 4 = 16 from rfl] at h1 h2
    have hd : x / 16 / 16 = x / 256 := by rw [Nat.div_div_eq_div_mul]
    have e1 : (x / 16 + x) % 16 = x / 16 % 16 + x % 16 := by omega
    have e2 : (x / 16 + x) / 256 = x / 256 / 16 + x / 256 := by omega
    rw [keep, fold]
    show (x / 16 + x) % 16 + 256 * keep 4 n ((x / 16 + x) / 256) = (x / 16 % 16 + x % 16) + 256 * fold 4 n (x / 256)
    rw [e1, e2, ih]

/-- What math/bits.OnesCount64 computes. -/
def popA (x : Nat) : Nat := (x / 2 &&& 6148914691236517205) + (x &&& 6148914691236517205)
def popB (x : Nat) : Nat := (x / 4 &&& 3689348814741910323) + (x &&& 3689348814741910323)
def popC (x : Nat) : Nat := (x / 16 + x) &&& 1085102592571150095

theorem popA_eq (x : Nat) : popA x = fold 1 32 x := by
  unfold popA
  rw [show (6148914691236517205 : Nat) = mk 1 32 from by decide, and_mk, and_mk]
  exact keep_fold 1 32 x
theorem popB_eq (x : Nat) : popB x = fold 2 16 x := by
  unfold popB
  rw [show (3689348814741910323 : Nat) = mk 2 16 from by decide, and_mk, and_mk]
  exact keep_fold 2 16 x

theorem fold_lt (b : Nat) (hb : 1 ≤ b) : ∀ n x, fold b n x < 2 ^ (2 * b * n)
  | 0, x => by simp [fold]
  | n + 1, x => by
    obtain ⟨h1, h2⟩ := fold_mod b n x hb
    have ih := fold_lt b hb n (x / 2 ^ (2 * b))
    rw [Nat.mul_succ, Nat.pow_add, Nat.mul_comm]
    rw [← h2] at ih
    exact (Nat.div_lt_iff_lt_mul (Nat.two_pow_pos _)).1 ih |> fun h => by rw [Nat.mul_comm]; exact h

theorem id1 (b0 b1 b2 b3 b4 b5 b6 b7 : Nat) : (b0 + 256 * (b1 + 256 * (b2 + 256 * (b3 + 256 * (b4 + 256 * (b5 + 256 * (b6 + 256 * b7))))))) + (b1 + 256 * (b2 + 256 * (b3 + 256 * (b4 + 256 * (b5 + 256 * (b6 + 256 * b7)))))) = (b0 + b1 + 256 * (b1 + b2)) + 65536 * ((b2 + b3) + 256 * (b3 + b4) + 65536 * (b4 + b5) + 16777216 * (b5 + b6) + 4294967296 * (b6 + b7) + 1099511627776 * b7) := by omega
theorem id2 (b0 b1 b2 b3 b4 b5 b6 b7 : Nat) : (b0 + 256 * (b1 + 256 * (b2 + 256 * (b3 + 256 * (b4 + 256 * (b5 + 256 * (b6 + 256 * b7))))))) + (b1 + 256 * (b2 + 256 * (b3 + 256 * (b4 + 256 * (b5 + 256 * (b6 + 256 * b7)))))) + ((b2 + b3) + 256 * (b3 + b4) + 65536 * (b4 + b5) + 16777216 * (b5 + b6) + 4294967296 * (b6 + b7) + 1099511627776 * b7) = (b0 + b1 + b2 + b3 + 256 * (b1 + b2 + b3 + b4) + 65536 * (b2 + b3 + b4 + b5) + 16777216 * (b3 + b4 + b5 + b6)) + 4294967296 * ((b4 + b5 + b6 + b7) + 256 * (b5 + b6 + b7) + 65536 * (b6 + b7) + 16777216 * b7) := by omega
theorem id3 (b0 b1 b2 b3 b4 b5 b6 b7 : Nat) : (b0 + b1 + b2 + b3 + 256 * (b1 + b2 + b3 + b4) + 65536 * (b2 + b3 + b4 + b5) + 16777216 * (b3 + b4 + b5 + b6)) + 4294967296 * ((b4 + b5 + b6 + b7) + 256 * (b5 + b6 + b7) + 65536 * (b6 + b7) + 16777216 * b7) + ((b4 + b5 + b6 + b7) + 256 * (b5 + b6 + b7) + 65536 * (b6 + b7) + 16777216 * b7) = (b0 + b1 + b2 + b3 + b4 + b5 + b6 + b7) + 128 * (2 * (b1 + b2 + b3 + b4 + b5 + b6 + b7) + 512 * (b2 + b3 + b4 + b5 + b6 + b7) + 131072 * (b3 + b4 + b5 + b6 + b7) + 33554432 * ((b4 + b5 + b6 + b7) + 256 * (b5 + b6 + b7) + 65536 * (b6 + b7) + 16777216 * b7)) := by omega
theorem bd1 (b0 b1 b2 b3 b4 b5 b6 b7 : Nat) (h0 : b0 ≤ 8) (h1 : b1 ≤ 8) (h2 : b2 ≤ 8) (h3 : b3 ≤ 8) (h4 : b4 ≤ 8) (h5 : b5 ≤ 8) (h6 : b6 ≤ 8) (h7 : b7 ≤ 8) : (b0 + 256 * (b1 + 256 * (b2 + 256 * (b3 + 256 * (b4 + 256 * (b5 + 256 * (b6 + 256 * b7))))))) + (b1 + 256 * (b2 + 256 * (b3 + 256 * (b4 + 256 * (b5 + 256 * (b6 + 256 * b7)))))) < 9223372036854775808 := by omega
theorem bd2 (b0 b1 b2 b3 b4 b5 b6 b7 : Nat) (h0 : b0 ≤ 8) (h1 : b1 ≤ 8) (h2 : b2 ≤ 8) (h3 : b3 ≤ 8) (h4 : b4 ≤ 8) (h5 : b5 ≤ 8) (h6 : b6 ≤ 8) (h7 : b7 ≤ 8) : (b0 + 256 * (b1 + 256 * (b2 + 256 * (b3 + 256 * (b4 + 256 * (b5 + 256 * (b6 + 256 * b7))))))) + (b1 + 256 * (b2 + 256 * (b3 + 256 * (b4 + 256 * (b5 + 256 * (b6 + 256 * b7)))))) + ((b2 + b3) + 256 * (b3 + b4) + 65536 * (b4 + b5) + 16777216 * (b5 + b6) + 4294967296 * (b6 + b7) + 1099511627776 * b7) < 9223372036854775808 := by omega
theorem bd3 (b0 b1 b2 b3 b4 b5 b6 b7 : Nat) (h0 : b0 ≤ 8) (h1 : b1 ≤ 8) (h2 : b2 ≤ 8) (h3 : b3 ≤ 8) (h4 : b4 ≤ 8) (h5 : b5 ≤ 8) (h6 : b6 ≤ 8) (_h7 : b7 ≤ 8) : (b0 + b1 + b2 + b3 + 256 * (b1 + b2 + b3 + b4) + 65536 * (b2 + b3 + b4 + b5) + 16777216 * (b3 + b4 + b5 + b6)) + 4294967296 * ((b4 + b5 + b6 + b7) + 256 * (b5 + b6 + b7) + 65536 * (b6 + b7) + 16777216 * b7) + ((b4 + b5 + b6 + b7) + 256 * (b5 + b6 + b7) + 65536 * (b6 + b7) + 16777216 * b7) < 9223372036854775808 := by omega
theorem bd4 (b0 b1 b2 b3 b4 b5 b6 b7 : Nat) (h0 : b0 ≤ 8) (h1 : b1 ≤ 8) (h2 : b2 ≤ 8) (h3 : b3 ≤ 8) (h4 : b4 ≤ 8) (h5 : b5 ≤ 8) (h6 : b6 ≤ 8) (_h7 : b7 ≤ 8) : (b0 + b1 + b2 + b3 + 256 * (b1 + b2 + b3 + b4) + 65536 * (b2 + b3 + b4 + b5) + 16777216 * (b3 + b4 + b5 + b6)) < 4294967296 := by omega

theorem div_lo (lo q m : Nat) (h : lo < m) : (lo + m * q) / m = q := by
  rw [Nat.add_mul_div_left _ _ (by omega), Nat.div_eq_of_lt h, Nat.zero_add]

theorem pop_abs (y lo m Q L R s T : Nat) (i1 : y = lo + 65536 * Q) (hlo : lo < 65536) (i2 : y + Q = L + 4294967296 * R) (hL : L < 4294967296)
    (i3 : L + 4294967296 * R + R = s + 128 * T) (hs : s < 128) (q1 : y < m) (q2 : y + Q < m) (q3 : L + 4294967296 * R + R < m) :
    y < m ∧ y + y / 65536 < m ∧ (y + y / 65536) + (y + y / 65536) / 4294967296 < m ∧ ((y + y / 65536) + (y + y / 65536) / 4294967296) % 128 = s := by
  have k1 : y / 65536 = Q := by rw [i1]; exact div_lo _ _ _ hlo
  rw [k1]
  have k2 : (y + Q) / 4294967296 = R := by rw [i2]; exact div_lo _ _ _ hL
  rw [k2]
  refine ⟨q1, q2, ?_, ?_⟩
  · rw [i2]; exact q3
  · rw [i2, i3, Nat.add_mul_mod_self_left, Nat.mod_eq_of_lt hs]

theorem pop_nums (b0 b1 b2 b3 b4 b5 b6 b7 : Nat) (h0 : b0 ≤ 8) (h1 : b1 ≤ 8) (h2 : b2 ≤ 8) (h3 : b3 ≤ 8) (h4 : b4 ≤ 8) (h5 : b5 ≤ 8) (h6 : b6 ≤ 8) (h7 : b7 ≤ 8) (x x1 : Nat) (hx : x = (b0 + 256 * (b1 + 256 * (b2 + 256 * (b3 + 256 * (b4 + 256 * (b5 + 256 * (b6 + 256 * b7)))))))) (hx1 : x1 = (b1 + 256 * (b2 + 256 * (b3 + 256 * (b4 + 256 * (b5 + 256 * (b6 + 256 * b7))))))) :
    x + x1 < 9223372036854775808 ∧ (x + x1) + (x + x1) / 65536 < 9223372036854775808 ∧
    ((x + x1) + (x + x1) / 65536) + ((x + x1) + (x + x1) / 65536) / 4294967296 < 9223372036854775808 ∧
    (((x + x1) + (x + x1) / 65536) + ((x + x1) + (x + x1) / 65536) / 4294967296) % 128 = b0 + b1 + b2 + b3 + b4 + b5 + b6 + b7 := by
  have i1 := id1 b0 b1 b2 b3 b4 b5 b6 b7
  have i2 := id2 b0 b1 b2 b3 b4 b5 b6 b7
  have i3 := id3 b0 b1 b2 b3 b4 b5 b6 b7
  have q1 := bd1 b0 b1 b2 b3 b4 b5 b6 b7 h0 h1 h2 h3 h4 h5 h6 h7
  have q2 := bd2 b0 b1 b2 b3 b4 b5 b6 b7 h0 h1 h2 h3 h4 h5 h6 h7
  have q3 := bd3 b0 b1 b2 b3 b4 b5 b6 b7 h0 h1 h2 h3 h4 h5 h6 h7
  have q4 := bd4 b0 b1 b2 b3 b4 b5 b6 b7 h0 h1 h2 h3 h4 h5 h6 h7
  rw [← hx, ← hx1] at i1 i2 q1 q2
  clear hx hx1
  have hlo : b0 + b1 + 256 * (b1 + b2) < 65536 := by clear i1 i2 i3 q1 q2 q3 q4; omega
  have hs : b0 + b1 + b2 + b3 + b4 + b5 + b6 + b7 < 128 := by clear i1 i2 i3 q1 q2 q3 q4; omega
  generalize ((b2 + b3) + 256 * (b3 + b4) + 65536 * (b4 + b5) + 16777216 * (b5 + b6) + 4294967296 * (b6 + b7) + 1099511627776 * b7) = Q at i1 i2 q2
  generalize ((b4 + b5 + b6 + b7) + 256 * (b5 + b6 + b7) + 65536 * (b6 + b7) + 16777216 * b7) = R at i2 i3 q3
  generalize (b0 + b1 + b2 + b3 + 256 * (b1 + b2 + b3 + b4) + 65536 * (b2 + b3 + b4 + b5) + 16777216 * (b3 + b4 + b5 + b6)) = L at i2 i3 q3 q4
  generalize b0 + b1 + 256 * (b1 + b2) = lo at i1 hlo
  generalize 2 * (b1 + b2 + b3 + b4 + b5 + b6 + b7) + 512 * (b2 + b3 + b4 + b5 + b6 + b7) + 131072 * (b3 + b4 + b5 + b6 + b7) + 33554432 * R = T at i3
  exact pop_abs _ lo _ Q L R _ T i1 hlo i2 q4 i3 hs q1 q2 q3

theorem dm (x q r : Nat) (h1 : x / 256 = q) (h2 : x % 256 = r) : x = r + 256 * q := by omega

theorem pop_bytes (x : Nat) (h : sm 8 8 8 x) (hx : x < 18446744073709551616) :
    x + x / 256 < 9223372036854775808 ∧ (x + x / 256) + (x + x / 256) / 65536 < 9223372036854775808 ∧
    ((x + x / 256) + (x + x / 256) / 65536) + ((x + x / 256) + (x + x / 256) / 65536) / 4294967296 < 9223372036854775808 ∧
    (((x + x / 256) + (x + x / 256) / 65536) + ((x + x / 256) + (x + x / 256) / 65536) / 4294967296) % 128 = ds 8 8 x := by
  simp only [sm, and_true, show (2:Nat) ^ 8 = 256 from rfl] at h
  simp only [ds, Nat.add_zero, show (2:Nat) ^ 8 = 256 from rfl]
  obtain ⟨h0, h1, h2, h3, h4, h5, h6, h7⟩ := h
  obtain ⟨x1, e1⟩ : ∃ y, x / 256 = y := ⟨_, rfl⟩
  rw [e1] at h1 h2 h3 h4 h5 h6 h7 ⊢
  obtain ⟨x2, e2⟩ : ∃ y, x1 / 256 = y := ⟨_, rfl⟩
  rw [e2] at h2 h3 h4 h5 h6 h7 ⊢
  obtain ⟨x3, e3⟩ : ∃ y, x2 / 256 = y := ⟨_, rfl⟩
  rw [e3] at h3 h4 h5 h6 h7 ⊢
  obtain ⟨x4, e4⟩ : ∃ y, x3 / 256 = y := ⟨_, rfl⟩
  rw [e4] at h4 h5 h6 h7 ⊢
  obtain ⟨x5, e5⟩ : ∃ y, x4 / 256 = y := ⟨_, rfl⟩
  rw [e5] at h5 h6 h7 ⊢
  obtain ⟨x6, e6⟩ : ∃ y, x5 / 256 = y := ⟨_, rfl⟩
  rw [e6] at h6 h7 ⊢
  obtain ⟨x7, e7⟩ : ∃ y, x6 / 256 = y := ⟨_, rfl⟩
  rw [e7] at h7 ⊢
  obtain ⟨b0, f0⟩ : ∃ b, x % 256 = b := ⟨_, rfl⟩
  obtain ⟨b1, f1⟩ : ∃ b, x1 % 256 = b := ⟨_, rfl⟩
  obtain ⟨b2, f2⟩ : ∃ b, x2 % 256 = b := ⟨_, rfl⟩
  obtain ⟨b3, f3⟩ : ∃ b, x3 % 256 = b := ⟨_, rfl⟩
  obtain ⟨b4, f4⟩ : ∃ b, x4 % 256 = b := ⟨_, rfl⟩
  obtain ⟨b5, f5⟩ : ∃ b, x5 % 256 = b := ⟨_, rfl⟩
  obtain ⟨b6, f6⟩ : ∃ b, x6 % 256 = b := ⟨_, rfl⟩
  obtain ⟨b7, f7⟩ : ∃ b, x7 % 256 = b := ⟨_, rfl⟩
  rw [f0, f1, f2, f3, f4, f5, f6, f7]
  rw [f0] at h0; rw [f1] at h1; rw [f2] at h2; rw [f3] at h3; rw [f4] at h4; rw [f5] at h5; rw [f6] at h6; rw [f7] at h7
  have x7lt : x7 < 256 := by
    rw [← e7, ← e6, ← e5, ← e4, ← e3, ← e2, ← e1]
    simp only [Nat.div_div_eq_div_mul]
    exact Nat.div_lt_of_lt_mul (by omega)
  have g7 : x7 = b7 := by rw [← f7, Nat.mod_eq_of_lt x7lt]
  have g6 := dm _ _ _ e7 f6
  have g5 := dm _ _ _ e6 f5
  have g4 := dm _ _ _ e5 f4
  have g3 := dm _ _ _ e4 f3
  have g2 := dm _ _ _ e3 f2
  have g1 := dm _ _ _ e2 f1
  have g0 := dm _ _ _ e1 f0
  clear e1 e2 e3 e4 e5 e6 e7 f0 f1 f2 f3 f4 f5 f6 f7 x7lt
  subst g7
  subst g6
  subst g5
  subst g4
  subst g3
  subst g2
  have r := pop_nums _ _ _ _ _ _ _ _ h0 h1 h2 h3 h4 h5 h6 h7 x x1 (by rw [g0, g1]) g1
  refine ⟨r.1, r.2.1, r.2.2.1, r.2.2.2.trans ?_⟩
  simp only [Nat.add_assoc]

theorem pop_all (x : Nat) :
    ∃ c, c = popC (popB (popA x)) ∧ c < 18446744073709551616 ∧ sm 8 8 8 c ∧ ds 8 8 c = wt 64 x := by
  have h1 := sm_fold 1 1 (by decide) 32 x (sm_one 64 x)
  have h2 := sm_fold 2 2 (by decide) 16 (fold 1 32 x) h1
  have l2 := fold_lt 2 (by decide) 16 (fold 1 32 x)
  have h3 := sm_fold 4 4 (by decide) 8 (fold 2 16 (fold 1 32 x)) h2
  have l3 := fold_lt 4 (by decide) 8 (fold 2 16 (fold 1 32 x))
  refine ⟨fold 4 8 (fold 2 16 (fold 1 32 x)), ?_, by simpa using l3, h3, ?_⟩
  · rw [popA_eq, popB_eq, ← keep_sum 8 _ h2 (by simpa using l2)]
    unfold popC
    rw [show (1085102592571150095 : Nat) = mk 4 8 from by decide, and_mk]
  · rw [show (8 : Nat) = 2 * 4 from rfl, ds_fold 4 (by decide), show 2 * (2 * 4) = 16 from rfl, show (4 : Nat) = 2 * 2 from rfl, ds_fold 2 (by decide), show (2 * 16) = 32 from rfl, show (2 : Nat) = 2 * 1 from rfl, ds_fold 1 (by decide), wt_ds]
end Go.Proofs.YtpldjhlhkjmneaaDoor.Mm
