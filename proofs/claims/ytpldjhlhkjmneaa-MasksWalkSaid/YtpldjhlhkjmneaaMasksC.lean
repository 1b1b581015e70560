/- A contract of kindredlaw2.pick (a number from 0 to n - 1), and plain facts on sums of counts. Conditions: each theorem's own hypotheses. -/
import Derived.Test.YtpldjhlhkjmneaaMasksB
namespace Go.Proofs.Ytpldjhlhkjmneaa
open Go.RowKit

theorem tmod_emod (k n : Int) (hn : 0 < n) : k % n = if k.tmod n < 0 then k.tmod n + n else k.tmod n := by
  have h1 := Int.emod_nonneg k (show n ≠ 0 by omega)
  have h2 := Int.emod_lt_of_pos k hn
  rw [Int.tmod_eq_emod]
  split <;> rename_i h
  · split <;> omega
  · have : (n.natAbs : Int) = n := by omega
    split <;> omega

theorem pick_any (k n : Int) (w : World) (hn : 0 < n) (hn2 : n ≤ 9223372036854775807) :
    Calls Try.prog 20 #[.int .i64 k, .int .i64 n] w fun e w' => (∃ r : Int, e = .returned (.int .i64 r) ∧ 0 ≤ r ∧ r < n) ∧ w = w' := by
  have h0 : ¬ n = 0 := by omega
  have h1 := Int.emod_nonneg k (show n ≠ 0 by omega)
  have h2 := Int.emod_lt_of_pos k hn
  have he := tmod_emod k n hn
  have H := Lib.hid he
  clear he
  have hb1 := Int.lt_tmod_of_pos k hn
  have hb2 := Int.tmod_lt_of_pos k hn
  by_cases hneg : k.tmod n < 0
  · go_enter Try.func20, Try.ntmps20
    go_wp2_with fail
    go_ret
    exact ⟨⟨_, rfl, by omega, by omega⟩, rfl⟩
  · go_enter Try.func20, Try.ntmps20
    go_wp2_with fail
    go_ret
    exact ⟨⟨_, rfl, by omega, by omega⟩, rfl⟩

theorem num_any (k : Int) (w : World) :
    Calls Try.prog 16 #[.int .i64 k] w fun e w' => e = .returned (.int .i64 k) ∧ w = w' := by
  go_enter Try.func16, Try.ntmps16
  go_wp2
  go_ret
  exact ⟨rfl, rfl⟩

theorem Cz_pascal (n s : Int) (h1 : 1 ≤ n) : Cz n s = Cz (n - 1) s + Cz (n - 1) (s - 1) := by
  obtain ⟨m, rfl⟩ : ∃ m : Nat, n = (m : Int) + 1 := ⟨(n - 1).toNat, by omega⟩
  by_cases h : s < 0
  · rw [Cz_neg _ _ h, Cz_neg _ _ h, Cz_neg _ _ (by omega)]; rfl
  · by_cases h0 : s = 0
    · subst h0
      unfold Cz; simp
    · obtain ⟨k, rfl⟩ : ∃ k : Nat, s = (k : Int) + 1 := ⟨(s - 1).toNat, by omega⟩
      rw [Int.add_sub_cancel, Int.add_sub_cancel, ← Int.natCast_succ, ← Int.natCast_succ, Cz_nat, Cz_nat, Cz_nat]
      have := Mm.C_succ m k
      simp only [Nat.succ_eq_add_one]
      omega

theorem Cz_mirror (n s : Int) (h1 : 0 ≤ s) (h2 : s ≤ n) : Cz n (n - s) = Cz n s := by
  obtain ⟨m, rfl⟩ := Int.eq_ofNat_of_zero_le (show 0 ≤ n by omega)
  obtain ⟨k, rfl⟩ := Int.eq_ofNat_of_zero_le h1
  rw [show (m : Int) - k = ((m - k : Nat) : Int) from by omega, Cz_nat, Cz_nat, Mm.C_symm m k (by omega)]

theorem Cz_pos (n s : Int) (h1 : 0 ≤ s) (h2 : s ≤ n) : 1 ≤ Cz n s := by
  obtain ⟨m, rfl⟩ := Int.eq_ofNat_of_zero_le (show 0 ≤ n by omega)
  obtain ⟨k, rfl⟩ := Int.eq_ofNat_of_zero_le h1
  rw [Cz_nat]
  have := Mm.C_pos m k (by omega)
  omega

theorem Sz_all (n : Int) (h1 : 0 ≤ n) : Sz n n = ((2 ^ n.toNat : Nat) : Int) := by
  obtain ⟨m, rfl⟩ := Int.eq_ofNat_of_zero_le h1
  unfold Sz
  rw [show ((m : Int) + 1).toNat = m + 1 from rfl, show ((m : Int)).toNat = m from rfl, Sp_S, Mm.S_all]

theorem Sz_step (n s : Int) (h1 : 0 ≤ n) (h2 : 0 ≤ s) : Sz n s = Sz n (s - 1) + Cz n s := by
  obtain ⟨m, rfl⟩ := Int.eq_ofNat_of_zero_le h1
  obtain ⟨k, rfl⟩ := Int.eq_ofNat_of_zero_le h2
  rw [Cz_nat]
  unfold Sz
  rw [show ((k : Int) + 1).toNat = k + 1 from rfl, show ((k : Int) - 1 + 1).toNat = k from by omega, show ((m : Int)).toNat = m from rfl, Sp]
  omega

theorem Sz_le (n s : Int) (h2 : s ≤ n) : Sz n s ≤ Sz n n := by
  unfold Sz
  have := Sp_mono n.toNat (show (s + 1).toNat ≤ (n + 1).toNat by omega)
  omega
theorem Sz_lo (n s : Int) : 0 ≤ Sz n s := by unfold Sz; omega

theorem pow_small (n : Int) (h : n ≤ 61) : ((2 ^ n.toNat : Nat) : Int) ≤ 2305843009213693952 := by
  have := Nat.pow_le_pow_right (n := 2) (by decide) (show n.toNat ≤ 61 by omega)
  have e : (2 : Nat) ^ 61 = 2305843009213693952 := by decide
  omega
theorem pow_great (n : Int) (h : 62 ≤ n) : 4611686018427387904 ≤ ((2 ^ n.toNat : Nat) : Int) := by
  have := Nat.pow_le_pow_right (n := 2) (by decide) (show 62 ≤ n.toNat by omega)
  have e : (2 : Nat) ^ 62 = 4611686018427387904 := by decide
  omega

theorem pow_k (k n : Int) (hk : k = ((2 ^ n.toNat : Nat) : Int)) (h : n ≤ 61) : k = wrap64 (2 ^ n.toNat) := by
  have a := pow_small n h
  have e : (2 : Int) ^ n.toNat = ((2 ^ n.toNat : Nat) : Int) := by simp
  have hp : 0 < 2 ^ n.toNat := Nat.two_pow_pos _
  rw [e, ← hk]
  rw [← hk] at a
  rw [IntWalk.wrap64_in k ⟨by omega, by omega⟩]

theorem Uz_min (n s b : Int) (hb : b ≤ 4611686018427387904) : min (Uz n s 4611686018427387904) b = Uz n s b := by unfold Uz; omega
theorem Uz_lo (n s b : Int) (hb : 0 ≤ b) : 0 ≤ Uz n s b := by have := Sz_lo n s; unfold Uz; omega
theorem Uz_hi (n s b : Int) : Uz n s b ≤ b := by unfold Uz; omega
theorem Uz_great (n : Int) (h : 62 ≤ n) : Uz n n 4611686018427387904 = 4611686018427387904 := by
  have := pow_great n h
  unfold Uz
  rw [Sz_all n (by omega)]
  omega
theorem Uz_mono (n s : Int) (b : Int) : Uz n (s - 1) b ≤ Uz n s b := by
  have : Sz n (s - 1) ≤ Sz n s := by
    unfold Sz
    have := Sp_mono n.toNat (show (s - 1 + 1).toNat ≤ (s + 1).toNat by omega)
    omega
  unfold Uz
  omega
theorem Uz_small (n : Int) (h0 : 0 ≤ n) (h : n ≤ 61) : Uz n n 4611686018427387904 = ((2 ^ n.toNat : Nat) : Int) := by
  have := pow_small n h
  unfold Uz
  rw [Sz_all n h0]
  omega
theorem Uz_step (n s : Int) (h0 : 0 ≤ n) (h : n ≤ 61) (h1 : 0 ≤ s) (h2 : s ≤ n) : Uz n s 4611686018427387904 = Uz n (s - 1) 4611686018427387904 + Cz n s := by
  have a := pow_small n h
  have b := Sz_all n h0
  have c := Sz_le n s h2
  have d := Sz_step n s h0 h1
  have e := Sz_lo n (s - 1)
  have f := Cz_lo n s
  unfold Uz
  omega
end Go.Proofs.Ytpldjhlhkjmneaa
