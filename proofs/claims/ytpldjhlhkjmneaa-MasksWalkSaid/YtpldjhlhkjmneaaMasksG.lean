/- Contracts of the document's First, within and Next. Conditions: each theorem's own hypotheses. -/
import Derived.Test.YtpldjhlhkjmneaaMasksF
namespace Go.Proofs.Ytpldjhlhkjmneaa
open Go.RowKit

theorem ur_first (n s : Nat) (hs : s ≤ n) : Mm.ur n s 0 = lowN s := by
  obtain ⟨h1, h2⟩ := Mm.first_of s n hs
  have hlt : 2 ^ s - 1 < 2 ^ n := by
    have := Nat.two_pow_pos s
    have := Nat.pow_le_pow_right (n := 2) (by decide) hs
    omega
  have := Mm.ur_rk n _ hlt
  rw [h1, h2] at this
  exact this

theorem refFirst_yes (n s : Nat) (w : World) (hn : n ≤ 64) (hs : s ≤ n) :
    Calls Try.prog 22 #[.int .i64 n, .int .i64 s] w fun e w' => e = .returned (.tuple #[.int .u64 (lowN s), .bool true]) ∧ Below w.heap.size w w' := by
  have hr : 0 < Mm.C n s := Mm.C_pos n s hs
  have hu := ur_first n s hs
  have Hr := Lib.hid hr
  have Hu := Lib.hid hu
  clear hr hu
  go_enter Try.func22, Try.ntmps22
  go_wp2_with fail
  refine (refUnrank_ok n s 0 (lowN s) _ hn Hr.out Hu.out).mono ?_
  rintro e w' ⟨rfl, hB⟩
  go_wp2_with fail
  go_ret2
  exact ⟨rfl, hB⟩

theorem refFirst_no (n s : Int) (w : World) (h : n < 0 ∨ 64 < n ∨ s < 0 ∨ n < s) :
    Calls Try.prog 22 #[.int .i64 n, .int .i64 s] w fun e w' => e = .returned (.tuple #[.int .u64 0, .bool false]) ∧ w = w' := by
  by_cases h1 : n < 0
  · go_enter Try.func22, Try.ntmps22
    go_wp2_with fail
    go_ret2
    exact ⟨rfl, rfl⟩
  by_cases h2 : 64 < n
  · go_enter Try.func22, Try.ntmps22
    go_wp2_with fail
    go_ret2
    exact ⟨rfl, rfl⟩
  by_cases h3 : s < 0
  · go_enter Try.func22, Try.ntmps22
    go_wp2_with fail
    go_ret2
    exact ⟨rfl, rfl⟩
  have h4 : n < s := by omega
  go_enter Try.func22, Try.ntmps22
  go_wp2_with fail
  go_ret2
  exact ⟨rfl, rfl⟩

theorem refWithin_any (n m : Nat) (b : Bool) (w : World) (hn : n ≤ 64) (hm : m < 18446744073709551616) (hb : b = decide (m < 2 ^ n)) :
    Calls Try.prog 32 #[.int .i64 n, .int .u64 m] w fun e w' => e = .returned (.bool b) ∧ w = w' := by
  by_cases h64 : n = 64
  · subst h64
    have : b = true := by rw [hb]; simpa using hm
    subst this
    clear hb
    go_enter Try.func32, Try.ntmps32
    go_wp2
    go_ret
    exact ⟨rfl, rfl⟩
  · have h0 : ((n : Int) == 64) = false := by simp; omega
    have hn' : n < 64 := by omega
    have e1 : ((m : Int) / 2 ^ n == 0) = b := by
      have : (m : Int) / 2 ^ n = ((m / 2 ^ n : Nat) : Int) := by simp
      rw [this, hb, Bool.eq_iff_iff]
      have := Nat.div_eq_zero_iff_lt (x := m) (Nat.two_pow_pos n)
      simp only [beq_iff_eq, decide_eq_true_eq]
      omega
    clear hb
    go_enter Try.func32, Try.ntmps32
    go_wp2
    go_ret
    exact ⟨rfl, rfl⟩

theorem refNext_bad (n : Int) (m : Nat) (w : World) (h : n < 0 ∨ 64 < n) :
    Calls Try.prog 24 #[.int .i64 n, .int .u64 m] w fun e w' => e = .returned (.tuple #[.int .u64 0, .bool false]) ∧ w = w' := by
  by_cases h1 : n < 0
  · go_enter Try.func24, Try.ntmps24
    go_wp2_with fail
    go_ret2
    exact ⟨rfl, rfl⟩
  · have h2 : 64 < n := by omega
    go_enter Try.func24, Try.ntmps24
    go_wp2_with fail
    go_ret2
    exact ⟨rfl, rfl⟩

theorem refNext_out (n m : Nat) (w : World) (hn : n ≤ 64) (hm : m < 18446744073709551616) (h : 2 ^ n ≤ m) :
    Calls Try.prog 24 #[.int .i64 n, .int .u64 m] w fun e w' => e = .returned (.tuple #[.int .u64 0, .bool false]) ∧ w = w' := by
  have hb : false = decide (m < 2 ^ n) := by simp; omega
  have Hb := Lib.hid hb
  clear hb h
  go_enter Try.func24, Try.ntmps24
  go_wp2_with fail
  refine (refWithin_any n m false _ hn hm Hb.out).mono ?_
  rintro e w' ⟨rfl, rfl⟩
  go_wp2_with fail
  go_ret2
  exact ⟨rfl, rfl⟩

theorem rank_eq (m R : Nat) (w : World) (hm : m < 18446744073709551616) (hR : Mm.rk 64 m = R) :
    Calls Try.prog 34 #[.int .u64 m] w fun e w' => e = .returned (.int .i64 R) ∧ Below w.heap.size w w' := by
  subst hR; exact refRank_any m w hm

theorem rk_bound (n m : Nat) (hn : n ≤ 64) : Mm.rk n m + 1 ≤ 9223372036854775807 := by
  have h1 := Mm.rk_lt n m
  have h2 := Mm.C_lt n (Mm.wt n m) hn
  omega

theorem refNext_in (n m R : Nat) (b : Bool) (w : World) (hn : n ≤ 64) (h : m < 2 ^ n)
    (hc : (Mm.rk n m + 1 < Mm.C n (Mm.wt n m) ∧ R = Mm.nextOf n m ∧ b = true) ∨ (Mm.rk n m + 1 = Mm.C n (Mm.wt n m) ∧ R = 0 ∧ b = false)) :
    Calls Try.prog 24 #[.int .i64 n, .int .u64 m] w fun e w' => e = .returned (.tuple #[.int .u64 R, .bool b]) ∧ Below w.heap.size w w' := by
  have hm : m < 18446744073709551616 := Nat.lt_of_lt_of_le h (pow_le_64 hn)
  have hb : true = decide (m < 2 ^ n) := by simpa using h
  have h1 := Mm.wt_64 n m h hn
  have h2 := Mm.rk_64 n m h hn
  have h3 := rk_bound n m hn
  have h4 := Mm.wt_le n m
  obtain ⟨v, hv⟩ : ∃ v, Mm.wt n m = v := ⟨_, rfl⟩
  obtain ⟨r, hr⟩ : ∃ r, Mm.rk n m = r := ⟨_, rfl⟩
  rw [hv] at h1 hc h4
  rw [hr] at h2 hc h3
  have Hb := Lib.hid hb
  have H1 := Lib.hid h1
  have H2 := Lib.hid h2
  have Hc := Lib.hid hc
  have Hvr : Hid (Mm.wt n m = v ∧ Mm.rk n m = r) := ⟨hv, hr⟩
  clear hb h1 h2 hv hr hc
  rcases Hc.out with ⟨c1, rfl, rfl⟩ | ⟨c1, rfl, rfl⟩
  · have C1 := Lib.hid c1
    have hN : Mm.ur n v (r + 1) = Mm.nextOf n m := by
      unfold Mm.nextOf
      rw [Hvr.out.1, Hvr.out.2]
    have HN := Lib.hid hN
    clear c1 hN Hc
    go_enter Try.func24, Try.ntmps24
    go_wp2_with fail
    refine (refWithin_any n m true _ hn hm Hb.out).mono ?_
    rintro e w' ⟨rfl, rfl⟩
    go_wp2_with fail
    refine (weight_eq m v _ hm H1.out).mono ?_
    rintro e w' ⟨rfl, rfl⟩
    go_wp2_with fail
    refine (rank_eq m r _ hm H2.out).mono ?_
    rintro e w2 ⟨rfl, hB⟩
    go_wp2_with fail
    rw [← Int.natCast_succ]
    refine (refUnrank_ok n v (r + 1) (Mm.nextOf n m) _ hn C1.out HN.out).mono ?_
    rintro e w3 ⟨rfl, hB3⟩
    have hB' := hB.trans (hB3.mono hB.size)
    go_wp2_with fail
    go_ret2
    exact ⟨rfl, hB'⟩
  · have hz := Cz_nat n v
    rw [← c1] at hz
    have hz' : Cz n v ≤ ((r + 1 : Nat) : Int) := by rw [hz]; omega
    have HZ := Lib.hid hz'
    clear c1 hz Hc hz'
    go_enter Try.func24, Try.ntmps24
    go_wp2_with fail
    refine (refWithin_any n m true _ hn hm Hb.out).mono ?_
    rintro e w' ⟨rfl, rfl⟩
    go_wp2_with fail
    refine (weight_eq m v _ hm H1.out).mono ?_
    rintro e w' ⟨rfl, rfl⟩
    go_wp2_with fail
    refine (rank_eq m r _ hm H2.out).mono ?_
    rintro e w2 ⟨rfl, hB⟩
    go_wp2_with fail
    rw [← Int.natCast_succ]
    refine (refUnrank_rank n v ((r + 1 : Nat) : Int) _ (by omega) (by omega) (.inr HZ.out)).mono ?_
    rintro e w3 ⟨rfl, hB3⟩
    have hB' := hB.trans (hB3.mono hB.size)
    go_wp2_with fail
    go_ret2
    exact ⟨rfl, hB'⟩
end Go.Proofs.Ytpldjhlhkjmneaa
