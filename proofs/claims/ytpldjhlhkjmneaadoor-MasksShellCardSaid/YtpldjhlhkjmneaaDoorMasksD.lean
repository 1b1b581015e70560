/- Contracts of math/bits.OnesCount64, masks.low and masks.Next. Conditions: each theorem's own hypotheses. -/
import Derived.Test.YtpldjhlhkjmneaaDoorPick
import Derived.Test.YtpldjhlhkjmneaaDoorPop
import Derived.Test.YtpldjhlhkjmneaaDoorMn
namespace Go.Proofs.YtpldjhlhkjmneaaDoor
open Go.RowKit

theorem wrap_nat (a b : Nat) (h : a = b) (hb : b < 18446744073709551616) (n : Int) (hn : n = (a : Int)) : IntKind.u64.wrap n = (b : Int) := by
  subst h; subst hn
  rw [IntKind.wrap_u64]; omega

theorem and_le_right (a b : Nat) : a &&& b ≤ b := Nat.and_le_right

theorem ones_any (x : Nat) (w : World) (hx : x < 18446744073709551616) :
    Calls Tryd.prog 25 #[.int .u64 x] w fun e w' => e = .returned (.int .i64 (Mm.wt 64 x)) ∧ w = w' := by
  obtain ⟨c', hc, hc1, hc2, hc3⟩ := Mm.pop_all x
  obtain ⟨k1, k2, k3, k4⟩ := Mm.pop_bytes c' hc2 hc1
  rw [hc3] at k4
  obtain ⟨A1, hA1⟩ : ∃ A1, (x / 2 &&& 6148914691236517205) = A1 := ⟨_, rfl⟩
  obtain ⟨A2, hA2⟩ : ∃ A2, (x &&& 6148914691236517205) = A2 := ⟨_, rfl⟩
  have bA1 : A1 ≤ 6148914691236517205 := by rw [← hA1]; exact and_le_right _ _
  have bA2 : A2 ≤ 6148914691236517205 := by rw [← hA2]; exact and_le_right _ _
  obtain ⟨a, ha⟩ : ∃ a, A1 + A2 = a := ⟨_, rfl⟩
  obtain ⟨B1, hB1⟩ : ∃ B1, (a / 4 &&& 3689348814741910323) = B1 := ⟨_, rfl⟩
  obtain ⟨B2, hB2⟩ : ∃ B2, (a &&& 3689348814741910323) = B2 := ⟨_, rfl⟩
  have bB1 : B1 ≤ 3689348814741910323 := by rw [← hB1]; exact and_le_right _ _
  have bB2 : B2 ≤ 3689348814741910323 := by rw [← hB2]; exact and_le_right _ _
  obtain ⟨b, hb⟩ : ∃ b, B1 + B2 = b := ⟨_, rfl⟩
  obtain ⟨c0, hc0⟩ : ∃ c0, b / 16 + b = c0 := ⟨_, rfl⟩
  have e1 : bits .and .u64 ((x : Int) / 2) 6148914691236517205 = (A1 : Int) := by
    rw [← hA1]; exact u64_and_nat (x / 2) 6148914691236517205 (by omega) (by decide)
  have e2 : bits .and .u64 (x : Int) 6148914691236517205 = (A2 : Int) := by
    rw [← hA2]; exact u64_and_nat x 6148914691236517205 hx (by decide)
  have e3 : IntKind.u64.wrap ((A1 : Int) + A2) = (a : Int) := wrap_nat (A1 + A2) a ha (by omega) _ (by omega)
  have e4 : bits .and .u64 ((a : Int) / 4) 3689348814741910323 = (B1 : Int) := by
    rw [← hB1]; exact u64_and_nat (a / 4) 3689348814741910323 (by omega) (by decide)
  have e5 : bits .and .u64 (a : Int) 3689348814741910323 = (B2 : Int) := by
    rw [← hB2]; exact u64_and_nat a 3689348814741910323 (by omega) (by decide)
  have e6 : IntKind.u64.wrap ((B1 : Int) + B2) = (b : Int) := wrap_nat (B1 + B2) b hb (by omega) _ (by omega)
  have e7 : IntKind.u64.wrap ((b : Int) / 16 + b) = (c0 : Int) := wrap_nat (b / 16 + b) c0 hc0 (by omega) _ (by omega)
  have ec : c' = (c0 &&& 1085102592571150095) := by
    rw [hc]; unfold Mm.popC Mm.popB Mm.popA; rw [hA1, hA2, ha, hB1, hB2, hb, hc0]
  have e8 : bits .and .u64 (c0 : Int) 1085102592571150095 = (c' : Int) := by
    rw [ec]; exact u64_and_nat c0 1085102592571150095 (by omega) (by decide)
  obtain ⟨d, hd⟩ : ∃ d, c' + c' / 256 = d := ⟨_, rfl⟩
  rw [hd] at k1 k2 k3 k4
  obtain ⟨e, he⟩ : ∃ e, d + d / 65536 = e := ⟨_, rfl⟩
  rw [he] at k2 k3 k4
  obtain ⟨f, hf⟩ : ∃ f, e + e / 4294967296 = f := ⟨_, rfl⟩
  rw [hf] at k3 k4
  have e9 : IntKind.u64.wrap ((c' : Int) + (c' : Int) / 256) = (d : Int) := wrap_nat (c' + c' / 256) d hd (by omega) _ (by omega)
  have e10 : IntKind.u64.wrap ((d : Int) + (d : Int) / 65536) = (e : Int) := wrap_nat (d + d / 65536) e he (by omega) _ (by omega)
  have e11 : IntKind.u64.wrap ((e : Int) + (e : Int) / 4294967296) = (f : Int) := wrap_nat (e + e / 4294967296) f hf (by omega) _ (by omega)
  have e13 : bits .and .i64 (f : Int) 127 = (Mm.wt 64 x : Int) := by
    rw [← k4, i64_and127]; omega
  clear hA1 hA2 ha hB1 hB2 hb hc0 hc hc1 hc2 hc3 ec hd he hf k1 k2 k4 bA1 bA2 bB1 bB2
  go_enter Tryd.func25, Tryd.ntmps25
  go_wp2
  go_ret
  exact ⟨rfl, rfl⟩

/-- the lowest n bits. -/
def lowN (n : Nat) : Nat := 2 ^ n - 1
theorem lowN_lt (n : Nat) (h : n ≤ 64) : lowN n < 18446744073709551616 := by
  have := Nat.pow_le_pow_right (n := 2) (by decide) h
  have e : (2 : Nat) ^ 64 = 18446744073709551616 := by decide
  have := Nat.two_pow_pos n
  unfold lowN
  omega

theorem low_any (n : Nat) (w : World) (h : n ≤ 64) :
    Calls Tryd.prog 24 #[.int .i64 n] w fun e w' => e = .returned (.int .u64 (lowN n)) ∧ w = w' := by
  by_cases h64 : n = 64
  · subst h64
    go_enter Tryd.func24, Tryd.ntmps24
    go_wp2
    go_ret
    exact ⟨rfl, rfl⟩
  · have hb : ((n : Int) == 64) = false := by simp; omega
    have hn : n < 64 := by omega
    have h1 := lowN_lt n h
    have h2 := Nat.two_pow_pos n
    have h3 : (2 : Nat) ^ n = lowN n + 1 := by unfold lowN; omega
    obtain ⟨P, hP⟩ : ∃ P, lowN n = P := ⟨_, rfl⟩
    rw [hP] at h1 h3 ⊢
    have h4 : ((2 : Int) ^ n) = ((P + 1 : Nat) : Int) := by rw [← h3]; simp
    have h5 : P + 1 < 18446744073709551616 := by
      have := Nat.pow_le_pow_right (n := 2) (by decide) (show n ≤ 63 by omega)
      have e : (2 : Nat) ^ 63 = 9223372036854775808 := by decide
      omega
    have e1 : IntKind.u64.wrap ((2 : Int) ^ n) = ((P + 1 : Nat) : Int) := wrap_nat _ _ rfl h5 _ h4
    have e2 : IntKind.u64.wrap (((P + 1 : Nat) : Int) - 1) = (P : Int) := wrap_nat _ _ rfl h1 _ (by omega)
    have e3 : IntKind.u64.wrap ((P : Int)) = (P : Int) := wrap_nat _ _ rfl h1 _ (by omega)
    rw [Int.natCast_succ] at e1 e2
    clear hP h1 h2 h3 h4 h5
    go_enter Tryd.func24, Tryd.ntmps24
    go_wp2
    go_ret
    exact ⟨rfl, rfl⟩

theorem low_eq (n N : Nat) (w : World) (h : n ≤ 64) (hN : lowN n = N) :
    Calls Tryd.prog 24 #[.int .i64 n] w fun e w' => e = .returned (.int .u64 N) ∧ w = w' := by
  subst hN; exact low_any n w h
theorem ones_eq (x c : Nat) (w : World) (hx : x < 18446744073709551616) (hc : Mm.wt 64 x = c) :
    Calls Tryd.prog 25 #[.int .u64 x] w fun e w' => e = .returned (.int .i64 c) ∧ w = w' := by
  subst hc; exact ones_any x w hx

theorem next_bad (n : Int) (m : Nat) (w : World) (h : n < 0 ∨ 64 < n) :
    Calls Tryd.prog 17 #[.int .i64 n, .int .u64 m] w fun e w' => e = .returned (.tuple #[.int .u64 0, .bool false]) ∧ w = w' := by
  by_cases h1 : n < 0
  · go_enter Tryd.func17, Tryd.ntmps17
    go_wp2_with fail
    go_ret2
    exact ⟨rfl, rfl⟩
  · have h2 : 64 < n := by omega
    go_enter Tryd.func17, Tryd.ntmps17
    go_wp2_with fail
    go_ret2
    exact ⟨rfl, rfl⟩

theorem next_zero (n : Nat) (w : World) (h : n ≤ 64) :
    Calls Tryd.prog 17 #[.int .i64 n, .int .u64 0] w fun e w' => e = .returned (.tuple #[.int .u64 0, .bool false]) ∧ w = w' := by
  go_enter Tryd.func17, Tryd.ntmps17
  go_wp2_with fail
  go_ret2
  exact ⟨rfl, rfl⟩

theorem next_out (n m : Nat) (w : World) (h : n ≤ 64) (hm : lowN n < m) :
    Calls Tryd.prog 17 #[.int .i64 n, .int .u64 m] w fun e w' => e = .returned (.tuple #[.int .u64 0, .bool false]) ∧ w = w' := by
  have h0 : ((m : Int) == 0) = false := by simp; omega
  obtain ⟨N, hN⟩ : ∃ N, lowN n = N := ⟨_, rfl⟩
  rw [hN] at hm
  have HN := Lib.hid hN
  clear hN
  go_enter Tryd.func17, Tryd.ntmps17
  go_wp2_with fail
  refine (low_eq n N _ h HN.out).mono ?_
  rintro e w' ⟨rfl, rfl⟩
  go_wp2_with fail
  go_ret2
  exact ⟨rfl, rfl⟩

/-- the walk, over plain numbers. -/
theorem next_walk (n m N M F U : Nat) (w : World) (h : n ≤ 64) (hN : lowN n = N) (hm0 : 0 < m) (hm : m ≤ N)
    (e1 : IntKind.u64.wrap (-(m : Int)) = (M : Int)) (e2 : bits .and .u64 (m : Int) (M : Int) = (F : Int)) (e3 : IntKind.u64.wrap ((m : Int) + F) = (U : Int)) (hU : U < m) :
    Calls Tryd.prog 17 #[.int .i64 n, .int .u64 m] w fun e w' => e = .returned (.tuple #[.int .u64 0, .bool false]) ∧ w = w' := by
  have h0 : ((m : Int) == 0) = false := by simp; omega
  have HN := Lib.hid hN
  clear hN
  go_enter Tryd.func17, Tryd.ntmps17
  go_wp2_with fail
  refine (low_eq n N _ h HN.out).mono ?_
  rintro e w' ⟨rfl, rfl⟩
  go_wp2_with fail
  go_ret2
  exact ⟨rfl, rfl⟩

theorem next_walk2 (n m N M F U k K Y wm wu : Nat) (w : World) (h : n ≤ 64) (hN : lowN n = N) (hm0 : 0 < m) (hm : m ≤ N) (hm64 : m < 18446744073709551616) (hu64 : U < 18446744073709551616)
    (e1 : IntKind.u64.wrap (-(m : Int)) = (M : Int)) (e2 : bits .and .u64 (m : Int) (M : Int) = (F : Int)) (e3 : IntKind.u64.wrap ((m : Int) + F) = (U : Int)) (hU : m ≤ U)
    (hwm : Mm.wt 64 m = wm) (hwu : Mm.wt 64 U = wu) (hk : wm = wu + k) (hK : lowN k = K) (e5 : bits .or .u64 (U : Int) (K : Int) = (Y : Int)) :
    Calls Tryd.prog 17 #[.int .i64 n, .int .u64 m] w fun e w' => e = .returned (.tuple #[.int .u64 (if Y ≤ N then Y else 0 : Nat), .bool (decide (Y ≤ N))]) ∧ w = w' := by
  have h0 : ((m : Int) == 0) = false := by simp; omega
  have hk64 : wm ≤ 64 := by rw [← hwm]; exact Mm.wt_le 64 m
  have e4 : (wm : Int) - wu = (k : Int) := by omega
  have hk' : k ≤ 64 := by omega
  have hwu' : wu ≤ 64 := by omega
  have HN := Lib.hid hN
  have Hwm := Lib.hid hwm
  have Hwu := Lib.hid hwu
  have HK := Lib.hid hK
  clear hN hwm hwu hK hk
  by_cases hy : Y ≤ N
  · rw [if_pos hy, show decide (Y ≤ N) = true from by simpa using hy]
    go_enter Tryd.func17, Tryd.ntmps17
    go_wp2_with fail
    refine (low_eq n N _ h HN.out).mono ?_
    rintro e w' ⟨rfl, rfl⟩
    go_wp2_with fail
    refine (ones_eq m wm _ hm64 Hwm.out).mono ?_
    rintro e w' ⟨rfl, rfl⟩
    go_wp2_with fail
    refine (ones_eq U wu _ hu64 Hwu.out).mono ?_
    rintro e w' ⟨rfl, rfl⟩
    go_wp2_with fail
    refine (low_eq k K _ hk' HK.out).mono ?_
    rintro e w' ⟨rfl, rfl⟩
    go_wp2_with fail
    refine (low_eq n N _ h HN.out).mono ?_
    rintro e w' ⟨rfl, rfl⟩
    go_wp2_with fail
    go_ret2
    exact ⟨rfl, rfl⟩
  · rw [if_neg hy, show decide (Y ≤ N) = false from by simpa using hy]
    have hy' : N < Y := by omega
    clear hy
    go_enter Tryd.func17, Tryd.ntmps17
    go_wp2_with fail
    refine (low_eq n N _ h HN.out).mono ?_
    rintro e w' ⟨rfl, rfl⟩
    go_wp2_with fail
    refine (ones_eq m wm _ hm64 Hwm.out).mono ?_
    rintro e w' ⟨rfl, rfl⟩
    go_wp2_with fail
    refine (ones_eq U wu _ hu64 Hwu.out).mono ?_
    rintro e w' ⟨rfl, rfl⟩
    go_wp2_with fail
    refine (low_eq k K _ hk' HK.out).mono ?_
    rintro e w' ⟨rfl, rfl⟩
    go_wp2_with fail
    refine (low_eq n N _ h HN.out).mono ?_
    rintro e w' ⟨rfl, rfl⟩
    go_wp2_with fail
    go_ret2
    exact ⟨rfl, rfl⟩
end Go.Proofs.YtpldjhlhkjmneaaDoor
