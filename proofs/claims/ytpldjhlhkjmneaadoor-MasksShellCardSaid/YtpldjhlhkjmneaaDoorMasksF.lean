/- Contracts of masks.First and of the document's one, Weight, Rank, Unrank, First, Next. Conditions: each theorem's own hypotheses. -/
import Derived.Test.YtpldjhlhkjmneaaDoorMasksE
namespace Go.Proofs.YtpldjhlhkjmneaaDoor
open Go.RowKit

theorem first_yes (n s : Nat) (w : World) (hn : n ≤ 64) (hs : s ≤ n) :
    Calls Tryd.prog 16 #[.int .i64 n, .int .i64 s] w fun e w' => e = .returned (.tuple #[.int .u64 (lowN s), .bool true]) ∧ w = w' := by
  go_enter Tryd.func16, Tryd.ntmps16
  go_wp2_with fail
  refine (within_yes _ _ _ (by omega) (by omega) (by omega) (by omega)).mono ?_
  rintro e w' ⟨rfl, rfl⟩
  go_wp2_with fail
  refine (low_any s _ (by omega)).mono ?_
  rintro e w' ⟨rfl, rfl⟩
  go_wp2_with fail
  go_ret2
  exact ⟨rfl, rfl⟩

theorem first_no (n s : Int) (w : World) (h : n < 0 ∨ 64 < n ∨ s < 0 ∨ n < s) :
    Calls Tryd.prog 16 #[.int .i64 n, .int .i64 s] w fun e w' => e = .returned (.tuple #[.int .u64 0, .bool false]) ∧ w = w' := by
  go_enter Tryd.func16, Tryd.ntmps16
  go_wp2_with fail
  refine (within_no _ _ _ h).mono ?_
  rintro e w' ⟨rfl, rfl⟩
  go_wp2_with fail
  go_ret2
  exact ⟨rfl, rfl⟩

/-- is bit i of m one? -/
def bitB (m i : Nat) : Bool := Mm.bt m i == 1

theorem one_any (m i : Nat) (w : World) (hm : m < 18446744073709551616) (hi : i < 64) :
    Calls Tryd.prog 22 #[.int .u64 m, .int .i64 i] w fun e w' => e = .returned (.bool (bitB m i)) ∧ w = w' := by
  have hd : m / 2 ^ i < 18446744073709551616 := Nat.lt_of_le_of_lt (Nat.div_le_self _ _) hm
  have e1 : bits .and .u64 ((m : Int) / 2 ^ i) 1 = (Mm.bt m i : Int) := by
    have : (m : Int) / 2 ^ i = ((m / 2 ^ i : Nat) : Int) := by simp
    rw [this]
    unfold Mm.bt
    rw [← nat_mask1]; exact u64_and_nat (m / 2 ^ i) 1 hd (by decide)
  have e2 : ((Mm.bt m i : Int) == 1) = bitB m i := by
    unfold bitB
    rw [Bool.eq_iff_iff]; simp; omega
  go_enter Tryd.func22, Tryd.ntmps22
  go_wp2
  go_ret
  exact ⟨rfl, rfl⟩

theorem bitB_true (m i : Nat) (h : bitB m i = true) : Mm.bt m i = 1 := by simpa [bitB] using h
theorem bitB_false (m i : Nat) (h : bitB m i = false) : Mm.bt m i = 0 := by
  have := Mm.bt_lt m i
  have h' : ¬ Mm.bt m i = 1 := by simpa [bitB] using h
  omega

theorem one_eq (m i : Nat) (b : Bool) (w : World) (hm : m < 18446744073709551616) (hi : i < 64) (hb : bitB m i = b) :
    Calls Tryd.prog 22 #[.int .u64 m, .int .i64 i] w fun e w' => e = .returned (.bool b) ∧ w = w' := by
  subst hb; exact one_any m i w hm hi

set_option maxHeartbeats 400000 in
theorem weight_any (m : Nat) (w : World) (hm : m < 18446744073709551616) :
    Calls Tryd.prog 21 #[.int .u64 m] w fun e w' => e = .returned (.int .i64 (Mm.wt 64 m)) ∧ w = w' := by
  go_enter Tryd.func21, Tryd.ntmps21
  go_wp2_with fail
  go_loop [3, 4] (fun c j => ∃ (i v : Nat), c = .int .i64 v ∧ j = .int .i64 i ∧ i ≤ 64 ∧ v ≤ i ∧ Mm.wt i m = v) (fun _ j => 64 - (intOf j).toNat)
  case atStart => exact ⟨0, 0, rfl, rfl, by omega, by omega, rfl⟩
  case round =>
    obtain ⟨i, v, rfl, rfl, hi, hv, hw⟩ := hrel
    have Hw := Lib.hid hw
    clear hw
    by_cases hlt : i < 64
    · cases hb : bitB m i with
      | true =>
        have Hb := Lib.hid hb
        clear hb
        go_wp2_with fail
        refine (one_eq m i true _ hm hlt Hb.out).mono ?_
        rintro e w' ⟨rfl, rfl⟩
        go_wp2_with fail
        go_round
        case rel => exact ⟨i + 1, v + 1, by go_num, by go_num, by omega, by omega, by rw [Mm.wt_s, Hw.out, bitB_true m i Hb.out]⟩
        case measure => simp [intOf]; omega
      | false =>
        have Hb := Lib.hid hb
        clear hb
        go_wp2_with fail
        refine (one_eq m i false _ hm hlt Hb.out).mono ?_
        rintro e w' ⟨rfl, rfl⟩
        go_wp2_with fail
        go_round
        case rel => exact ⟨i + 1, v, rfl, by go_num, by omega, by omega, by rw [Mm.wt_s, Hw.out, bitB_false m i Hb.out]; rfl⟩
        case measure => simp [intOf]; omega
    · obtain rfl : i = 64 := by omega
      go_wp2_with fail
      go_ret
      exact ⟨by rw [Hw.out]; rfl, rfl⟩

theorem weight_eq (m v : Nat) (w : World) (hm : m < 18446744073709551616) (hv : Mm.wt 64 m = v) :
    Calls Tryd.prog 21 #[.int .u64 m] w fun e w' => e = .returned (.int .i64 v) ∧ w = w' := by
  subst hv; exact weight_any m w hm

set_option maxHeartbeats 400000 in
theorem refRank_any (m : Nat) (w : World) (hm : m < 18446744073709551616) :
    Calls Tryd.prog 10 #[.int .u64 m] w fun e w' => e = .returned (.int .i64 (Mm.rk 64 m)) ∧ Below w.heap.size w w' := by
  obtain ⟨v, hv⟩ : ∃ v, Mm.wt 64 m = v := ⟨_, rfl⟩
  have hv64 : v ≤ 64 := by rw [← hv]; exact Mm.wt_le 64 m
  obtain ⟨R, hR⟩ : ∃ R, Mm.rk 64 m = R := ⟨_, rfl⟩
  have hRl : R < 9223372036854775808 := by
    have h1 := Mm.rk_lt 64 m
    have h2 := Mm.C_lt 64 (Mm.wt 64 m) (by omega)
    omega
  have Hv := Lib.hid hv
  have HR := Lib.hid hR
  clear hv hR
  rw [HR.out]
  go_enter Tryd.func10, Tryd.ntmps10
  go_wp2_with fail
  refine (weight_eq m v _ hm Hv.out).mono ?_
  rintro e w' ⟨rfl, rfl⟩
  go_wp2_with fail
  go_loopw [3, 4, 5] (fun r c j wr => ∃ (q x y : Nat), r = .int .i64 x ∧ c = .int .i64 y ∧ j = .int .i64 ((q : Int) - 1) ∧ q ≤ 64 ∧ y ≤ 64 ∧ Mm.wt q m = y ∧ x + Mm.rk q m = R ∧ Below w.heap.size w wr) (fun _ _ j _ => (intOf j + 1).toNat)
  case atStart => exact ⟨64, 0, v, rfl, rfl, rfl, by omega, hv64, Hv.out, by rw [HR.out]; omega, Below.refl _ _⟩
  case round =>
    obtain ⟨q, x, y, rfl, rfl, rfl, hq, hy, hw, hx, hB⟩ := hrel
    have Hw := Lib.hid hw
    have Hx := Lib.hid hx
    clear hw hx
    by_cases hlt : 0 < q
    · obtain ⟨i, rfl⟩ : ∃ i, q = i + 1 := ⟨q - 1, by omega⟩
      have hi : i < 64 := by omega
      rw [show ((i + 1 : Nat) : Int) - 1 = (i : Int) from by omega]
      have h1 := Hx.out
      have h2 := Hw.out
      rw [Mm.rk_s, h2] at h1
      rw [Mm.wt_s] at h2
      cases hb : bitB m i with
      | true =>
        rw [if_pos (bitB_true m i hb)] at h1
        rw [bitB_true m i hb] at h2
        obtain ⟨z, hz⟩ : ∃ z, Mm.C i y = z := ⟨_, rfl⟩
        rw [hz] at h1
        have hzz := Cz_nat i y
        rw [hz] at hzz
        have hxz : x + z < 9223372036854775808 := by omega
        have hy1 : 1 ≤ y := by omega
        have Hb := Lib.hid hb
        have H1 := Lib.hid h1
        have H2 := Lib.hid h2
        have Hz := Lib.hid hzz
        clear hb h1 h2 hz hzz
        go_wp2_with fail
        refine (one_eq m i true _ hm hi Hb.out).mono ?_
        rintro e w' ⟨rfl, rfl⟩
        go_wp2_with fail
        refine (over_any _ _ _ (by omega) (by omega)).mono ?_
        rintro e w2 ⟨rfl, hB2⟩
        rw [Hz.out]
        have hB' := hB.trans (hB2.mono hB.size)
        clear hB hB2
        go_wp2_with fail
        go_roundw
        case rel => exact ⟨i, x + z, y - 1, by go_num, by go_num, rfl, by omega, by omega, by have := H2.out; omega, by have := H1.out; omega, hB'⟩
        case measure => simp [intOf]
      | false =>
        rw [if_neg (by rw [bitB_false m i hb]; decide)] at h1
        rw [bitB_false m i hb] at h2
        have Hb := Lib.hid hb
        have H1 := Lib.hid h1
        have H2 := Lib.hid h2
        clear hb h1 h2
        go_wp2_with fail
        refine (one_eq m i false _ hm hi Hb.out).mono ?_
        rintro e w' ⟨rfl, rfl⟩
        go_wp2_with fail
        go_roundw
        case rel => exact ⟨i, x, y, rfl, rfl, rfl, by omega, by omega, by have := H2.out; omega, by have := H1.out; omega, hB⟩
        case measure => simp [intOf]
    · obtain rfl : q = 0 := by omega
      go_wp2_with fail
      go_ret
      refine ⟨?_, hB⟩
      have h := Hx.out
      simp only [Mm.rk, Nat.add_zero] at h
      rw [← h]; rfl

theorem refUnrank_bits (n s r : Int) (w : World) (h : n < 0 ∨ 64 < n) :
    Calls Tryd.prog 8 #[.int .i64 n, .int .i64 s, .int .i64 r] w fun e w' => e = .returned (.tuple #[.int .u64 0, .int .i64 20]) ∧ w = w' := by
  by_cases h1 : n < 0
  · go_enter Tryd.func8, Tryd.ntmps8
    go_wp2_with fail
    go_ret2
    exact ⟨rfl, rfl⟩
  · have h2 : 64 < n := by omega
    go_enter Tryd.func8, Tryd.ntmps8
    go_wp2_with fail
    go_ret2
    exact ⟨rfl, rfl⟩

theorem refUnrank_rank (n s r : Int) (w : World) (h1 : 0 ≤ n) (h2 : n ≤ 64) (h : r < 0 ∨ Cz n s ≤ r) :
    Calls Tryd.prog 8 #[.int .i64 n, .int .i64 s, .int .i64 r] w fun e w' => e = .returned (.tuple #[.int .u64 0, .int .i64 21]) ∧ Below w.heap.size w w' := by
  by_cases h3 : r < 0
  · go_enter Tryd.func8, Tryd.ntmps8
    go_wp2_with fail
    go_ret2
    exact ⟨rfl, Below.refl _ _⟩
  · have h4 : Cz n s ≤ r := by omega
    clear h
    obtain ⟨z, hz⟩ : ∃ z, Cz n s = z := ⟨_, rfl⟩
    rw [hz] at h4
    have Hz := Lib.hid hz
    clear hz
    go_enter Tryd.func8, Tryd.ntmps8
    go_wp2_with fail
    refine (over_any _ _ _ h1 h2).mono ?_
    rintro e w2 ⟨rfl, hB⟩
    rw [Hz.out]
    go_wp2_with fail
    go_ret2
    exact ⟨rfl, hB⟩

theorem C_zero_only {q s r : Nat} (h : r < Mm.C q s) (hs : s = 0) : r = 0 := by subst hs; simp at h; exact h

/-- a step of the way down: bit i is taken. -/
theorem ur_take {i s r M R : Nat} (h : M + Mm.ur (i + 1) s r = R) (hr : r < Mm.C (i + 1) s) (hM : M % 2 ^ (i + 1) = 0) (hc : Mm.C i s ≤ r) :
    1 ≤ s ∧ (M + 2 ^ i) + Mm.ur i (s - 1) (r - Mm.C i s) = R ∧ r - Mm.C i s < Mm.C i (s - 1) ∧ (M + 2 ^ i) % 2 ^ i = 0 := by
  rw [Mm.ur, if_pos hc] at h
  have hs : 1 ≤ s := by
    apply Nat.pos_of_ne_zero
    intro e
    have := C_zero_only hr e
    subst e
    simp at hc
    omega
  obtain ⟨t, rfl⟩ : ∃ t, s = t + 1 := ⟨s - 1, by omega⟩
  rw [Mm.C_succ] at hr
  refine ⟨hs, by omega, by simp only [Nat.add_sub_cancel]; omega, ?_⟩
  rw [Nat.add_mod_right]
  rw [Nat.pow_succ] at hM
  have h2 := Nat.mod_mul_right_mod M (2 ^ i) 2
  rw [hM] at h2
  rw [← h2]; simp

theorem ur_leave {i s r M R : Nat} (h : M + Mm.ur (i + 1) s r = R) (hM : M % 2 ^ (i + 1) = 0) (hc : r < Mm.C i s) :
    M + Mm.ur i s r = R ∧ M % 2 ^ i = 0 := by
  rw [Mm.ur, if_neg (by omega)] at h
  refine ⟨h, ?_⟩
  rw [Nat.pow_succ] at hM
  have h2 := Nat.mod_mul_right_mod M (2 ^ i) 2
  rw [hM] at h2
  rw [← h2]; simp

set_option maxHeartbeats 800000 in
theorem refUnrank_ok (n s r R : Nat) (w : World) (h2 : n ≤ 64) (hr : r < Mm.C n s) (hR : Mm.ur n s r = R) :
    Calls Tryd.prog 8 #[.int .i64 n, .int .i64 s, .int .i64 r] w fun e w' => e = .returned (.tuple #[.int .u64 R, .int .i64 0]) ∧ Below w.heap.size w w' := by
  have hz := Cz_nat n s
  have hRl : R < 18446744073709551616 := by
    have h1 := Mm.ur_lt n s r
    have h3 := pow_le_64 h2
    omega
  have hCl := Mm.C_lt n s h2
  have hsn : s ≤ n := by
    apply Nat.le_of_not_lt
    intro h; have := Mm.C_gt n s h; omega
  obtain ⟨z, hz'⟩ : ∃ z, Mm.C n s = z := ⟨_, rfl⟩
  rw [hz'] at hz hCl
  have hrz : r < z := by omega
  have Hz := Lib.hid hz
  have HR := Lib.hid hR
  have Hr := Lib.hid hr
  have hd1 : decide ((r : Int) < 0) = false := by simp
  have hd2 : decide (z ≤ r) = false := by simp; omega
  clear hz hz' hR hr
  go_enter Tryd.func8, Tryd.ntmps8
  go_wp2_with fail
  refine (over_any _ _ _ (by omega) (by omega)).mono ?_
  rintro e w2 ⟨rfl, hB⟩
  rw [Hz.out]
  go_wp2_with fail
  go_loopw [1, 2, 8, 9] (fun a b m j wr => ∃ (q M s r : Nat), a = .int .i64 s ∧ b = .int .i64 r ∧ m = .int .u64 M ∧ j = .int .i64 ((q : Int) - 1) ∧ q ≤ 64 ∧ s ≤ 64 ∧ r < 9223372036854775808 ∧ M + Mm.ur q s r = R ∧ r < Mm.C q s ∧ M % 2 ^ q = 0 ∧ Below w.heap.size w wr) (fun _ _ _ j _ => (intOf j + 1).toNat)
  case atStart => exact ⟨n, 0, s, r, rfl, rfl, rfl, rfl, h2, by omega, by omega, by rw [HR.out]; omega, Hr.out, by simp, hB⟩
  case round =>
    obtain ⟨q, M, s, r, rfl, rfl, rfl, rfl, hq, hs, hrl, hu, hr, hM, hB'⟩ := hrel
    clear hB
    by_cases hlt : 0 < q
    · obtain ⟨i, rfl⟩ : ∃ i, q = i + 1 := ⟨q - 1, by omega⟩
      have hi : i < 64 := by omega
      rw [show ((i + 1 : Nat) : Int) - 1 = (i : Int) from by omega]
      have hcz := Cz_nat i s
      have HL : Hid (∀ s, Mm.C i s < 9223372036854775808) := fun s => Mm.C_lt i s (by omega)
      by_cases hc : Mm.C i s ≤ r
      · obtain ⟨k1, k2, k3, k4⟩ := ur_take hu hr hM hc
        have hor := nat_join (i + 1) M (2 ^ i) hM (by rw [Nat.pow_succ]; have := Nat.two_pow_pos i; omega)
        obtain ⟨c, hcc⟩ : ∃ c, Mm.C i s = c := ⟨_, rfl⟩
        rw [hcc] at hcz hc k2 k3
        have hpl : 2 ^ i < 18446744073709551616 := by
          have := Nat.pow_lt_pow_right (a := 2) (by decide) hi
          have e : (2 : Nat) ^ 64 = 18446744073709551616 := by decide
          omega
        obtain ⟨P, hP⟩ : ∃ P, (2 : Nat) ^ i = P := ⟨_, rfl⟩
        have hMP : M + P ≤ R := by omega
        have e1 : IntKind.u64.wrap ((2 : Int) ^ i) = (P : Int) := wrap_nat P P rfl (by omega) _ (by rw [← hP]; simp)
        have e2 : bits .or .u64 (M : Int) (P : Int) = ((M : Int) + P) := by
          rw [← Int.natCast_add, ← hP, ← hor]; exact u64_or_nat _ _ (by omega) hpl
        rw [hP] at k2
        have K2 := Lib.hid k2
        have K3 := Lib.hid k3
        have K4 := Lib.hid k4
        have HP := Lib.hid hP
        have Hc := Lib.hid hcz
        have hK3 := HL.out (s - 1)
        clear k2 k3 k4 hP hcz hcc hu hr hM hor HL hpl
        go_wp2_with fail
        refine (over_any _ _ _ (by omega) (by omega)).mono ?_
        rintro e w3 ⟨rfl, hB3⟩
        rw [Hc.out]
        have hB := hB'.trans (hB3.mono hB'.size)
        clear hB' hB3
        go_wp2_with fail
        go_roundw
        case rel => exact ⟨i, M + P, s - 1, r - c, by go_num, by go_num, by go_num, rfl, by omega, by omega, by omega, K2.out, K3.out, by rw [← HP.out]; exact K4.out, hB⟩
        case measure => simp [intOf]
      · obtain ⟨k1, k2⟩ := ur_leave hu hM (by omega)
        obtain ⟨c, hcc⟩ : ∃ c, Mm.C i s = c := ⟨_, rfl⟩
        rw [hcc] at hcz hc
        have K1 := Lib.hid k1
        have K2 := Lib.hid k2
        have Hcc := Lib.hid hcc
        have Hc := Lib.hid hcz
        have hc' : r < c := by omega
        clear k1 k2 hcz hcc hu hr hM HL hc
        go_wp2_with fail
        refine (over_any _ _ _ (by omega) (by omega)).mono ?_
        rintro e w3 ⟨rfl, hB3⟩
        rw [Hc.out]
        have hB := hB'.trans (hB3.mono hB'.size)
        clear hB' hB3
        go_wp2_with fail
        go_roundw
        case rel => exact ⟨i, M, s, r, rfl, rfl, rfl, rfl, by omega, by omega, by omega, K1.out, by rw [Hcc.out]; exact hc', K2.out, hB⟩
        case measure => simp [intOf]
    · obtain rfl : q = 0 := by omega
      have hu' : M = R := by simpa [Mm.ur] using hu
      subst hu'
      clear hu hr hM
      go_wp2_with fail
      go_ret2
      exact ⟨rfl, hB'⟩
end Go.Proofs.YtpldjhlhkjmneaaDoor
