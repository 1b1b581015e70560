/- Contracts of math/bits.TrailingZeros64, masks.Rank, masks.Unrank, and of the law's low and weight. Conditions: each theorem's own hypotheses; the library's table of 64 numbers holds what its initialiser lays. -/
import Derived.Test.YtpldjhlhkjmneaaDoorMasksF
import Derived.Test.YtpldjhlhkjmneaaDoorMr
namespace Go.Proofs.YtpldjhlhkjmneaaDoor
open Go.RowKit

/-- The library's table. -/
def deB : List Nat := [0, 1, 56, 2, 57, 49, 28, 3, 61, 58, 42, 50, 38, 29, 17, 4, 62, 47, 59, 36, 45, 43, 51, 22, 53, 39, 33, 30, 24, 18, 12, 5, 63, 55, 48, 27, 60, 41, 37, 16, 46, 35, 44, 21, 52, 32, 23, 11, 54, 26, 40, 15, 34, 20, 31, 10, 25, 14, 19, 9, 13, 8, 7, 6]

/-- Block 0 is the library's table. -/
def TabW (w : World) : Prop := ∀ j : Nat, j < 64 → w.cell? ⟨0, j, none⟩ = some (.int .u8 (deB.getD j 0 : Nat))

theorem TabW.pos {w : World} (h : TabW w) : 0 < w.heap.size := World.block_lt_of_cell? w _ (h 0 (by decide))
theorem TabW.below {w w' : World} (h : TabW w) (hb : Below w.heap.size w w') : TabW w' := fun j hj => (hb.cell (p := ⟨0, j, none⟩) h.pos).trans (h j hj)

/-- where the table is looked at. -/
def deI (j : Nat) : Nat := 2 ^ j * 285870213051353865 % 18446744073709551616 / 288230376151711744

theorem deB_all : ∀ j, j < 64 → deI j < 64 ∧ deB.getD (deI j) 0 = j := by decide

theorem tz_any (x j o : Nat) (w : World) (hx : x = 2 ^ j * o) (ho : o % 2 = 1) (hlt : x < 18446744073709551616) (hT : TabW w) :
    Calls Tryd.prog 20 #[.int .u64 x] w fun e w' => e = .returned (.int .i64 j) ∧ w = w' := by
  have hj0 := Nat.two_pow_pos j
  have hj : j < 64 := by
    apply Nat.lt_of_not_le
    intro h
    have := Nat.pow_le_pow_right (n := 2) (by decide) h
    have e : (2 : Nat) ^ 64 = 18446744073709551616 := by decide
    have := Nat.mul_le_mul_left (2 ^ j) (show 1 ≤ o by omega)
    omega
  have e64 : (18446744073709551616 : Nat) = 2 ^ (j + (64 - j)) := by rw [show j + (64 - j) = 64 from by omega]
  have hpos : 0 < x := by rw [hx]; exact Nat.mul_pos hj0 (by omega)
  have hand : (x &&& (18446744073709551616 - x)) = 2 ^ j := by
    have hlt' : o < 2 ^ (64 - j) := by
      refine Nat.lt_of_mul_lt_mul_left (a := 2 ^ j) ?_
      rw [← hx, ← Nat.pow_add, ← e64]; exact hlt
    have := Mm.lowest j o (64 - j) ho hlt' (by omega)
    rw [← hx, ← e64] at this
    exact this
  have hjlt : 2 ^ j < 18446744073709551616 := by
    have := Nat.pow_lt_pow_right (a := 2) (by decide) hj
    have e : (2 : Nat) ^ 64 = 18446744073709551616 := by decide
    omega
  obtain ⟨hd1, hd2⟩ := deB_all j hj
  have hc := hT (deI j) hd1
  rw [hd2] at hc
  obtain ⟨M, hM⟩ : ∃ M, 18446744073709551616 - x = M := ⟨_, rfl⟩
  have e1 : IntKind.u64.wrap (-(x : Int)) = (M : Int) := by rw [IntKind.wrap_u64]; omega
  rw [hM] at hand
  obtain ⟨F, hF⟩ : ∃ F, 2 ^ j = F := ⟨_, rfl⟩
  rw [hF] at hand hjlt
  have e2 : bits .and .u64 (x : Int) (M : Int) = (F : Int) := by rw [← hand]; exact u64_and_nat x M hlt (by omega)
  obtain ⟨G, hG⟩ : ∃ G, F * 285870213051353865 % 18446744073709551616 = G := ⟨_, rfl⟩
  have e3 : IntKind.u64.wrap ((F : Int) * 285870213051353865) = (G : Int) := by
    rw [IntKind.wrap_u64, ← hG]; omega
  have hI : deI j = G / 288230376151711744 := by unfold deI; rw [hF, hG]
  rw [hI] at hc hd1
  have hx0 : ((x : Int) == 0) = false := by simp; omega
  clear hx ho hj0 e64 hand hd2 hT hM hF hG hI hpos hjlt
  go_enter Tryd.func20, Tryd.ntmps20
  go_wp2
  go_ret
  exact ⟨rfl, rfl⟩

theorem rk_bound (n m : Nat) (hn : n ≤ 64) : Mm.rk n m + 1 ≤ 9223372036854775807 := by have h1 := Mm.rk_lt n m; have h2 := Mm.C_lt n (Mm.wt n m) hn; omega

theorem refRank_eq (m R : Nat) (w : World) (hm : m < 18446744073709551616) (hR : Mm.rk 64 m = R) :
    Calls Tryd.prog 10 #[.int .u64 m] w fun e w' => e = .returned (.int .i64 R) ∧ Below w.heap.size w w' := by
  subst hR; exact refRank_any m w hm

theorem min_of (a b c : Nat) (h : a ≤ b) (hc : c = a) : min (a : Int) b = c := by omega

set_option maxHeartbeats 400000 in
theorem rank_any (m R : Nat) (w : World) (hm : m < 18446744073709551616) (hR : Mm.rk 64 m = R) (hT : TabW w) :
    Calls Tryd.prog 9 #[.int .u64 m] w fun e w' => e = .returned (.int .i64 R) ∧ Below w.heap.size w w' := by
  have HR := Lib.hid hR
  have HT := Lib.hid hT
  clear hR hT
  go_enter Tryd.func9, Tryd.ntmps9
  go_wp2_with fail
  refine (counts_any _).mono ?_
  rintro e w2 ⟨rfl, hB, hT2⟩
  have HT2 := Lib.hid hT2
  have HTW := Lib.hid (HT.out.below hB)
  clear hT2
  go_wp2_with fail
  go_loop [0, 3, 5] (fun a r i => ∃ (t x c y : Nat), a = .int .u64 x ∧ r = .int .i64 y ∧ i = .int .i64 ((c : Int) + 1) ∧ x = Mm.above t m ∧ Mm.wt t m = c ∧ Mm.rk t m = y ∧ t ≤ 64 ∧ c ≤ 64 ∧ x ≤ m) (fun a _ _ => (intOf a).toNat)
  case atStart => exact ⟨0, m, 0, 0, rfl, rfl, rfl, (Mm.above_all m).symm, rfl, rfl, by omega, by omega, Nat.le_refl _⟩
  case round =>
    obtain ⟨t, x, c, y, rfl, rfl, rfl, hx, hc, hy, ht, hc64, hxm⟩ := hrel
    by_cases h0 : x = 0
    · subst h0
      have hlt := Mm.above_zero t m hx.symm
      have h64 := Mm.rk_64 t m hlt ht
      rw [HR.out, hy] at h64
      have H64 := Lib.hid h64
      clear hx hc hy h64 hlt
      go_wp2_with fail
      go_ret
      exact ⟨by rw [H64.out]; rfl, hB⟩
    · obtain ⟨j, o, hjo, ho⟩ := Mm.odd_part x (by omega)
      rw [hx] at hjo
      obtain ⟨k1, k2, k3, k4⟩ := Mm.above_step t m j o hjo ho
      rw [← hx] at hjo
      have hxl : x < 18446744073709551616 := by omega
      have hp := Mm.and_pred j o ho
      rw [k2, ← hjo] at hp
      have hj : j < 64 := by
        apply Nat.lt_of_not_le
        intro h
        have := Nat.pow_le_pow_right (n := 2) (by decide) h
        have e : (2 : Nat) ^ 64 = 18446744073709551616 := by decide
        have := Nat.mul_le_mul_left (2 ^ j) (show 1 ≤ o by omega)
        omega
      rw [hc] at k3 k4
      rw [hy] at k4
      have hcell := HT2.out.1 j (c + 1) (by omega) (by have := Mm.wt_le (j + 1) m; omega)
      simp only [] at hcell
      obtain ⟨z, hz⟩ : ∃ z, Mm.C j (c + 1) = z := ⟨_, rfl⟩
      rw [hz] at hcell k4
      have hb := rk_bound (j + 1) m (by omega)
      rw [k4] at hb
      have hwt := Mm.wt_le (j + 1) m
      rw [k3] at hwt
      obtain ⟨x', hx'⟩ : ∃ x', Mm.above (j + 1) m = x' := ⟨_, rfl⟩
      rw [hx'] at hp
      have hx'lt : x' < x := by
        have e : x' = 2 ^ j * (o - 1) := by rw [← hx', k2]
        have := Nat.mul_lt_mul_of_pos_left (show o - 1 < o by omega) (Nat.two_pow_pos j)
        omega
      have e0 : IntKind.u64.wrap ((x : Int) - 1) = ((x - 1 : Nat) : Int) := wrap_nat (x - 1) _ rfl (by omega) _ (by omega)
      have e1 : bits .and .u64 (x : Int) ((x - 1 : Nat) : Int) = (x' : Int) := by rw [← hp]; exact u64_and_nat x (x - 1) hxl (by omega)
      obtain ⟨xp, hxp⟩ : ∃ xp, x - 1 = xp := ⟨_, rfl⟩
      rw [hxp] at e0 e1
      have hne : ((x : Int) != 0) = true := by simp; omega
      have Hjo := Lib.hid hjo
      have Ho := Lib.hid ho
      have K3 := Lib.hid k3
      have K4 := Lib.hid k4
      have Hx' := Lib.hid hx'
      have hx'm : x' ≤ m := by rw [← hx']; exact Mm.above_le _ _
      clear hx hc hy k1 k2 k3 k4 hjo ho hp hz hx' hxp
      go_wp2_with fail
      refine (tz_any x j o _ Hjo.out Ho.out hxl HTW.out).mono ?_
      rintro e w' ⟨rfl, rfl⟩
      go_wp2_with fail
      go_round
      case rel => exact ⟨j + 1, x', c + 1, y + z, rfl, by go_num, by go_num, Hx'.out.symm, K3.out, K4.out, by omega, by omega, hx'm⟩
      case measure => simp [intOf]; omega

theorem unrank_bits (n s r : Int) (w : World) (h : n < 0 ∨ 64 < n) :
    Calls Tryd.prog 7 #[.int .i64 n, .int .i64 s, .int .i64 r] w fun e w' => e = .returned (.tuple #[.int .u64 0, .int .i64 20]) ∧ w = w' := by
  go_enter Tryd.func7, Tryd.ntmps7
  go_wp2_with fail
  refine (count_bad _ _ _ h).mono ?_
  rintro e w1 ⟨rfl, rfl⟩
  go_wp2_with fail
  go_ret2
  exact ⟨rfl, rfl⟩

theorem unrank_rank (n s r : Int) (w : World) (h1 : 0 ≤ n) (h2 : n ≤ 64) (h : r < 0 ∨ Cz n s ≤ r) :
    Calls Tryd.prog 7 #[.int .i64 n, .int .i64 s, .int .i64 r] w fun e w' => e = .returned (.tuple #[.int .u64 0, .int .i64 21]) ∧ Below w.heap.size w w' := by
  obtain ⟨z, hz⟩ : ∃ z, Cz n s = z := ⟨_, rfl⟩
  rw [hz] at h
  have Hz := Lib.hid hz
  clear hz
  by_cases h3 : r < 0
  · go_enter Tryd.func7, Tryd.ntmps7
    go_wp2_with fail
    refine (count_ok _ _ _ h1 h2).mono ?_
    rintro e w1 ⟨rfl, hB⟩
    rw [Hz.out]
    go_wp2_with fail
    go_ret2
    exact ⟨rfl, hB⟩
  · have h4 : z ≤ r := by omega
    clear h
    go_enter Tryd.func7, Tryd.ntmps7
    go_wp2_with fail
    refine (count_ok _ _ _ h1 h2).mono ?_
    rintro e w1 ⟨rfl, hB⟩
    rw [Hz.out]
    go_wp2_with fail
    go_ret2
    exact ⟨rfl, hB⟩

set_option maxHeartbeats 800000 in
theorem unrank_ok (n s r R : Nat) (w : World) (h2 : n ≤ 64) (hr : r < Mm.C n s) (hR : Mm.ur n s r = R) :
    Calls Tryd.prog 7 #[.int .i64 n, .int .i64 s, .int .i64 r] w fun e w' => e = .returned (.tuple #[.int .u64 R, .int .i64 0]) ∧ Below w.heap.size w w' := by
  have hz := Cz_nat n s
  have hRl : R < 18446744073709551616 := by
    have h1 := Mm.ur_lt n s r
    have h3 := pow_le_64 h2
    omega
  have hCl := Mm.C_lt n s h2
  have hsn : s ≤ n := by
    apply Nat.le_of_not_lt
    intro h; have := Mm.C_gt n s h; omega
  obtain ⟨z, hz'⟩ : ∃ z, Mm.C n s = z := ⟨_, rfl⟩
  rw [hz'] at hz hCl
  have hrz : r < z := by omega
  have Hz := Lib.hid hz
  have HR := Lib.hid hR
  have Hr := Lib.hid hr
  have hd1 : decide ((r : Int) < 0) = false := by simp
  have hd2 : decide (z ≤ r) = false := by simp; omega
  clear hz hz' hR hr
  go_enter Tryd.func7, Tryd.ntmps7
  go_wp2_with fail
  refine (count_ok _ _ _ (by omega) (by omega)).mono ?_
  rintro e w1 ⟨rfl, hB⟩
  rw [Hz.out]
  go_wp2_with fail
  refine (counts_any _).mono ?_
  rintro e w2 ⟨rfl, hB2, hT2⟩
  have HT2 := Lib.hid hT2
  have hB' := hB.trans (hB2.mono hB.size)
  clear hT2 hB hB2
  go_wp2_with fail
  go_loop [1, 2, 10, 12] (fun a b m j => ∃ (q M s r : Nat), a = .int .i64 s ∧ b = .int .i64 r ∧ m = .int .u64 M ∧ j = .int .i64 ((q : Int) - 1) ∧ q ≤ 64 ∧ s ≤ 64 ∧ r < 9223372036854775808 ∧ M + Mm.ur q s r = R ∧ r < Mm.C q s ∧ M % 2 ^ q = 0) (fun _ _ _ j => (intOf j + 1).toNat)
  case atStart => exact ⟨n, 0, s, r, rfl, rfl, rfl, rfl, h2, by omega, by omega, by rw [HR.out]; omega, Hr.out, by simp⟩
  case round =>
    obtain ⟨q, M, s, r, rfl, rfl, rfl, rfl, hq, hs, hrl, hu, hr, hM⟩ := hrel
    by_cases hlt : 0 < q
    · obtain ⟨i, rfl⟩ : ∃ i, q = i + 1 := ⟨q - 1, by omega⟩
      have hi : i < 64 := by omega
      rw [show ((i + 1 : Nat) : Int) - 1 = (i : Int) from by omega]
      by_cases hs0 : 0 < s
      · have hs0' : decide ((0 : Int) < (s : Int)) = true := by simp; omega
        have HL : Hid (∀ s, Mm.C i s < 9223372036854775808) := fun s => Mm.C_lt i s (by omega)
        have hcell := HT2.out.1 i s (by omega) hs
        simp only [] at hcell
        by_cases hc : Mm.C i s ≤ r
        · obtain ⟨k1, k2, k3, k4⟩ := ur_take hu hr hM hc
          have hor := nat_join (i + 1) M (2 ^ i) hM (by rw [Nat.pow_succ]; have := Nat.two_pow_pos i; omega)
          obtain ⟨c, hcc⟩ : ∃ c, Mm.C i s = c := ⟨_, rfl⟩
          rw [hcc] at hcell hc k2 k3
          have hpl : 2 ^ i < 18446744073709551616 := by
            have := Nat.pow_lt_pow_right (a := 2) (by decide) hi
            have e : (2 : Nat) ^ 64 = 18446744073709551616 := by decide
            omega
          obtain ⟨P, hP⟩ : ∃ P, (2 : Nat) ^ i = P := ⟨_, rfl⟩
          have hMP : M + P ≤ R := by omega
          have e1 : IntKind.u64.wrap ((2 : Int) ^ i) = (P : Int) := wrap_nat P P rfl (by omega) _ (by rw [← hP]; simp)
          have e2 : bits .or .u64 (M : Int) (P : Int) = ((M : Int) + P) := by
            rw [← Int.natCast_add, ← hP, ← hor]; exact u64_or_nat _ _ (by omega) hpl
          rw [hP] at k2
          have K2 := Lib.hid k2
          have K3 := Lib.hid k3
          have K4 := Lib.hid k4
          have HP := Lib.hid hP
          have hK3 := HL.out (s - 1)
          clear k2 k3 k4 hP hcc hu hr hM hor HL hpl
          go_wp2_with fail
          go_round
          case rel => exact ⟨i, M + P, s - 1, r - c, by go_num, by go_num, by go_num, rfl, by omega, by omega, by omega, K2.out, K3.out, by rw [← HP.out]; exact K4.out⟩
          case measure => simp [intOf]
        · obtain ⟨k1, k2⟩ := ur_leave hu hM (by omega)
          obtain ⟨c, hcc⟩ : ∃ c, Mm.C i s = c := ⟨_, rfl⟩
          rw [hcc] at hcell hc
          have K1 := Lib.hid k1
          have K2 := Lib.hid k2
          have Hcc := Lib.hid hcc
          have hc' : r < c := by omega
          clear k1 k2 hcc hu hr hM HL hc
          go_wp2_with fail
          go_round
          case rel => exact ⟨i, M, s, r, rfl, rfl, rfl, rfl, by omega, by omega, by omega, K1.out, by rw [Hcc.out]; exact hc', K2.out⟩
          case measure => simp [intOf]
      · obtain rfl : s = 0 := by omega
        obtain rfl : r = 0 := C_zero_only hr rfl
        rw [Mm.ur_none, Nat.add_zero] at hu
        subst hu
        clear hr hM
        go_wp2_with fail
        go_ret2
        exact ⟨rfl, hB'⟩
    · obtain rfl : q = 0 := by omega
      have hu' : M = R := by simpa [Mm.ur] using hu
      subst hu'
      clear hu hr hM
      go_wp2_with fail
      go_ret2
      exact ⟨rfl, hB'⟩

theorem lawLow_any (n m v : Nat) (w : World) (hn : n ≤ 64) (hm : m < 18446744073709551616) (hv : m % 2 ^ n = v) :
    Calls Tryd.prog 13 #[.int .i64 n, .int .u64 m] w fun e w' => e = .returned (.int .u64 v) ∧ w = w' := by
  by_cases h64 : n = 64
  · subst h64
    obtain rfl : m = v := by rw [← hv]; exact (Nat.mod_eq_of_lt hm).symm
    clear hv
    go_enter Tryd.func13, Tryd.ntmps13
    go_wp2
    go_ret
    exact ⟨rfl, rfl⟩
  · have hb : ((n : Int) == 64) = false := by simp; omega
    have hn' : n < 64 := by omega
    have h1 := lowN_lt n hn
    have h2 := Nat.two_pow_pos n
    have h3 : (2 : Nat) ^ n = lowN n + 1 := by unfold lowN; omega
    have h6 : (m &&& lowN n) = v := by unfold lowN; rw [Nat.and_two_pow_sub_one_eq_mod]; exact hv
    obtain ⟨P, hP⟩ : ∃ P, lowN n = P := ⟨_, rfl⟩
    rw [hP] at h1 h3 h6
    have h4 : ((2 : Int) ^ n) = ((P + 1 : Nat) : Int) := by rw [← h3]; simp
    have h5 : P + 1 < 18446744073709551616 := by
      have := Nat.pow_le_pow_right (n := 2) (by decide) (show n ≤ 63 by omega)
      have e : (2 : Nat) ^ 63 = 9223372036854775808 := by decide
      omega
    have e1 : IntKind.u64.wrap ((2 : Int) ^ n) = ((P + 1 : Nat) : Int) := wrap_nat _ _ rfl h5 _ h4
    have e3 : IntKind.u64.wrap ((P : Int)) = (P : Int) := wrap_nat _ _ rfl h1 _ (by omega)
    have e4 : bits .and .u64 (m : Int) (P : Int) = (v : Int) := by rw [← h6]; exact u64_and_nat m P hm h1
    rw [Int.natCast_succ] at e1
    clear hP h1 h2 h3 h4 h5 h6 hv
    go_enter Tryd.func13, Tryd.ntmps13
    go_wp2
    go_ret
    exact ⟨rfl, rfl⟩

set_option maxHeartbeats 400000 in
theorem lawWeight_any (m R : Nat) (w : World) (hm : m < 18446744073709551616) (hR : Mm.wt 64 m = R) :
    Calls Tryd.prog 14 #[.int .u64 m] w fun e w' => e = .returned (.int .i64 R) ∧ w = w' := by
  have HR := Lib.hid hR
  clear hR
  go_enter Tryd.func14, Tryd.ntmps14
  go_wp2_with fail
  go_loop [0, 3] (fun a i => ∃ (t x c : Nat), a = .int .u64 x ∧ i = .int .i64 c ∧ x = Mm.above t m ∧ Mm.wt t m = c ∧ t ≤ 64 ∧ c ≤ 64 ∧ x ≤ m) (fun a _ => (intOf a).toNat)
  case atStart => exact ⟨0, m, 0, rfl, rfl, (Mm.above_all m).symm, rfl, by omega, by omega, Nat.le_refl _⟩
  case round =>
    obtain ⟨t, x, c, rfl, rfl, hx, hc, ht, hc64, hxm⟩ := hrel
    by_cases h0 : x = 0
    · subst h0
      have hlt := Mm.above_zero t m hx.symm
      have h64 := Mm.wt_64 t m hlt ht
      rw [HR.out, hc] at h64
      have H64 := Lib.hid h64
      clear hx hc h64 hlt
      go_wp2_with fail
      go_ret
      exact ⟨by rw [H64.out]; rfl, rfl⟩
    · obtain ⟨j, o, hjo, ho⟩ := Mm.odd_part x (by omega)
      rw [hx] at hjo
      obtain ⟨k1, k2, k3, k4⟩ := Mm.above_step t m j o hjo ho
      rw [← hx] at hjo
      have hxl : x < 18446744073709551616 := by omega
      have hp := Mm.and_pred j o ho
      rw [k2, ← hjo] at hp
      have hj : j < 64 := by
        apply Nat.lt_of_not_le
        intro h
        have := Nat.pow_le_pow_right (n := 2) (by decide) h
        have e : (2 : Nat) ^ 64 = 18446744073709551616 := by decide
        have := Nat.mul_le_mul_left (2 ^ j) (show 1 ≤ o by omega)
        omega
      rw [hc] at k3
      have hwt := Mm.wt_le (j + 1) m
      rw [k3] at hwt
      obtain ⟨x', hx'⟩ : ∃ x', Mm.above (j + 1) m = x' := ⟨_, rfl⟩
      rw [hx'] at hp
      have hx'lt : x' < x := by
        have e : x' = 2 ^ j * (o - 1) := by rw [← hx', k2]
        have := Nat.mul_lt_mul_of_pos_left (show o - 1 < o by omega) (Nat.two_pow_pos j)
        omega
      have e0 : IntKind.u64.wrap ((x : Int) - 1) = ((x - 1 : Nat) : Int) := wrap_nat (x - 1) _ rfl (by omega) _ (by omega)
      have e1 : bits .and .u64 (x : Int) ((x - 1 : Nat) : Int) = (x' : Int) := by rw [← hp]; exact u64_and_nat x (x - 1) hxl (by omega)
      obtain ⟨xp, hxp⟩ : ∃ xp, x - 1 = xp := ⟨_, rfl⟩
      rw [hxp] at e0 e1
      have hx0 : 0 < x := by omega
      have K3 := Lib.hid k3
      have Hx' := Lib.hid hx'
      have hx'm : x' ≤ m := by rw [← hx']; exact Mm.above_le _ _
      clear hx hc k1 k2 k3 k4 hjo ho hp hx' hxp
      go_wp2_with fail
      go_round
      case rel => exact ⟨j + 1, x', c + 1, rfl, by go_num, Hx'.out.symm, K3.out, by omega, by omega, hx'm⟩
      case measure => simp [intOf]; omega
end Go.Proofs.YtpldjhlhkjmneaaDoor
