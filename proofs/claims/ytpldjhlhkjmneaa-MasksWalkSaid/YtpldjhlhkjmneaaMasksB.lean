/- Contracts of kindredref2.Count, masks.Upto, kindredref2.Upto: sums in Pascal's triangle, cut off at a bound. Conditions: each theorem's own hypotheses. -/
import Derived.Test.YtpldjhlhkjmneaaMasksA
namespace Go.Proofs.Ytpldjhlhkjmneaa
open Go.RowKit

theorem refCount_bad (n s : Int) (w : World) (h : n < 0 ∨ 64 < n) :
    Calls Try.prog 17 #[.int .i64 n, .int .i64 s] w fun e w' => e = .returned (.tuple #[.int .i64 0, .int .i64 20]) ∧ w = w' := by
  by_cases h1 : n < 0
  · go_enter Try.func17, Try.ntmps17
    go_wp2_with fail
    go_ret2
    exact ⟨rfl, rfl⟩
  have h2 : 64 < n := by omega
  go_enter Try.func17, Try.ntmps17
  go_wp2_with fail
  go_ret2
  exact ⟨rfl, rfl⟩

theorem refCount_ok (n s : Int) (w : World) (h1 : 0 ≤ n) (h2 : n ≤ 64) :
    Calls Try.prog 17 #[.int .i64 n, .int .i64 s] w fun e w' => e = .returned (.tuple #[.int .i64 (Cz n s), .int .i64 0]) ∧ Below w.heap.size w w' := by
  go_enter Try.func17, Try.ntmps17
  go_wp2_with fail
  refine (over_any _ _ _ h1 h2).mono ?_
  rintro e w1 ⟨rfl, hB⟩
  go_wp2_with fail
  go_ret2
  exact ⟨rfl, hB⟩

/-- The sum of n over 0 .. c - 1. -/
def Sp (n : Nat) : Nat → Nat
  | 0 => 0
  | c + 1 => Sp n c + Mm.C n c

theorem Sp_S (n c : Nat) : Sp n (c + 1) = Mm.S n c := by
  induction c with
  | zero => simp [Sp, Mm.S]
  | succ c ih => rw [Sp, ih]; rfl
theorem Sp_mono (n : Nat) {c d : Nat} (h : c ≤ d) : Sp n c ≤ Sp n d := by
  induction h with
  | refl => exact Nat.le_refl _
  | step _ ih => exact Nat.le_trans ih (by rw [Sp]; omega)
theorem Sp_top (n : Nat) {c : Nat} (h : n + 1 ≤ c) : Sp n c = Sp n (n + 1) := by
  induction h with
  | refl => rfl
  | step h ih =>
    have h' := h
    simp only [Nat.le_eq] at h'
    rw [Sp, ih, Mm.C_gt _ _ (by omega)]; rfl

/-- The sum of n over 0 .. s, for whole s. -/
def Sz (n s : Int) : Int := (Sp n.toNat (s + 1).toNat : Int)
/-- .. cut off at b. -/
def Uz (n s b : Int) : Int := min (Sz n s) b

theorem Uz_cut (n c s : Nat) (S b : Int) (h : S = (Sp n c : Int)) (hc : b ≤ S + (Mm.C n c : Int)) (h1 : c ≤ s) : b = Uz n s b := by
  unfold Uz Sz
  have := Sp_mono n (show c + 1 ≤ s + 1 by omega)
  rw [Sp] at this
  rw [show ((n : Int)).toNat = n from rfl, show ((s : Int) + 1).toNat = s + 1 from rfl]
  omega

theorem Uz_all (n c : Nat) (s S b : Int) (h : S = (Sp n c : Int)) (hb : S ≤ b) (hi : c = 0 ∨ ((c : Int) ≤ s + 1 ∧ c ≤ n + 1)) (hx : s < c ∨ n < c) : S = Uz n s b := by
  have e : Sp n (s + 1).toNat = Sp n c := by
    by_cases h1 : s < c
    · rw [show (s + 1).toNat = c from by omega]
    · rw [Sp_top n (c := (s + 1).toNat) (by omega), show c = n + 1 from by omega]
  unfold Uz Sz
  rw [show ((n : Int)).toNat = n from rfl, e]
  omega

theorem upto_bits (n s b : Int) (w : World) (h : n < 0 ∨ 64 < n) :
    Calls Try.prog 18 #[.int .i64 n, .int .i64 s, .int .i64 b] w fun e w' => e = .returned (.tuple #[.int .i64 0, .int .i64 20]) ∧ w = w' := by
  go_enter Try.func18, Try.ntmps18
  go_wp2_with fail
  refine (count_bad _ _ _ h).mono ?_
  rintro e w1 ⟨rfl, rfl⟩
  go_wp2_with fail
  go_ret2
  exact ⟨rfl, rfl⟩

theorem upto_range (n s b : Int) (w : World) (h1 : 0 ≤ n) (h2 : n ≤ 64) (h : b < 0 ∨ 4611686018427387904 < b) :
    Calls Try.prog 18 #[.int .i64 n, .int .i64 s, .int .i64 b] w fun e w' => e = .returned (.tuple #[.int .i64 0, .int .i64 13]) ∧ Below w.heap.size w w' := by
  by_cases hb : b < 0
  · go_enter Try.func18, Try.ntmps18
    go_wp2_with fail
    refine (count_ok _ _ _ h1 h2).mono ?_
    rintro e w1 ⟨rfl, hB⟩
    go_wp2_with fail
    go_ret2
    exact ⟨rfl, hB⟩
  · have hb' : 4611686018427387904 < b := by omega
    clear h hb
    go_enter Try.func18, Try.ntmps18
    go_wp2_with fail
    refine (count_ok _ _ _ h1 h2).mono ?_
    rintro e w1 ⟨rfl, hB⟩
    go_wp2_with fail
    go_ret2
    exact ⟨rfl, hB⟩

theorem refUpto_bits (n s b : Int) (w : World) (h : n < 0 ∨ 64 < n) :
    Calls Try.prog 19 #[.int .i64 n, .int .i64 s, .int .i64 b] w fun e w' => e = .returned (.tuple #[.int .i64 0, .int .i64 20]) ∧ w = w' := by
  by_cases h1 : n < 0
  · go_enter Try.func19, Try.ntmps19
    go_wp2_with fail
    go_ret2
    exact ⟨rfl, rfl⟩
  · have h2 : 64 < n := by omega
    go_enter Try.func19, Try.ntmps19
    go_wp2_with fail
    go_ret2
    exact ⟨rfl, rfl⟩

theorem refUpto_range (n s b : Int) (w : World) (h1 : 0 ≤ n) (h2 : n ≤ 64) (h : b < 0 ∨ 4611686018427387904 < b) :
    Calls Try.prog 19 #[.int .i64 n, .int .i64 s, .int .i64 b] w fun e w' => e = .returned (.tuple #[.int .i64 0, .int .i64 13]) ∧ w = w' := by
  by_cases hb : b < 0
  · go_enter Try.func19, Try.ntmps19
    go_wp2_with fail
    go_ret2
    exact ⟨rfl, rfl⟩
  · have hb' : 4611686018427387904 < b := by omega
    clear h hb
    go_enter Try.func19, Try.ntmps19
    go_wp2_with fail
    go_ret2
    exact ⟨rfl, rfl⟩

set_option maxHeartbeats 800000 in
theorem upto_ok (n s b : Int) (w : World) (h1 : 0 ≤ n) (h2 : n ≤ 64) (h3 : 0 ≤ b) (h4 : b ≤ 4611686018427387904) :
    Calls Try.prog 18 #[.int .i64 n, .int .i64 s, .int .i64 b] w fun e w' => e = .returned (.tuple #[.int .i64 (Uz n s b), .int .i64 0]) ∧ Below w.heap.size w w' := by
  obtain ⟨i, rfl⟩ := Int.eq_ofNat_of_zero_le h1
  have hd1 : decide (b < 0) = false := by simp; omega
  have hd2 : decide (4611686018427387904 < b) = false := by simp; omega
  go_enter Try.func18, Try.ntmps18
  go_wp2_with fail
  refine (count_ok _ _ _ h1 h2).mono ?_
  rintro e w1 ⟨rfl, hB⟩
  go_wp2_with fail
  refine (counts_any _).mono ?_
  rintro e w2 ⟨rfl, hB2, hT⟩
  have HT := Lib.hid hT
  have hB' := hB.trans (hB2.mono hB.size)
  clear hT hB hB2
  go_wp2_with fail
  go_loop [10, 12] (fun S j => ∃ (c : Nat) (S' : Int), S = .int .i64 S' ∧ j = .int .i64 c ∧ S' = (Sp i c : Int) ∧ S' ≤ b ∧ (c = 0 ∨ ((c : Int) ≤ s + 1 ∧ c ≤ i + 1))) (fun _ j => 70 - (intOf j).toNat)
  case atStart => exact ⟨0, 0, rfl, rfl, rfl, h3, .inl rfl⟩
  case round =>
    obtain ⟨c, S, rfl, rfl, hS, hSb, hc⟩ := hrel
    have hS0 : 0 ≤ S := by omega
    have HS := Lib.hid hS
    clear hS
    have Hc := Lib.hid hc
    clear hc
    by_cases hin : (c : Int) ≤ s ∧ c ≤ i
    · obtain ⟨hin1, hin2⟩ := hin
      have hcell := HT.out.1 i c (by omega) (by omega)
      simp only [] at hcell
      obtain ⟨x, hx⟩ : ∃ x : Nat, Mm.C i c = x := ⟨_, rfl⟩
      rw [hx] at hcell
      have Hx := Lib.hid hx
      clear hx
      by_cases hm : s ≤ i
      all_goals
        by_cases hcut : b - S ≤ (x : Int)
        · go_wp2_with fail
          go_ret2
          refine ⟨?_, hB'⟩
          obtain ⟨k, rfl⟩ := Int.eq_ofNat_of_zero_le (show (0 : Int) ≤ s by omega)
          rw [← Uz_cut i c k S b HS.out (by rw [Hx.out]; omega) (by omega)]; rfl
        · go_wp2_with fail
          go_round
          case rel =>
            refine ⟨c + 1, S + x, rfl, by go_num, ?_, by omega, .inr ⟨by omega, by omega⟩⟩
            rw [Sp, Hx.out]; have := HS.out; omega
          case measure => simp [intOf]; omega
    · have hc' := Hc.out
      by_cases hm : s ≤ i
      all_goals
        go_wp2_with fail
        go_ret2
        refine ⟨?_, hB'⟩
        rw [← Uz_all i c s S b HS.out hSb Hc.out (by omega)]; rfl

set_option maxHeartbeats 800000 in
theorem refUpto_ok (n s b : Int) (w : World) (h1 : 0 ≤ n) (h2 : n ≤ 64) (h3 : 0 ≤ b) (h4 : b ≤ 4611686018427387904) :
    Calls Try.prog 19 #[.int .i64 n, .int .i64 s, .int .i64 b] w fun e w' => e = .returned (.tuple #[.int .i64 (Uz n s b), .int .i64 0]) ∧ Below w.heap.size w w' := by
  obtain ⟨i, rfl⟩ := Int.eq_ofNat_of_zero_le h1
  have hd1 : decide (b < 0) = false := by simp; omega
  have hd2 : decide (4611686018427387904 < b) = false := by simp; omega
  go_enter Try.func19, Try.ntmps19
  go_wp2_with fail
  go_loopw [8, 9] (fun S j wr => ∃ (c : Nat) (S' : Int), S = .int .i64 S' ∧ j = .int .i64 c ∧ S' = (Sp i c : Int) ∧ S' ≤ b ∧ (c = 0 ∨ ((c : Int) ≤ s + 1 ∧ c ≤ i + 1)) ∧ Below w.heap.size w wr) (fun _ j _ => 70 - (intOf j).toNat)
  case atStart => exact ⟨0, 0, rfl, rfl, rfl, h3, .inl rfl, Below.refl _ _⟩
  case round =>
    obtain ⟨c, S, rfl, rfl, hS, hSb, hc, hB⟩ := hrel
    have hS0 : 0 ≤ S := by omega
    have HS := Lib.hid hS
    clear hS
    have Hc := Lib.hid hc
    clear hc
    by_cases hin : (c : Int) ≤ s ∧ c ≤ i
    · obtain ⟨hin1, hin2⟩ := hin
      obtain ⟨x, hx⟩ : ∃ x : Nat, Mm.C i c = x := ⟨_, rfl⟩
      have Hx := Lib.hid hx
      have hx0 := Cz_nat i c
      rw [hx] at hx0
      have Hx0 := Lib.hid hx0
      clear hx hx0
      by_cases hm : s ≤ i
      all_goals
        go_wp2_with fail
        refine (over_any _ _ _ (by omega) (by omega)).mono ?_
        rintro e w1 ⟨rfl, hB1⟩
        have hB2 := hB.trans (hB1.mono hB.size)
        clear hB1
        rw [Hx0.out]
        by_cases hcut : b - S ≤ (x : Int)
        · go_wp2_with fail
          go_ret2
          refine ⟨?_, hB2⟩
          obtain ⟨k, rfl⟩ := Int.eq_ofNat_of_zero_le (show (0 : Int) ≤ s by omega)
          rw [← Uz_cut i c k S b HS.out (by rw [Hx.out]; omega) (by omega)]; rfl
        · go_wp2_with fail
          go_roundw
          case rel =>
            refine ⟨c + 1, S + x, rfl, by go_num, ?_, by omega, .inr ⟨by omega, by omega⟩, hB2⟩
            rw [Sp, Hx.out]; have := HS.out; omega
          case measure => simp [intOf]; omega
    · have hc' := Hc.out
      by_cases hm : s ≤ i
      all_goals
        go_wp2_with fail
        go_ret2
        refine ⟨?_, hB⟩
        rw [← Uz_all i c s S b HS.out hSb Hc.out (by omega)]; rfl
end Go.Proofs.Ytpldjhlhkjmneaa
