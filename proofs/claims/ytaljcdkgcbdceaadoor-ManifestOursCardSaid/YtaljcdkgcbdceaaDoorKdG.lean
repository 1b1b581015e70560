/- The walk of the law ManifestOurs. Conditions: each theorem's own hypotheses. -/
import Derived.Test.YtaljcdkgcbdceaaDoorKdF
namespace Go.Proofs.YtaljcdkgcbdceaaDoor
open Go.RowKit
set_option linter.unusedVariables false

theorem Kd.itoa_small {u : Nat} (h : u ≤ 1099511627776) : (Lib.decDigits u).length ≤ 13 := Kd.dec_len h

set_option maxRecDepth 100000 in
set_option maxHeartbeats 4000000 in
theorem ours_law (number table : Int) (name : ByteArray) (hs : name.size ≤ 140737488355328) (w : World) (hT : Kd.Laid w) :
    Calls Tryd.prog 4 #[.int .i64 number, .int .i64 table, .string name] w fun e w' => e = .returned (.bool true) ∧ Below w.heap.size w w' := by
  have HT := Lib.hid hT
  have p1 := Int.emod_nonneg number (show (1099511627776 : Int) ≠ 0 by decide)
  have p2 := Int.emod_lt_of_pos number (show (0 : Int) < 1099511627776 by decide)
  have p3 := Int.emod_nonneg table (show (128 : Int) ≠ 0 by decide)
  have p4 := Int.emod_lt_of_pos table (show (0 : Int) < 128 by decide)
  obtain ⟨N0, hN0⟩ : ∃ N0 : Nat, number % 1099511627776 = N0 := ⟨(number % 1099511627776).toNat, by omega⟩
  obtain ⟨J, hJ⟩ : ∃ J : Nat, table % 128 = J := ⟨(table % 128).toNat, by omega⟩
  have HPA := Lib.hid (kdPick_any number 1099511627776 w (by decide) (by decide))
  have HPB := Lib.hid (kdPick_any table 128 w (by decide) (by decide))
  rw [hN0] at p1 p2 HPA
  rw [hJ] at p3 p4 HPB
  clear hN0 hJ hT
  have hN2 : N0 < 1099511627776 := by omega
  have hJ2 : J < 128 := by omega
  obtain ⟨N, hN⟩ : ∃ N, N0 + 1 = N := ⟨_, rfl⟩
  have wN : (1 : Int) + (N0 : Int) = (N : Int) := by omega
  have hN3 : 1 ≤ N := by omega
  have hN4 : N ≤ 1099511627776 := by omega
  obtain ⟨JJ, hJJ⟩ : ∃ JJ, J + 128 = JJ := ⟨_, rfl⟩
  have wJ : (J : Int) + 128 = (JJ : Int) := by omega
  have hJ3 : JJ ≤ 256 := by omega
  have hJ4 : 128 ≤ JJ := by omega
  clear hN hJJ p1 p2 p3 p4 hN2
  -- the texts
  obtain ⟨S, hS, hSl⟩ := Tx.of (Lib.decDigits N)
  obtain ⟨T, hTd, hTl⟩ := Tx.of (Lib.decDigits J)
  obtain ⟨U, hU, hUl⟩ := Tx.of (Lib.decDigits JJ)
  have l1 := Kd.dec_len hN4
  have l2 := Kd.dec_len (u := J) (by omega)
  have l3 := Kd.dec_len (u := JJ) (by omega)
  obtain ⟨Z1, h1, z1⟩ := Tx.of (106 :: Lib.decDigits N)
  obtain ⟨Z2, h2, z2⟩ := Tx.of (114 :: Lib.decDigits N)
  obtain ⟨Z3, h3, z3⟩ := Tx.of (114 :: (Lib.decDigits N ++ [46]))
  obtain ⟨Z4, h4, z4⟩ := Tx.of (114 :: (Lib.decDigits N ++ 46 :: Lib.decDigits J))
  obtain ⟨Z5, h5, z5⟩ := Tx.of (106 :: 48 :: Lib.decDigits N)
  obtain ⟨Z6, h6, z6⟩ := Tx.of (114 :: (Lib.decDigits N ++ 46 :: Lib.decDigits JJ))
  simp only [List.length_cons, List.length_append, List.length_nil] at z1 z2 z3 z4 z5 z6
  have a1 := kd_add ⟨#[106]⟩ S Z1 (by rw [h1, hS]; rfl) (by omega)
  have a2 := kd_add ⟨#[114]⟩ S Z2 (by rw [h2, hS]; rfl) (by omega)
  have a3 := kd_add Z2 ⟨#[46]⟩ Z3 (by rw [h3, h2]; rfl) (by omega)
  have a4 := kd_add Z3 T Z4 (by rw [h4, h3, hTd]; simp) (by omega)
  have a5 := kd_add ⟨#[106, 48]⟩ S Z5 (by rw [h5, hS]; rfl) (by omega)
  have a6 := kd_add Z3 U Z6 (by rw [h6, h3, hU]; simp) (by omega)
  -- what they say
  have dN : Kd.dec (Lib.decDigits N) 1 1099511627776 = N := Kd.dec_yes rfl (by omega) (by omega)
  have dJ : Kd.dec (Lib.decDigits J) 0 127 = J := Kd.dec_yes rfl (by omega) (by omega)
  have k1 : Kd.kind Z1.data.toList = (3, (N : Int), 0) := by rw [h1, Kd.kind_j, dN, if_pos (by omega)]
  have k4 : Kd.kind Z4.data.toList = (4, (N : Int), (J : Int)) := by
    rw [h4, Kd.kind_r, Kd.cut_at (Kd.digits_dot N)]
    simp only
    rw [dN, dJ, if_pos ⟨by omega, by omega⟩]
  have k5 : Kd.kind Z5.data.toList = (0, 0, 0) := by
    rw [h5, Kd.kind_j, Kd.dec_no (fun n _ _ e => Kd.dec_ne N (Kd.no_nought n _ e.symm)), if_neg (by decide)]
  have k6 : Kd.kind Z6.data.toList = (0, 0, 0) := by
    rw [h6, Kd.kind_r, Kd.cut_at (Kd.digits_dot N)]
    simp only
    rw [Kd.dec_hi (u := JJ) (by omega), if_neg (fun h => absurd h.2 (by decide))]
  have HS := Lib.hid (fun W hT => kdItoa_any (N : Int) (by omega) (by omega) W hT S (by rw [hS, Kd.itoa_nat]))
  have HTT := Lib.hid (fun W hT => kdItoa_any (J : Int) (by omega) (by omega) W hT T (by rw [hTd, Kd.itoa_nat]))
  have HU := Lib.hid (fun W hT => kdItoa_any (JJ : Int) (by omega) (by omega) W hT U (by rw [hU, Kd.itoa_nat]))
  have H1 := Lib.hid (fun W hT => kdKind_any Z1 (by omega) W hT 3 N 0 k1)
  have H4 := Lib.hid (fun W hT => kdKind_any Z4 (by omega) W hT 4 N J k4)
  have H5 := Lib.hid (fun W hT => kdKind_any Z5 (by omega) W hT 0 0 0 k5)
  have H6 := Lib.hid (fun W hT => kdKind_any Z6 (by omega) W hT 0 0 0 k6)
  have hJ0 : (J : Int) ≤ 127 := by omega
  have hN0 : (N0 : Int) ≤ 1099511627775 := by omega
  clear h1 h2 h3 h4 h5 h6 z1 z2 z3 z4 z5 z6 k1 k4 k5 k6 dN dJ l1 l2 l3 hS hTd hU hSl hTl hUl
  have HI := Lib.hid (Kd.kind_inv name.data.toList)
  go_enter Tryd.func4, Tryd.ntmps4
  go_wp2_with fail
  refine HPA.out.mono ?_
  rintro e w1 ⟨rfl, rfl⟩
  go_wp2_with fail
  refine HPB.out.mono ?_
  rintro e w1 ⟨rfl, rfl⟩
  go_wp2_with fail
  refine (HS.out _ HT.out).mono ?_
  rintro e w1 ⟨rfl, B1⟩
  go_wp2_with fail
  refine (H1.out _ (HT.out.below B1)).mono ?_
  rintro e w2 ⟨rfl, B⟩
  have B2 := B1.trans (B.mono B1.size)
  clear B1 B
  go_wp2_with fail
  refine (HTT.out _ (HT.out.below B2)).mono ?_
  rintro e w3 ⟨rfl, B⟩
  have B3 := B2.trans (B.mono B2.size)
  clear B2 B
  go_wp2_with fail
  refine (H4.out _ (HT.out.below B3)).mono ?_
  rintro e w4 ⟨rfl, B⟩
  have B4 := B3.trans (B.mono B3.size)
  clear B3 B
  go_wp2_with fail
  refine (H5.out _ (HT.out.below B4)).mono ?_
  rintro e w5 ⟨rfl, B⟩
  have B5 := B4.trans (B.mono B4.size)
  clear B4 B
  go_wp2_with fail
  refine (HU.out _ (HT.out.below B5)).mono ?_
  rintro e w6 ⟨rfl, B⟩
  have B6 := B5.trans (B.mono B5.size)
  clear B5 B
  go_wp2_with fail
  refine (H6.out _ (HT.out.below B6)).mono ?_
  rintro e w7 ⟨rfl, B⟩
  have B7 := B6.trans (B.mono B6.size)
  clear B6 B a1 a2 a3 a4 a5 a6 wN wJ
  rcases HI.out with ⟨k, e⟩ | ⟨k, e⟩ | ⟨u, k, e, u1, u2⟩ | ⟨u, v, k, e, u1, u2, v2⟩ | ⟨k, e1, e2⟩
  · have HK := Lib.hid (kdKind_any name (by omega) w7 (HT.out.below B7) 1 0 0 k)
    have b1 := Kd.beqR Kd.man name
    rw [decide_eq_true e] at b1
    unfold Kd.man at b1
    clear k e HI
    go_wp2_with fail
    refine HK.out.mono ?_
    rintro e w8 ⟨rfl, B⟩
    have B8 := B7.trans (B.mono B7.size)
    clear B7 B
    go_wp2_with fail
    go_ret
    exact ⟨rfl, B8⟩
  · have HK := Lib.hid (kdKind_any name (by omega) w7 (HT.out.below B7) 2 0 0 k)
    have b1 := Kd.beqR Kd.new name
    rw [decide_eq_true e] at b1
    unfold Kd.new at b1
    clear k e HI
    go_wp2_with fail
    refine HK.out.mono ?_
    rintro e w8 ⟨rfl, B⟩
    have B8 := B7.trans (B.mono B7.size)
    clear B7 B
    go_wp2_with fail
    go_ret
    exact ⟨rfl, B8⟩
  · have HK := Lib.hid (kdKind_any name (by omega) w7 (HT.out.below B7) 3 u 0 k)
    obtain ⟨X, hX, hXl⟩ := Tx.of (Lib.decDigits u)
    have l1 := Kd.dec_len u2
    have ne := Tx.size name
    rw [e, List.length_cons] at ne
    have a1 := kd_add ⟨#[106]⟩ X name (by rw [e, hX]; rfl) (by omega)
    have HX := Lib.hid (fun W hT => kdItoa_any (u : Int) (by omega) (by omega) W hT X (by rw [hX, Kd.itoa_nat]))
    have g1 : decide (1 ≤ (u : Int)) = true := by simp; omega
    have g2 : (u : Int) ≤ 1099511627776 := by omega
    have b1 : (name.toList == name.toList) = true := by simp
    clear k e HI hX hXl l1 ne
    go_wp2_with fail
    refine HK.out.mono ?_
    rintro e w8 ⟨rfl, B⟩
    have B8 := B7.trans (B.mono B7.size)
    clear B7 B
    go_wp2_with fail
    refine (HX.out _ (HT.out.below B8)).mono ?_
    rintro e w9 ⟨rfl, B⟩
    have B9 := B8.trans (B.mono B8.size)
    clear B8 B
    go_wp2_with fail
    go_ret
    exact ⟨rfl, B9⟩
  · have HK := Lib.hid (kdKind_any name (by omega) w7 (HT.out.below B7) 4 u v k)
    obtain ⟨X, hX, hXl⟩ := Tx.of (Lib.decDigits u)
    obtain ⟨Y, hY, hYl⟩ := Tx.of (Lib.decDigits v)
    obtain ⟨Y1, hY1, hY1l⟩ := Tx.of (114 :: Lib.decDigits u)
    obtain ⟨Y2, hY2, hY2l⟩ := Tx.of (114 :: (Lib.decDigits u ++ [46]))
    have l1 := Kd.dec_len u2
    have l2 := Kd.dec_len (u := v) (by omega)
    simp only [List.length_cons, List.length_append, List.length_nil] at hY1l hY2l
    have a1 := kd_add ⟨#[114]⟩ X Y1 (by rw [hY1, hX]; rfl) (by omega)
    have a2 := kd_add Y1 ⟨#[46]⟩ Y2 (by rw [hY2, hY1]; rfl) (by omega)
    have a3 := kd_add Y2 Y name (by rw [e, hY2, hY]; simp) (by omega)
    have HX := Lib.hid (fun W hT => kdItoa_any (u : Int) (by omega) (by omega) W hT X (by rw [hX, Kd.itoa_nat]))
    have HY := Lib.hid (fun W hT => kdItoa_any (v : Int) (by omega) (by omega) W hT Y (by rw [hY, Kd.itoa_nat]))
    have g1 : decide (1 ≤ (u : Int)) = true := by simp; omega
    have g2 : (u : Int) ≤ 1099511627776 := by omega
    have g3 : (v : Int) ≤ 127 := by omega
    have b1 : (name.toList == name.toList) = true := by simp
    clear k e HI hX hXl hY hYl hY1 hY1l hY2 hY2l l1 l2
    go_wp2_with fail
    refine HK.out.mono ?_
    rintro e w8 ⟨rfl, B⟩
    have B8 := B7.trans (B.mono B7.size)
    clear B7 B
    go_wp2_with fail
    refine (HX.out _ (HT.out.below B8)).mono ?_
    rintro e w9 ⟨rfl, B⟩
    have B9 := B8.trans (B.mono B8.size)
    clear B8 B
    go_wp2_with fail
    refine (HY.out _ (HT.out.below B9)).mono ?_
    rintro e w10 ⟨rfl, B⟩
    have B10 := B9.trans (B.mono B9.size)
    clear B9 B
    go_wp2_with fail
    go_ret
    exact ⟨rfl, B10⟩
  · have HK := Lib.hid (kdKind_any name (by omega) w7 (HT.out.below B7) 0 0 0 k)
    have b1 := Kd.beqR Kd.man name
    rw [decide_eq_false e1] at b1
    unfold Kd.man at b1
    have b2 := Kd.beqR Kd.new name
    rw [decide_eq_false e2] at b2
    unfold Kd.new at b2
    clear k e1 e2 HI
    go_wp2_with fail
    refine HK.out.mono ?_
    rintro e w8 ⟨rfl, B⟩
    have B8 := B7.trans (B.mono B7.size)
    clear B7 B
    go_wp2_with fail
    go_ret
    exact ⟨rfl, B8⟩
end Go.Proofs.YtaljcdkgcbdceaaDoor
