/- Names of a store's files: contract of the document's Kind, and the walk of the law ManifestKind. Conditions: each theorem's own hypotheses. -/
import Derived.Test.YtaljcdkgcbdceaaDoorKdD
namespace Go.Proofs.YtaljcdkgcbdceaaDoor
open Go.RowKit
set_option linter.unusedVariables false

theorem Kd.dec_nil (lo hi : Int) : Kd.dec [] lo hi = -1 := Kd.dec_no fun n _ _ e => Kd.dec_ne n e.symm
theorem Kd.get_zero {s : ByteArray} {c : UInt8} {t : List UInt8} (h : s.data.toList = c :: t) (h0 : 0 < s.size) : s[0] = c := by
  have : s.data.toList[0]'(by rw [← Tx.size]; exact h0) = c := by simp [h]
  exact this

set_option maxRecDepth 100000 in
set_option maxHeartbeats 2000000 in
theorem kdRefKind_any (s : ByteArray) (hs : s.size ≤ 281474976710656) (w : World) (hT : Kd.Laid w) (k : Nat) (x y : Int) (hk : Kd.kind s.data.toList = (k, x, y)) :
    Calls Tryd.prog 7 #[.string s] w fun e w' => e = .returned (.tuple #[.int .i64 (k : Nat), .int .i64 x, .int .i64 y]) ∧ Below w.heap.size w w' := by
  have HT := Lib.hid hT
  clear hT
  have b1 := Kd.beqR Kd.man s
  have b2 := Kd.beqR Kd.new s
  by_cases h1 : s.data.toList = Kd.man
  · rw [decide_eq_true h1] at b1
    rw [h1, show Kd.kind Kd.man = (1, 0, 0) from by unfold Kd.kind; rw [if_pos rfl]] at hk
    cases hk
    unfold Kd.man at b1
    clear b2 h1
    go_enter Tryd.func7, Tryd.ntmps7
    go_wp2_with fail
    go_ret3
    exact ⟨rfl, Below.refl _ _⟩
  rw [decide_eq_false h1] at b1
  by_cases h2 : s.data.toList = Kd.new
  · rw [decide_eq_true h2] at b2
    rw [h2, show Kd.kind Kd.new = (2, 0, 0) from by unfold Kd.kind; rw [if_neg (by decide), if_pos rfl]] at hk
    cases hk
    unfold Kd.man at b1
    unfold Kd.new at b2
    clear h1 h2
    go_enter Tryd.func7, Tryd.ntmps7
    go_wp2_with fail
    go_ret3
    exact ⟨rfl, Below.refl _ _⟩
  rw [decide_eq_false h2] at b2
  unfold Kd.man at b1
  unfold Kd.new at b2
  have b3 := Kd.beqR [] s
  cases hl : s.data.toList with
  | nil =>
    rw [hl, show Kd.kind [] = (0, 0, 0) from by unfold Kd.kind; rw [if_neg (by decide), if_neg (by decide)]] at hk
    cases hk
    rw [decide_eq_true hl] at b3
    have b4 : s.toList = [] := by simpa using b3
    clear h1 h2 hl b1 b2
    have b1 : (s.toList == [109, 97, 110, 105, 102, 101, 115, 116]) = false := by rw [b4]; rfl
    have b2 : (s.toList == [109, 97, 110, 105, 102, 101, 115, 116, 46, 110, 101, 119]) = false := by rw [b4]; rfl
    have b5 : s.toList.isEmpty = true := by rw [b4]; rfl
    have B4 := Lib.hid b4
    clear b4
    go_enter Tryd.func7, Tryd.ntmps7
    go_wp2_with fail
    go_ret3
    exact ⟨rfl, Below.refl _ _⟩
  | cons c t =>
  have hlen := Tx.size s
  rw [hl, List.length_cons] at hlen
  rw [decide_eq_false (by rw [hl]; simp)] at b3
  have b5 : s.toList.isEmpty = false := by
    cases h : s.toList with
    | nil => rw [h] at b3; exact absurd b3 (by decide)
    | cons a b => rfl
  have hz : 0 < s.size := by omega
  have h0 := Kd.get_zero hl hz
  by_cases hj : c = 106
  · subst hj
    obtain ⟨T, hT⟩ : ∃ T, s.extract 1 s.size = T := ⟨_, rfl⟩
    have hTd : T.data.toList = t := by rw [← hT, Tx.extract, hl, List.drop_one, List.tail_cons, List.take_of_length_le (by omega)]
    have hts : T.size ≤ 9223372036854775807 := by rw [Tx.size, hTd]; omega
    obtain ⟨r, hr⟩ : ∃ r, Kd.dec T.data.toList 1 1099511627776 = r := ⟨_, rfl⟩
    have HD := Lib.hid (kdRefDecimal_any T 1 1099511627776 (by decide) (by decide) hts w HT.out r hr)
    rw [hl, Kd.kind_j, ← hTd, hr] at hk
    have HE := Lib.hid hT
    have g1 : 1 ≤ s.size := hz
    have g2 : (1 : Int) ≤ (s.size : Int) := by omega
    clear hT hTd hl hlen h1 h2 hr
    by_cases hpos : 0 < r
    · rw [if_pos hpos] at hk
      cases hk
      go_enter Tryd.func7, Tryd.ntmps7
      go_wp2_with fail
      rw [HE.out]
      refine HD.out.mono ?_
      rintro e w1 ⟨rfl, B1⟩
      go_wp2_with fail
      go_ret3
      exact ⟨rfl, B1⟩
    · rw [if_neg hpos] at hk
      cases hk
      have hp : decide (0 < r) = false := decide_eq_false hpos
      clear hpos
      go_enter Tryd.func7, Tryd.ntmps7
      go_wp2_with fail
      rw [HE.out]
      refine HD.out.mono ?_
      rintro e w1 ⟨rfl, B1⟩
      go_wp2_with fail
      go_ret3
      exact ⟨rfl, B1⟩
  · have j1 : ((c.toNat : Int) == 106) = false := by
      rw [beq_eq_false_iff_ne]; intro e; apply hj
      exact UInt8.toNat_inj.1 (by have e2 : (106 : UInt8).toNat = 106 := rfl; omega)
    by_cases hrr : c = 114
    · subst hrr
      have HK := Lib.hid hk
      have HL := Lib.hid hl
      have HLEN := Lib.hid hlen
      clear hk hl h1 h2 hj hlen
      go_enter Tryd.func7, Tryd.ntmps7
      go_wp2_with fail
      go_loop [6] (fun i => ∃ j : Nat, 1 ≤ j ∧ j ≤ s.size ∧ i = .int .i64 j ∧ Hid (∀ c ∈ t.take (j - 1), c ≠ 46)) (fun i => s.size - (intOf i).toNat)
      case atStart => exact ⟨1, by omega, by omega, rfl, Lib.hid (fun c hc => by simp at hc)⟩
      case round =>
        obtain ⟨j, hj1, hj2, rfl, HN⟩ := hrel
        have hlen := HLEN.out
        by_cases hlt : j < s.size
        · obtain ⟨d, hd⟩ : ∃ d, s[j] = d := ⟨_, rfl⟩
          have hjt : j - 1 < t.length := by omega
          have hdt : t[j - 1] = d := by
            have e : s.data.toList[j]'(by rw [← Tx.size]; exact hlt) = d := hd
            rw [← e]
            simp only [HL.out]
            rw [List.getElem_cons, dif_neg (by omega)]
          have hsplit : t = t.take (j - 1) ++ d :: t.drop j := by
            have := List.drop_eq_getElem_cons hjt
            rw [hdt, show j - 1 + 1 = j from by omega] at this
            rw [← this, List.take_append_drop]
          by_cases hdot : d = 46
          · subst hdot
            obtain ⟨A, hA⟩ : ∃ A, s.extract 1 j = A := ⟨_, rfl⟩
            obtain ⟨j1, hj11⟩ : ∃ j1, j + 1 = j1 := ⟨_, rfl⟩
            obtain ⟨B, hB⟩ : ∃ B, s.extract j1 s.size = B := ⟨_, rfl⟩
            have hAd : A.data.toList = t.take (j - 1) := by rw [← hA, Tx.extract, HL.out, List.drop_one, List.tail_cons]
            have hBd : B.data.toList = t.drop j := by
              rw [← hB, ← hj11, Tx.extract, HL.out, List.drop_succ_cons, List.take_of_length_le]
              rw [List.length_drop]; omega
            have hcut : Kd.cut t = (A.data.toList, B.data.toList) := by
              rw [hAd, hBd]
              conv => lhs; rw [hsplit]
              exact Kd.cut_at HN.out
            obtain ⟨r, hr⟩ : ∃ r, Kd.dec A.data.toList 1 1099511627776 = r := ⟨_, rfl⟩
            obtain ⟨q, hq⟩ : ∃ q, Kd.dec B.data.toList 0 127 = q := ⟨_, rfl⟩
            have hAs : A.size ≤ 9223372036854775807 := by rw [Tx.size, hAd, List.length_take]; omega
            have hBs : B.size ≤ 9223372036854775807 := by rw [Tx.size, hBd, List.length_drop]; omega
            have HD := Lib.hid (fun W hT => kdRefDecimal_any A 1 1099511627776 (by decide) (by decide) hAs W hT r hr)
            have HE := Lib.hid (fun W hT => kdRefDecimal_any B 0 127 (by decide) (by decide) hBs W hT q hq)
            have hk := HK.out
            rw [HL.out, Kd.kind_r, hcut] at hk
            simp only at hk
            rw [hr, hq] at hk
            have w1 : IntKind.i64.wrap ((j : Int) + 1) = (j1 : Int) := by unfold IntKind.wrap; simp [IntKind.bits, IntKind.signed]; omega
            have g2 : (j1 : Int) ≤ (s.size : Int) := by omega
            have g3 : j1 ≤ s.size := by omega
            have HA := Lib.hid hA
            have HB := Lib.hid hB
            have g4 : (1 : Int) ≤ (j : Int) := by omega
            have g5 : (j : Int) ≤ (s.size : Int) := by omega
            clear hA hB hAd hBd hcut hr hq hsplit hdt hjt HN hj11 HK hlen
            by_cases hpos : 0 < r
            · by_cases hneg : 0 ≤ q
              · rw [if_pos ⟨hpos, hneg⟩] at hk
                cases hk
                go_wp2_with fail
                rw [HA.out]
                refine (HD.out _ HT.out).mono ?_
                rintro e w1 ⟨rfl, B1⟩
                go_wp2_with fail
                rw [HB.out]
                refine (HE.out _ (HT.out.below B1)).mono ?_
                rintro e w2 ⟨rfl, B2⟩
                have B3 := B1.trans (B2.mono B1.size)
                clear B1 B2
                go_wp2_with fail
                go_ret3
                exact ⟨rfl, B3⟩
              · rw [if_neg (fun h => hneg h.2)] at hk
                cases hk
                have hp : decide (0 ≤ q) = false := decide_eq_false hneg
                clear hneg
                go_wp2_with fail
                rw [HA.out]
                refine (HD.out _ HT.out).mono ?_
                rintro e w1 ⟨rfl, B1⟩
                go_wp2_with fail
                rw [HB.out]
                refine (HE.out _ (HT.out.below B1)).mono ?_
                rintro e w2 ⟨rfl, B2⟩
                have B3 := B1.trans (B2.mono B1.size)
                clear B1 B2
                go_wp2_with fail
                go_ret3
                exact ⟨rfl, B3⟩
            · rw [if_neg (fun h => hpos h.1)] at hk
              cases hk
              have hp : decide (0 < r) = false := decide_eq_false hpos
              clear hpos
              go_wp2_with fail
              rw [HA.out]
              refine (HD.out _ HT.out).mono ?_
              rintro e w1 ⟨rfl, B1⟩
              go_wp2_with fail
              rw [HB.out]
              refine (HE.out _ (HT.out.below B1)).mono ?_
              rintro e w2 ⟨rfl, B2⟩
              have B3 := B1.trans (B2.mono B1.size)
              clear B1 B2
              go_wp2_with fail
              go_ret3
              exact ⟨rfl, B3⟩
          · have d1 : ((d.toNat : Int) == 46) = false := by
              rw [beq_eq_false_iff_ne]; intro e; apply hdot
              exact UInt8.toNat_inj.1 (by have e2 : (46 : UInt8).toNat = 46 := rfl; omega)
            have HD := Lib.hid hdt
            clear hdt hsplit hdot hlen
            go_wp2_with fail
            go_round
            case rel =>
              refine ⟨j + 1, by omega, by omega, by go_num, Lib.hid fun z hz => ?_⟩
              rw [show j + 1 - 1 = (j - 1) + 1 from by omega, List.take_succ_eq_append_getElem hjt, HD.out] at hz
              rcases List.mem_append.1 hz with hz | hz
              · exact HN.out z hz
              · rw [List.mem_singleton] at hz; subst hz
                intro e; subst e; exact absurd d1 (by decide)
            case measure => simp [intOf]; omega
        · obtain rfl : j = s.size := by omega
          have hk := HK.out
          have hn := HN.out
          rw [show s.size - 1 = t.length from by omega, List.take_length] at hn
          rw [HL.out, Kd.kind_r, Kd.cut_none hn] at hk
          simp only at hk
          rw [Kd.dec_nil, if_neg (by omega)] at hk
          cases hk
          clear hn HN HK hlen
          go_wp2_with fail
          go_ret3
          exact ⟨rfl, Below.refl _ _⟩
    · have r1 : ((c.toNat : Int) != 114) = true := by
        rw [bne_iff_ne]; intro e; apply hrr
        exact UInt8.toNat_inj.1 (by have e2 : (114 : UInt8).toNat = 114 := rfl; omega)
      rw [hl] at h1 h2
      rw [hl, Kd.kind_no h1 h2 (fun u e => hj (by injection e)) (fun u e => hrr (by injection e))] at hk
      cases hk
      clear h1 h2 hl hj hrr
      go_enter Tryd.func7, Tryd.ntmps7
      go_wp2_with fail
      go_ret3
      exact ⟨rfl, Below.refl _ _⟩

theorem kind_law (s : ByteArray) (hs : s.size ≤ 140737488355328) (w : World) (hT : Kd.Laid w) :
    Calls Tryd.prog 3 #[.string s] w fun e w' => e = .returned (.bool true) ∧ Below w.heap.size w w' := by
  obtain ⟨⟨k, x, y⟩, hk⟩ : ∃ p, Kd.kind s.data.toList = p := ⟨_, rfl⟩
  have HA := Lib.hid (kdKind_any s (by omega) w hT k x y hk)
  have HB := Lib.hid (fun W hT => kdRefKind_any s (by omega) W hT k x y hk)
  have HT := Lib.hid hT
  clear hk hT
  go_enter Tryd.func3, Tryd.ntmps3
  go_wp2_with fail
  refine HA.out.mono ?_
  rintro e w1 ⟨rfl, B1⟩
  go_wp2_with fail
  refine (HB.out _ (HT.out.below B1)).mono ?_
  rintro e w2 ⟨rfl, B2⟩
  have B3 := B1.trans (B2.mono B1.size)
  clear B1 B2
  go_wp2_with fail
  go_ret
  exact ⟨rfl, B3⟩
end Go.Proofs.YtaljcdkgcbdceaaDoor
