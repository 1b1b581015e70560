/- Names of a store's files: contract of manifest.Kind. Conditions: each theorem's own hypotheses. -/
import Derived.Test.YtaljcdkgcbdceaaDoorKdC
namespace Go.Proofs.YtaljcdkgcbdceaaDoor
open Go.RowKit
set_option linter.unusedVariables false

theorem kdPrefix_yes (s t : ByteArray) (c : UInt8) (h : s.data.toList = c :: t.data.toList) (w : World) :
    Calls Tryd.prog 12 #[.string s, .string ⟨#[c]⟩] w fun e w' => e = .returned (.tuple #[.string t, .bool true]) ∧ w = w' :=
  (Tryd.strings_CutPrefix s ⟨#[c]⟩ w).mono fun e w' ⟨he, hw⟩ => ⟨by
    have h1 : Lib.hasPrefix s.data.toList (⟨#[c]⟩ : ByteArray).data.toList = true := by rw [h]; simp [Lib.hasPrefix, List.isPrefixOf]
    have h2 : Lib.trimPrefix s.data.toList (⟨#[c]⟩ : ByteArray).data.toList = t.data.toList := by unfold Lib.trimPrefix; rw [h1, h]; rfl
    rw [he, h1, h2], hw.symm⟩
theorem kdPrefix_no (s : ByteArray) (c : UInt8) (h : ∀ t, s.data.toList ≠ c :: t) (w : World) :
    Calls Tryd.prog 12 #[.string s, .string ⟨#[c]⟩] w fun e w' => e = .returned (.tuple #[.string s, .bool false]) ∧ w = w' :=
  (Tryd.strings_CutPrefix s ⟨#[c]⟩ w).mono fun e w' ⟨he, hw⟩ => ⟨by
    have h1 : Lib.hasPrefix s.data.toList (⟨#[c]⟩ : ByteArray).data.toList = false := by
      show [c].isPrefixOf s.data.toList = false
      cases hl : s.data.toList with
      | nil => rfl
      | cons b t =>
        have : (c == b) = false := by rw [beq_eq_false_iff_ne]; intro e; exact h t (by rw [hl, e])
        simp [List.isPrefixOf, this]
    have h2 : Lib.trimPrefix s.data.toList (⟨#[c]⟩ : ByteArray).data.toList = s.data.toList := by unfold Lib.trimPrefix; rw [h1]; rfl
    rw [he, h1, h2], hw.symm⟩

theorem Kd.kind_j (t : List UInt8) : Kd.kind (106 :: t) = if 0 < Kd.dec t 1 1099511627776 then (3, Kd.dec t 1 1099511627776, 0) else (0, 0, 0) := by
  unfold Kd.kind
  rw [if_neg (by unfold Kd.man; simp), if_neg (by unfold Kd.new; simp)]
  simp only [true_and]
  split
  · rfl
  · rw [if_neg (fun h => absurd h.1 (by decide))]
theorem Kd.kind_r (t : List UInt8) : Kd.kind (114 :: t) = if 0 < Kd.dec (Kd.cut t).1 1 1099511627776 ∧ 0 ≤ Kd.dec (Kd.cut t).2 0 127 then (4, Kd.dec (Kd.cut t).1 1 1099511627776, Kd.dec (Kd.cut t).2 0 127) else (0, 0, 0) := by
  unfold Kd.kind
  rw [if_neg (by unfold Kd.man; simp), if_neg (by unfold Kd.new; simp)]
  simp only [true_and]
  rw [if_neg (fun h => absurd h.1 (by decide))]
theorem Kd.kind_no {l : List UInt8} (h1 : l ≠ Kd.man) (h2 : l ≠ Kd.new) (h3 : ∀ t, l ≠ 106 :: t) (h4 : ∀ t, l ≠ 114 :: t) : Kd.kind l = (0, 0, 0) := by
  unfold Kd.kind
  rw [if_neg h1, if_neg h2]
  cases l with
  | nil => rfl
  | cons c t =>
    simp only
    rw [if_neg (fun h => h3 t (by rw [h.1])), if_neg (fun h => h4 t (by rw [h.1]))]

set_option maxRecDepth 100000 in
set_option maxHeartbeats 1000000 in
theorem kdKind_any (s : ByteArray) (hs : s.size ≤ 281474976710656) (w : World) (hT : Kd.Laid w) (k : Nat) (x y : Int) (hk : Kd.kind s.data.toList = (k, x, y)) :
    Calls Tryd.prog 6 #[.string s] w fun e w' => e = .returned (.tuple #[.int .i64 (k : Nat), .int .i64 x, .int .i64 y]) ∧ Below w.heap.size w w' := by
  have HT := Lib.hid hT
  clear hT
  have b1 := Kd.beqR Kd.man s
  have b2 := Kd.beqR Kd.new s
  by_cases h1 : s.data.toList = Kd.man
  · rw [decide_eq_true h1] at b1
    rw [h1, show Kd.kind Kd.man = (1, 0, 0) from by unfold Kd.kind; rw [if_pos rfl]] at hk
    cases hk
    unfold Kd.man at b1
    clear b2 h1
    go_enter Tryd.func6, Tryd.ntmps6
    go_wp2_with fail
    go_ret3
    exact ⟨rfl, Below.refl _ _⟩
  rw [decide_eq_false h1] at b1
  by_cases h2 : s.data.toList = Kd.new
  · rw [decide_eq_true h2] at b2
    rw [h2, show Kd.kind Kd.new = (2, 0, 0) from by unfold Kd.kind; rw [if_neg (by decide), if_pos rfl]] at hk
    cases hk
    unfold Kd.man at b1
    unfold Kd.new at b2
    clear h1 h2
    go_enter Tryd.func6, Tryd.ntmps6
    go_wp2_with fail
    go_ret3
    exact ⟨rfl, Below.refl _ _⟩
  rw [decide_eq_false h2] at b2
  unfold Kd.man at b1
  unfold Kd.new at b2
  by_cases h3 : ∃ t, s.data.toList = 106 :: t
  · obtain ⟨t, ht⟩ := h3
    obtain ⟨T, hT, hTs⟩ := Tx.of t
    have hts : T.size ≤ 281474976710656 := by have := Tx.size s; rw [ht, List.length_cons] at this; omega
    have HP := Lib.hid (kdPrefix_yes s T 106 (by rw [ht, hT]) w)
    have HQ := Lib.hid (fun W => kdPrefix_no s 114 (fun u e => by rw [ht] at e; injection e with e; revert e; decide) W)
    obtain ⟨r, hr⟩ : ∃ r, Kd.dec T.data.toList 1 1099511627776 = r := ⟨_, rfl⟩
    have HD := Lib.hid (kdDecimal_any T 1 1099511627776 (by decide) (by decide) hts w HT.out r hr)
    rw [ht, Kd.kind_j, ← hT, hr] at hk
    clear ht hT hTs h1 h2 hr
    by_cases hpos : 0 < r
    · rw [if_pos hpos] at hk
      cases hk
      go_enter Tryd.func6, Tryd.ntmps6
      go_wp2_with fail
      refine HP.out.mono ?_
      rintro e w1 ⟨rfl, rfl⟩
      go_wp2_with fail
      refine HD.out.mono ?_
      rintro e w2 ⟨rfl, B2⟩
      go_wp2_with fail
      go_ret3
      exact ⟨rfl, B2⟩
    · rw [if_neg hpos] at hk
      cases hk
      have hp : decide (0 < r) = false := decide_eq_false hpos
      clear hpos
      go_enter Tryd.func6, Tryd.ntmps6
      go_wp2_with fail
      refine HP.out.mono ?_
      rintro e w1 ⟨rfl, rfl⟩
      go_wp2_with fail
      refine HD.out.mono ?_
      rintro e w2 ⟨rfl, B2⟩
      go_wp2_with fail
      refine (HQ.out _).mono ?_
      rintro e w3 ⟨rfl, rfl⟩
      go_wp2_with fail
      go_ret3
      exact ⟨rfl, B2⟩
  have h3' : ∀ t, s.data.toList ≠ 106 :: t := fun t e => h3 ⟨t, e⟩
  have HP := Lib.hid (kdPrefix_no s 106 h3' w)
  by_cases h4 : ∃ t, s.data.toList = 114 :: t
  · obtain ⟨t, ht⟩ := h4
    obtain ⟨T, hT, hTs⟩ := Tx.of t
    have hts : T.size ≤ 281474976710656 := by have := Tx.size s; rw [ht, List.length_cons] at this; omega
    have HQ := Lib.hid (kdPrefix_yes s T 114 (by rw [ht, hT]) w)
    obtain ⟨A, hA, hAs⟩ := Tx.of (Kd.cut t).1
    obtain ⟨B, hB, hBs⟩ := Tx.of (Kd.cut t).2
    have hAl : A.size ≤ 281474976710656 := by
      have : (Kd.cut t).1.length ≤ t.length := (List.takeWhile_sublist _).length_le
      omega
    have hBl : B.size ≤ 281474976710656 := by
      have h5 : (Kd.cut t).2.length ≤ t.length := by
        unfold Kd.cut
        simp only [List.length_drop]
        have := (List.dropWhile_sublist (l := t) (· != 46)).length_le
        omega
      omega
    have HC := Lib.hid (kdCut_any T (by omega) A B (by rw [hT, hA]) (by rw [hT, hB]) w)
    obtain ⟨r, hr⟩ : ∃ r, Kd.dec A.data.toList 1 1099511627776 = r := ⟨_, rfl⟩
    obtain ⟨q, hq⟩ : ∃ q, Kd.dec B.data.toList 0 127 = q := ⟨_, rfl⟩
    have HD := Lib.hid (fun W hT => kdDecimal_any A 1 1099511627776 (by decide) (by decide) hAl W hT r hr)
    have HE := Lib.hid (fun W hT => kdDecimal_any B 0 127 (by decide) (by decide) hBl W hT q hq)
    rw [ht, Kd.kind_r, ← hA, ← hB, hr, hq] at hk
    clear ht hT hTs h1 h2 hr hq hA hB hAs hBs h3 h3'
    by_cases hpos : 0 < r
    · by_cases hneg : 0 ≤ q
      · rw [if_pos ⟨hpos, hneg⟩] at hk
        cases hk
        go_enter Tryd.func6, Tryd.ntmps6
        go_wp2_with fail
        refine HP.out.mono ?_
        rintro e w1 ⟨rfl, rfl⟩
        go_wp2_with fail
        refine HQ.out.mono ?_
        rintro e w2 ⟨rfl, rfl⟩
        go_wp2_with fail
        refine HC.out.mono ?_
        rintro e w3 ⟨⟨u, rfl⟩, B3⟩
        go_wp2_with fail
        refine (HD.out _ (HT.out.below B3)).mono ?_
        rintro e w4 ⟨rfl, B4⟩
        have B5 := B3.trans (B4.mono B3.size)
        clear B3 B4
        go_wp2_with fail
        refine (HE.out _ (HT.out.below B5)).mono ?_
        rintro e w5 ⟨rfl, B6⟩
        have B7 := B5.trans (B6.mono B5.size)
        clear B5 B6
        go_wp2_with fail
        go_ret3
        exact ⟨rfl, B7⟩
      · rw [if_neg (fun h => hneg h.2)] at hk
        cases hk
        have hp : decide (0 ≤ q) = false := decide_eq_false hneg
        clear hneg
        go_enter Tryd.func6, Tryd.ntmps6
        go_wp2_with fail
        refine HP.out.mono ?_
        rintro e w1 ⟨rfl, rfl⟩
        go_wp2_with fail
        refine HQ.out.mono ?_
        rintro e w2 ⟨rfl, rfl⟩
        go_wp2_with fail
        refine HC.out.mono ?_
        rintro e w3 ⟨⟨u, rfl⟩, B3⟩
        go_wp2_with fail
        refine (HD.out _ (HT.out.below B3)).mono ?_
        rintro e w4 ⟨rfl, B4⟩
        have B5 := B3.trans (B4.mono B3.size)
        clear B3 B4
        go_wp2_with fail
        refine (HE.out _ (HT.out.below B5)).mono ?_
        rintro e w5 ⟨rfl, B6⟩
        have B7 := B5.trans (B6.mono B5.size)
        clear B5 B6
        go_wp2_with fail
        go_ret3
        exact ⟨rfl, B7⟩
    · rw [if_neg (fun h => hpos h.1)] at hk
      cases hk
      have hp : decide (0 < r) = false := decide_eq_false hpos
      clear hpos
      go_enter Tryd.func6, Tryd.ntmps6
      go_wp2_with fail
      refine HP.out.mono ?_
      rintro e w1 ⟨rfl, rfl⟩
      go_wp2_with fail
      refine HQ.out.mono ?_
      rintro e w2 ⟨rfl, rfl⟩
      go_wp2_with fail
      refine HC.out.mono ?_
      rintro e w3 ⟨⟨u, rfl⟩, B3⟩
      go_wp2_with fail
      refine (HD.out _ (HT.out.below B3)).mono ?_
      rintro e w4 ⟨rfl, B4⟩
      have B5 := B3.trans (B4.mono B3.size)
      clear B3 B4
      go_wp2_with fail
      refine (HE.out _ (HT.out.below B5)).mono ?_
      rintro e w5 ⟨rfl, B6⟩
      have B7 := B5.trans (B6.mono B5.size)
      clear B5 B6
      go_wp2_with fail
      go_ret3
      exact ⟨rfl, B7⟩
  have h4' : ∀ t, s.data.toList ≠ 114 :: t := fun t e => h4 ⟨t, e⟩
  have HQ := Lib.hid (kdPrefix_no s 114 h4' w)
  rw [Kd.kind_no h1 h2 h3' h4'] at hk
  cases hk
  clear h1 h2 h3 h4 h3' h4'
  go_enter Tryd.func6, Tryd.ntmps6
  go_wp2_with fail
  refine HP.out.mono ?_
  rintro e w1 ⟨rfl, rfl⟩
  go_wp2_with fail
  refine HQ.out.mono ?_
  rintro e w2 ⟨rfl, rfl⟩
  go_wp2_with fail
  go_ret3
  exact ⟨rfl, Below.refl _ _⟩
end Go.Proofs.YtaljcdkgcbdceaaDoor
