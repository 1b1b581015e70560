/- Manifests: contract of the reference's several. Conditions: each theorem's own hypotheses. -/
import Derived.Test.YtffdplmnjlcmnaaDoorMdB
import Derived.OwnWalk
namespace Go.Proofs.YtffdplmnjlcmnaaDoor
open Go.RowKit Go.Maps
set_option linter.unusedVariables false

theorem Mf.tkStep_cases (l : List UInt8) (most : Nat) (T : Mf.Tk) (h : T.code = 0) (R : Sl.Got) (hR : Sl.var (l.drop T.at_) = R) :
    (R.code ≠ 0 ∧ (Mf.tkStep l most T).code = R.code) ∨ (R.code = 0 ∧ most < R.val ∧ (Mf.tkStep l most T).code = 80) ∨ (R.code = 0 ∧ ¬ most < R.val ∧ Mf.tkStep l most T = ⟨0, T.vals ++ [R.val], T.at_ + R.len⟩) := by
  unfold Mf.tkStep
  rw [hR, if_neg (by simpa using h)]
  by_cases h1 : R.code = 0
  · rw [if_neg (by simpa using h1)]
    by_cases h2 : most < R.val
    · rw [if_pos h2]; exact Or.inr (Or.inl ⟨h1, h2, rfl⟩)
    · rw [if_neg h2]; exact Or.inr (Or.inr ⟨h1, h2, rfl⟩)
  · rw [if_pos h1]; exact Or.inl ⟨h1, rfl⟩

/-- Behind k rounds k numbers are read. -/
structure SvSt (l : ByteArray) (a0 n : Nat) (w wr : World) (k : Nat) (T : Mf.Tk) (v : Value) : Prop where
  le : k ≤ n
  tk : Mf.take l.data.toList 1152921504606846976 0 a0 k = T
  ok : T.code = 0
  own : wr.ownsRow w.heap.size 3 1 v k (Mf.cells T.vals).toList
  below : Below w.heap.size w wr

set_option maxRecDepth 100000 in
set_option maxHeartbeats 2000000 in
theorem several_any (l : ByteArray) (a0 n : Nat) (w : World) (hl : l.size ≤ 9223372036854775807) (ha : a0 ≤ l.size) (hn : n ≤ 1000) (T : Mf.Tk) (hT : Mf.take l.data.toList 1152921504606846976 0 a0 n = T) :
    Calls Tryd.prog 62 #[.string l, .int .i64 a0, .int .i64 n] w fun e w' => Below w.heap.size w w' ∧
      (T.code ≠ 0 → e = .returned (.tuple #[.slice none 0 0, .int .i64 0, .int .i64 T.code])) ∧
      (T.code = 0 → ∃ v, e = .returned (.tuple #[v, .int .i64 T.at_, .int .i64 0]) ∧ w'.ownsRow w.heap.size 3 1 v n (Mf.cells T.vals).toList) := by
  obtain ⟨i0, hi, hz0, hz1, hz2⟩ := info_parts infoInt
  have HT := Lib.hid hT
  have hld : l.data.toList.length = l.size := Array.length_toList
  have HL := Lib.hid hld
  clear hT hld
  go_enter Tryd.func62, Tryd.ntmps62
  go_wp2_with fail
  go_loopw [1, 9, 10] (fun p v i wr => ∃ (k : Nat) (X : Mf.Tk), i = .int .i64 k ∧ p = .int .i64 X.at_ ∧ SvSt l a0 n w wr k X v) (fun _ _ i _ => n - (intOf i).toNat)
  case atStart => exact ⟨0, ⟨0, [], a0⟩, rfl, rfl, Nat.zero_le _, rfl, rfl, World.ownsRow_nil _ _ _ _, Below.refl _ _⟩
  case round =>
    obtain ⟨k, X, rfl, rfl, K⟩ := hrel
    obtain ⟨R, hR⟩ : ∃ R, Sl.var (l.data.toList.drop X.at_) = R := ⟨_, rfl⟩
    have hal : X.at_ ≤ l.size := by
      have := (Mf.take_ok (l := l.data.toList) (most := 1152921504606846976) (c := 0) (a := a0) (by rw [HL.out]; exact ha) (k := k) (by rw [K.tk]; exact K.ok)).2.2.2
      rw [K.tk, HL.out] at this; exact this
    have hkn := K.le
    have hown := K.own
    have hB := K.below
    have hsz := hB.size
    by_cases hlt : k < n
    · obtain ⟨nx, hnx⟩ : ∃ nx : Nat, (if R.code = 0 then X.at_ + R.len else 0) = nx := ⟨_, rfl⟩
      have hvar : ∀ w, Calls Tryd.prog 81 #[.string l, .int .i64 X.at_] w fun e w' => e = .returned (.tuple #[.int .u64 (R.val : Int), .int .i64 (nx : Int), .int .i64 (R.code : Int)]) ∧ w' = w := fun w =>
        (refVar_any l X.at_ R w hl hal hR).mono fun e w' ⟨h1, h2⟩ => ⟨by rw [h1, varV, hnx], h2.symm⟩
      have hc := Mf.tkStep_cases l.data.toList 1152921504606846976 X K.ok R hR
      have hbad : (Mf.tkStep l.data.toList 1152921504606846976 X).code ≠ 0 → T.code = (Mf.tkStep l.data.toList 1152921504606846976 X).code := fun h => by
        have e1 := Mf.take_bad (l := l.data.toList) (most := 1152921504606846976) (c := 0) (a := a0) (k := k + 1) (by rw [Mf.take, K.tk]; exact h) (n - (k + 1))
        rw [show k + 1 + (n - (k + 1)) = n by omega, HT.out, Mf.take, K.tk] at e1
        exact e1
      have HV := Lib.hid hvar
      have HBD := Lib.hid hbad
      have HX := Lib.hid hnx
      have fin := Lib.hid (show k + 1 ≤ n by omega)
      clear hvar hbad hnx hR
      rcases hc with ⟨h1, h2⟩ | ⟨h1, h2, h3⟩ | ⟨h1, h2, h3⟩
      · have b1 : ((R.code : Int) != 0) = true := by rw [bne_iff_ne]; omega
        have e1 : T.code = R.code := by rw [HBD.out (by rw [h2]; exact h1), h2]
        have H1 := Lib.hid h1
        have E1 := Lib.hid e1
        clear h1 h2 e1
        go_wp2_with (go_at_call 81; refine (HV.out _).mono ?_; rintro e w1 ⟨rfl, rfl⟩)
        go_ret3
        exact ⟨hB, fun _ => by rw [E1.out]; rfl, fun h => absurd (E1.out.symm.trans h) H1.out⟩
      · have b1 : ((R.code : Int) != 0) = false := by rw [bne_eq_false_iff_eq]; omega
        have b2 : decide ((1152921504606846976 : Int) < (R.val : Int)) = true := decide_eq_true (by omega)
        have e1 : T.code = 80 := by rw [HBD.out (by rw [h3]; decide), h3]
        have E1 := Lib.hid e1
        clear h1 h2 h3 e1
        go_wp2_with (go_at_call 81; refine (HV.out _).mono ?_; rintro e w1 ⟨rfl, rfl⟩)
        go_ret3
        exact ⟨hB, fun _ => by rw [E1.out]; rfl, fun h => by have := E1.out; omega⟩
      · have b1 : ((R.code : Int) != 0) = false := by rw [bne_eq_false_iff_eq]; omega
        have b2 : decide ((1152921504606846976 : Int) < (R.val : Int)) = false := decide_eq_false (by omega)
        have e2 : IntKind.i64.wrap (R.val : Int) = (R.val : Int) := by
          unfold IntKind.wrap
          simp [IntKind.bits, IntKind.signed]; omega
        have X2 := HX.out
        rw [if_pos h1] at X2
        have HX2 := Lib.hid X2
        have H3 := Lib.hid h3
        clear X2 h1 h2 h3
        go_wp2_with (first
          | (go_at_call 81; refine (HV.out _).mono ?_; rintro e w1 ⟨rfl, rfl⟩)
          | (at_builtin; refine wpList_append_own _ rfl (.tmp 31) (.tmp 34) 74 rfl w.heap.size 3 i0 (.int .i64 0) 1 8 Tryd.underlying74 hi hz0 hz1 hz2 rfl (by decide) _ _ _ rfl (hown.alloc _) ⟨w1.heap.size, 0, none⟩ 1 1 [.int .i64 (R.val : Int)] rfl rfl ?c1 ?c2 ?c3 ?c4 ?c5 ?_))
        case c1 => exact cell_one_new _ _ _
        case c2 => simp [Value.oneCell']
        case c3 => unfold maxLen; omega
        case c4 => omega
        case c5 => simp; omega
        intro v2 w2 hown2 hgrow2 _
        have r2 : Below w.heap.size w w2 := (hB.alloc hB.size _).grown hgrow2 (by simp; omega) (fun q e => (hown.lt q e).1)
        go_wp2_with fail
        go_roundw
        case rel =>
          refine ⟨k + 1, Mf.take l.data.toList 1152921504606846976 0 a0 (k + 1), by go_num, ?_, fin.out, rfl, ?_, ?_, r2⟩
          · rw [Mf.take, K.tk, H3.out, ← HX2.out]
          · rw [Mf.take, K.tk, H3.out]
          · rw [Mf.take, K.tk, H3.out]
            have : (Mf.cells (X.vals ++ [R.val])).toList = (Mf.cells X.vals).toList ++ [.int .i64 (R.val : Int)] := by
              rw [Mf.cells_list, Mf.cells_list, List.map_append]; rfl
            rw [this]
            exact hown2
        case measure => simp [intOf]; omega
    · obtain rfl : k = n := by omega
      have e1 : T = X := HT.out.symm.trans K.tk
      have E1 := Lib.hid e1
      clear e1
      go_wp2_with fail
      go_ret3
      exact ⟨hB, fun h => absurd (by rw [E1.out]; exact K.ok) h, fun _ => ⟨_, by rw [E1.out]; rfl, by rw [E1.out]; exact hown⟩⟩
end Go.Proofs.YtffdplmnjlcmnaaDoor
