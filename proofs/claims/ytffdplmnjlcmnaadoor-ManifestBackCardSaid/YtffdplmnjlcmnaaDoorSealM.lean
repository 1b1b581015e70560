/- Contract of the document's Parse, at every place of every text. Conditions: each theorem's own hypotheses. -/
import Derived.Test.YtffdplmnjlcmnaaDoorSealL
namespace Go.Proofs.YtffdplmnjlcmnaaDoor
set_option linter.unusedVariables false
open Go.RowKit

theorem begun_parse (l : List UInt8) : (∃ c, c ≠ 0 ∧ c ≤ 36 ∧ begunP l = (0, c) ∧ Sl.parse l = ⟨c, 0, [], 0⟩) ∨
    (∃ n, Sl.beNum ((l.drop 2).take 4) = n ∧ begunP l = (n, 0) ∧ 10 ≤ l.length ∧ n ≤ 65536 ∧ Sl.parse l =
      if l.length < n + 14 then ⟨31, 0, [], 0⟩
      else if ¬ leNum ((l.drop (10 + n)).take 4) = Sl.crc (l.take 6 ++ (l.drop 10).take n) then ⟨34, 0, [], 0⟩
      else ⟨0, (l.getD 1 0).toNat, (l.drop 10).take n, n + 14⟩) := by
  unfold begunP Sl.parse
  by_cases h0 : l.length = 0
  · exact Or.inl ⟨31, by decide, by decide, by rw [if_pos h0], by rw [if_pos h0]⟩
  rw [if_neg h0, if_neg h0]
  by_cases h1 : (l.getD 0 0).toNat = 167
  rotate_left
  · exact Or.inl ⟨33, by decide, by decide, by rw [if_pos h1], by rw [if_pos h1]⟩
  rw [if_neg (not_not_intro h1), if_neg (not_not_intro h1)]
  by_cases h2 : l.length < 10
  · exact Or.inl ⟨31, by decide, by decide, by rw [if_pos h2], by rw [if_pos h2]⟩
  rw [if_neg h2, if_neg h2]
  have i3 := summed_iff ((l.drop 6).take 4) (l.take 6) (by rw [List.length_take_of_le (by rw [List.length_drop]; omega)])
  by_cases h3 : leNum ((l.drop 6).take 4) = Sl.crc (l.take 6)
  rotate_left
  · exact Or.inl ⟨34, by decide, by decide, by rw [if_pos h3], by rw [if_pos (fun h => h3 (i3.mp h))]⟩
  rw [if_neg (not_not_intro h3), if_neg (not_not_intro (i3.mpr h3))]
  by_cases h4 : (l.getD 1 0).toNat = 0
  · exact Or.inl ⟨35, by decide, by decide, by rw [if_pos h4], by rw [if_pos h4]⟩
  rw [if_neg h4, if_neg h4]
  obtain ⟨n, hn⟩ : ∃ n, Sl.beNum ((l.drop 2).take 4) = n := ⟨_, rfl⟩
  rw [hn]
  by_cases h5 : 65536 < n
  · exact Or.inl ⟨36, by decide, by decide, by rw [if_pos h5], by rw [if_pos h5]⟩
  rw [if_neg h5, if_neg h5]
  refine Or.inr ⟨n, rfl, rfl, by omega, by omega, ?_⟩
  by_cases h6 : l.length < n + 14
  · rw [if_pos h6, if_pos h6]
  rw [if_neg h6, if_neg h6]
  have i7 := summed_iff ((l.drop (10 + n)).take 4) (l.take 6 ++ (l.drop 10).take n) (by rw [List.length_take_of_le (by rw [List.length_drop]; omega)])
  by_cases h7 : leNum ((l.drop (10 + n)).take 4) = Sl.crc (l.take 6 ++ (l.drop 10).take n)
  · rw [if_neg (not_not_intro h7), if_neg (not_not_intro (i7.mpr h7))]
  · rw [if_pos h7, if_pos (fun h => h7 (i7.mp h))]

theorem refParse_bad (s : ByteArray) (k : Int) (w : World) (h : k < 0 ∨ (s.size : Int) < k) :
    Calls Tryd.prog 58 #[.string s, .int .i64 k] w fun e w' => e = .returned (.tuple #[.int .i64 0, .string ⟨#[]⟩, .int .i64 0, .int .i64 13]) ∧ w = w' := by
  by_cases h1 : k < 0
  · go_enter Tryd.func58, Tryd.ntmps58
    go_wp2_with fail
    exact bodyPost_ret (v := .tuple #[.int .i64 0, .string ⟨#[]⟩, .int .i64 0, .int .i64 13]) (by simp [results, Tryd.results58, go_sem]) rfl ⟨rfl, rfl⟩
  · have h2 : (s.size : Int) < k := by omega
    clear h
    go_enter Tryd.func58, Tryd.ntmps58
    go_wp2_with fail
    exact bodyPost_ret (v := .tuple #[.int .i64 0, .string ⟨#[]⟩, .int .i64 0, .int .i64 13]) (by simp [results, Tryd.results58, go_sem]) rfl ⟨rfl, rfl⟩

set_option maxRecDepth 100000 in
theorem refParse_code (s L : ByteArray) (k c : Nat) (w : World) (hs : s.size ≤ 9223372036854775807) (hk : k ≤ s.size) (hL : s.extract k s.size = L) (hLs : L.size ≤ s.size) (hR : begunP L.data.toList = (0, c)) (hc : c ≠ 0) (_ : c ≤ 36) :
    Calls Tryd.prog 58 #[.string s, .int .i64 k] w fun e w' => e = .returned (.tuple #[.int .i64 0, .string ⟨#[]⟩, .int .i64 0, .int .i64 c]) ∧ Below w.heap.size w w' := by
  have hd1 : decide ((k : Int) < 0) = false := by simp
  have hd2 : decide (s.size < k) = false := by simp; omega
  have he : ((c : Int) != 0) = true := by rw [bne_iff_ne]; omega
  have HR := Lib.hid hR
  clear hR hc
  go_enter Tryd.func58, Tryd.ntmps58
  go_wp2_with fail
  refine (begun_any L 0 c _ (by omega) HR.out).mono ?_
  rintro e w1 ⟨rfl, hB1⟩
  go_wp2_with fail
  exact bodyPost_ret (v := .tuple #[.int .i64 0, .string ⟨#[]⟩, .int .i64 0, .int .i64 c]) (by simp [results, Tryd.results58, go_sem]) rfl ⟨rfl, hB1⟩

set_option maxRecDepth 100000 in
theorem refParse_long (s L : ByteArray) (k n : Nat) (w : World) (hs : s.size ≤ 9223372036854775807) (hk : k ≤ s.size) (hL : s.extract k s.size = L) (hLs : L.size ≤ s.size) (hR : begunP L.data.toList = (n, 0)) (hn : n ≤ 65536) (h : L.size < n + 14) :
    Calls Tryd.prog 58 #[.string s, .int .i64 k] w fun e w' => e = .returned (.tuple #[.int .i64 0, .string ⟨#[]⟩, .int .i64 0, .int .i64 31]) ∧ Below w.heap.size w w' := by
  have hd1 : decide ((k : Int) < 0) = false := by simp
  have hd2 : decide (s.size < k) = false := by simp; omega
  have HR := Lib.hid hR
  clear hR
  go_enter Tryd.func58, Tryd.ntmps58
  go_wp2_with fail
  refine (begun_any L n 0 _ (by omega) HR.out).mono ?_
  rintro e w1 ⟨rfl, hB1⟩
  go_wp2_with fail
  exact bodyPost_ret (v := .tuple #[.int .i64 0, .string ⟨#[]⟩, .int .i64 0, .int .i64 31]) (by simp [results, Tryd.results58, go_sem]) rfl ⟨rfl, hB1⟩

set_option maxRecDepth 100000 in
set_option maxHeartbeats 1000000 in
theorem refParse_tail (s L X P Q : ByteArray) (k n u v : Nat) (w : World) (hs : s.size ≤ 9223372036854775807) (hk : k ≤ s.size) (hL : s.extract k s.size = L) (hLs : L.size ≤ s.size - k) (hR : begunP L.data.toList = (n, 0)) (hn : n ≤ 65536) (h : n + 14 ≤ L.size)
    (hX : L.extract 0 6 = X) (hP : L.extract 10 (10 + n) = P) (hQ : X ++ P = Q) (hQs : X.size + P.size = Q.size) (hq : Q.size ≤ 65550) (hu : leNum ((L.data.toList.drop (10 + n)).take 4) = u) (hv : Sl.crc Q.data.toList = v) (huv : ¬ u = v) :
    Calls Tryd.prog 58 #[.string s, .int .i64 k] w fun e w' => e = .returned (.tuple #[.int .i64 0, .string ⟨#[]⟩, .int .i64 0, .int .i64 34]) ∧ Below w.heap.size w w' := by
  have hd1 : decide ((k : Int) < 0) = false := by simp
  have hd2 : decide (s.size < k) = false := by simp; omega
  have HR := Lib.hid hR
  have Hu := Lib.hid hu
  have Hv := Lib.hid hv
  have h10 : 1 < L.size := by omega
  have ht : ((u : Int) != v) = true := by rw [bne_iff_ne]; omega
  clear hR hu hv
  go_enter Tryd.func58, Tryd.ntmps58
  go_wp2_with fail
  refine (begun_any L n 0 _ (by omega) HR.out).mono ?_
  rintro e w1 ⟨rfl, hB1⟩
  go_wp2_with fail
  rw [hP]
  go_quiet (first | (go_at_call 80; exact Calls.quiet_of (sumAt_le L (10 + n) u _ (by omega) (by omega) Hu.out)) | (go_at_call 75; exact Calls.quiet_of (refSum_quiet Q v _ (by unfold maxLen; omega) Hv.out)))
  go_wp2_with fail
  exact bodyPost_ret (v := .tuple #[.int .i64 0, .string ⟨#[]⟩, .int .i64 0, .int .i64 34]) (by simp [results, Tryd.results58, go_sem]) rfl ⟨rfl, below_drewN hB1 _⟩

set_option maxRecDepth 100000 in
set_option maxHeartbeats 1000000 in
theorem refParse_good (s L X P Q : ByteArray) (k n u v : Nat) (w : World) (hs : s.size ≤ 9223372036854775807) (hk : k ≤ s.size) (hL : s.extract k s.size = L) (hLs : L.size ≤ s.size - k) (hR : begunP L.data.toList = (n, 0)) (hn : n ≤ 65536) (h : n + 14 ≤ L.size)
    (hX : L.extract 0 6 = X) (hP : L.extract 10 (10 + n) = P) (hQ : X ++ P = Q) (hQs : X.size + P.size = Q.size) (hq : Q.size ≤ 65550) (hu : leNum ((L.data.toList.drop (10 + n)).take 4) = u) (hv : Sl.crc Q.data.toList = v) (huv : u = v) (kd : Nat) (hkd : ∀ h : 1 < L.size, L[1].toNat = kd) :
    Calls Tryd.prog 58 #[.string s, .int .i64 k] w fun e w' => e = .returned (.tuple #[.int .i64 kd, .string P, .int .i64 (((k + (n + 14) : Nat)) : Int), .int .i64 0]) ∧ Below w.heap.size w w' := by
  have hd1 : decide ((k : Int) < 0) = false := by simp
  have hd2 : decide (s.size < k) = false := by simp; omega
  have HR := Lib.hid hR
  have Hu := Lib.hid hu
  have Hv := Lib.hid hv
  have h10 : 1 < L.size := by omega
  have ht : ((u : Int) != v) = false := by rw [bne_eq_false_iff_eq]; omega
  have hkd' := hkd h10
  have hb1 : L[1].toNat < 256 := L[1].toNat_lt
  clear hkd
  clear hR hu hv
  go_enter Tryd.func58, Tryd.ntmps58
  go_wp2_with fail
  refine (begun_any L n 0 _ (by omega) HR.out).mono ?_
  rintro e w1 ⟨rfl, hB1⟩
  go_wp2_with fail
  rw [hP]
  go_quiet (first | (go_at_call 80; exact Calls.quiet_of (sumAt_le L (10 + n) u _ (by omega) (by omega) Hu.out)) | (go_at_call 75; exact Calls.quiet_of (refSum_quiet Q v _ (by unfold maxLen; omega) Hv.out)))
  go_wp2_with fail
  exact bodyPost_ret (v := .tuple #[.int .i64 kd, .string P, .int .i64 (((k + (n + 14) : Nat)) : Int), .int .i64 0]) (by simp [results, Tryd.results58, go_sem]; omega) rfl ⟨rfl, below_drewN hB1 _⟩

/-- The document's Parse, from a place within the text. -/
theorem refParse_any (s : ByteArray) (k : Nat) (R : Sl.Parsed) (w : World) (hs : s.size ≤ 9223372036854775807) (hk : k ≤ s.size) (hR : Sl.parse (s.data.toList.drop k) = R) :
    Calls Tryd.prog 58 #[.string s, .int .i64 k] w fun e w' => e = .returned (parseV k R) ∧ Below w.heap.size w w' := by
  obtain ⟨L, hL⟩ : ∃ L, s.extract k s.size = L := ⟨_, rfl⟩
  have hLd : L.data.toList = s.data.toList.drop k := by rw [← hL]; exact rest_data s k
  have hLs : L.size = s.size - k := by rw [size_data L, hLd, List.length_drop, ← size_data]
  have hll : L.data.toList.length = L.size := Array.length_toList
  rw [← hLd] at hR
  rcases begun_parse L.data.toList with ⟨c, hc0, hc36, hb, hp⟩ | ⟨n, hbn, hb, h10, hn, hp⟩
  · rw [hp] at hR; subst hR
    refine (refParse_code s L k c w hs hk hL (by omega) hb hc0 hc36).mono fun e w' ⟨h1, h2⟩ => ⟨?_, h2⟩
    rw [h1]; unfold parseV; simp only [if_neg hc0]; rfl
  · rw [hp] at hR
    rw [hll] at hR h10
    by_cases h6 : L.size < n + 14
    · rw [if_pos h6] at hR; subst hR
      exact refParse_long s L k n w hs hk hL (by omega) hb hn h6
    rw [if_neg h6] at hR
    obtain ⟨X, hX⟩ : ∃ X, L.extract 0 6 = X := ⟨_, rfl⟩
    obtain ⟨P, hP⟩ : ∃ P, L.extract 10 (10 + n) = P := ⟨_, rfl⟩
    have hXd : X.data.toList = L.data.toList.take 6 := by rw [← hX, ext_data]; rfl
    have hPd : P.data.toList = (L.data.toList.drop 10).take n := by rw [← hP, ext_data]; congr 1; omega
    have hQd : (X ++ P).data.toList = X.data.toList ++ P.data.toList := data_append X P
    have hXs : X.size = 6 := by rw [size_data X, hXd, List.length_take_of_le (by omega)]
    have hPs : P.size ≤ 65536 := by rw [size_data P, hPd, List.length_take]; omega
    have hQs : (X ++ P).size = X.size + P.size := ByteArray.size_append
    rw [← hXd, ← hPd, ← hQd] at hR
    by_cases h7 : leNum ((L.data.toList.drop (10 + n)).take 4) = Sl.crc (X ++ P).data.toList
    rotate_left
    · rw [if_pos h7] at hR; subst hR
      exact refParse_tail s L X P (X ++ P) k n _ _ w hs hk hL (by omega) hb hn (by omega) hX hP rfl hQs.symm (by omega) rfl rfl h7
    rw [if_neg (not_not_intro h7)] at hR
    subst hR
    refine (refParse_good s L X P (X ++ P) k n _ _ w hs hk hL (by omega) hb hn (by omega) hX hP rfl hQs.symm (by omega) rfl rfl h7 (L.data.toList.getD 1 0).toNat (fun h => by rw [getD_byte L 1 h])).mono fun e w' ⟨h1, h2⟩ => ⟨?_, h2⟩
    rw [h1]
    unfold parseV
    rw [str_eq (b := P) (l := P.data.toList) rfl]
    rfl
end Go.Proofs.YtffdplmnjlcmnaaDoor
