/- Contracts of the document's begun and Parse. Conditions: each theorem's own hypotheses. -/
import Derived.Test.YtffdplmnjlcmnaaDoorSealI
import Derived.WalkSmall
import Derived.Lib.Strings
namespace Go.Proofs.YtffdplmnjlcmnaaDoor
open Go.RowKit

/-- Four bytes, the lowest first. -/
def leNum (l : List UInt8) : Nat := (l.getD 0 0).toNat + 256 * (l.getD 1 0).toNat + 65536 * (l.getD 2 0).toNat + 16777216 * (l.getD 3 0).toNat

/-- What the first bytes of a frame say: how long its payload is, or a refusal. -/
def begunP (l : List UInt8) : Nat × Nat :=
  if l.length = 0 then (0, 31)
  else if ¬ (l.getD 0 0).toNat = 167 then (0, 33)
  else if l.length < 10 then (0, 31)
  else if ¬ leNum ((l.drop 6).take 4) = Sl.crc (l.take 6) then (0, 34)
  else if (l.getD 1 0).toNat = 0 then (0, 35)
  else if 65536 < Sl.beNum ((l.drop 2).take 4) then (0, 36)
  else (Sl.beNum ((l.drop 2).take 4), 0)

theorem lenum_at (s : ByteArray) (k : Nat) (hk : k + 4 ≤ s.size) : leNum ((s.data.toList.drop k).take 4) = s[k].toNat + 256 * s[k + 1].toNat + 65536 * s[k + 2].toNat + 16777216 * s[k + 3].toNat := by
  have g : ∀ i (h : k + i < s.size), i < 4 → ((s.data.toList.drop k).take 4).getD i 0 = s[k + i] := by
    intro i h h4
    rw [List.getD_eq_getElem?_getD, List.getElem?_take_of_lt h4, List.getElem?_drop, List.getElem?_eq_getElem (by simpa using h)]
    rfl
  unfold leNum
  rw [g 0 (by omega) (by decide), g 1 (by omega) (by decide), g 2 (by omega) (by decide), g 3 (by omega) (by decide)]
  rfl

theorem sumAt_le (s : ByteArray) (k v : Nat) (w : World) (hs : s.size ≤ 9223372036854775807) (hk : k + 4 ≤ s.size) (hv : leNum ((s.data.toList.drop k).take 4) = v) :
    Calls Tryd.prog 80 #[.string s, .int .i64 k] w fun e w' => e = .returned (.int .u32 v) ∧ ∃ n, w' = w.drewN n := by
  rw [← hv, lenum_at s k hk]
  exact sumAt_any s k _ _ _ _ w hs hk rfl rfl rfl rfl

theorem refSum_quiet (s : ByteArray) (c : Nat) (w : World) (hs : s.size ≤ maxLen) (hc : Sl.crc s.data.toList = c) :
    Calls Tryd.prog 75 #[.string s] w fun e w' => e = .returned (.int .u32 c) ∧ ∃ n, w' = w.drewN n := by
  subst hc
  exact (refSum_any s w hs).mono fun e w' ⟨h1, h2⟩ => ⟨h1, 0, by rw [← h2]; rfl⟩

theorem empty_of (L : ByteArray) (h : L.size = 0) : L.data.toList.length = 0 := by rw [Array.length_toList]; exact h

set_option maxRecDepth 100000 in
set_option maxHeartbeats 1000000 in
theorem begun_any (s : ByteArray) (n c : Nat) (w : World) (hs : s.size ≤ 9223372036854775807) (hR : begunP s.data.toList = (n, c)) :
    Calls Tryd.prog 79 #[.string s] w fun e w' => e = .returned (.tuple #[.int .i64 n, .int .i64 c]) ∧ Below w.heap.size w w' := by
  have hl : s.data.toList.length = s.size := Array.length_toList
  unfold begunP at hR
  rw [hl] at hR
  by_cases h0 : s.size = 0
  · rw [if_pos h0] at hR
    obtain ⟨rfl, rfl⟩ := Prod.mk.inj hR
    have h0' : ((s.size : Int) == 0) = true := by rw [beq_iff_eq]; omega
    clear hR hl h0
    go_enter Tryd.func79, Tryd.ntmps79
    go_wp2_with fail
    go_ret2
    exact ⟨rfl, Below.refl _ _⟩
  rw [if_neg h0] at hR
  have hp : 0 < s.size := by omega
  have h0' : ((s.size : Int) == 0) = false := by rw [beq_eq_false_iff_ne]; omega
  rw [getD_byte s 0 hp] at hR
  have hb0 : s[0].toNat < 256 := s[0].toNat_lt
  by_cases h1 : s[0].toNat = 167
  · have h1' : ((s[0].toNat : Int) != 167) = false := by simp; omega
    rw [if_neg (by simpa using h1)] at hR
    by_cases h2 : s.size < 10
    · rw [if_pos h2] at hR
      obtain ⟨rfl, rfl⟩ := Prod.mk.inj hR
      clear hR hl h0 h1
      go_enter Tryd.func79, Tryd.ntmps79
      go_wp2_with fail
      go_ret2
      exact ⟨rfl, Below.refl _ _⟩
    · rw [if_neg h2] at hR
      obtain ⟨X, hX⟩ : ∃ X, s.extract 0 6 = X := ⟨_, rfl⟩
      have hXd : X.data.toList = s.data.toList.take 6 := by rw [← hX, Lib.extract_data]; rfl
      have hXs : X.size = 6 := by
        have : X.data.toList.length = X.size := Array.length_toList
        rw [← this, hXd, List.length_take_of_le (by omega)]
      obtain ⟨u, hu⟩ : ∃ u, leNum ((s.data.toList.drop 6).take 4) = u := ⟨_, rfl⟩
      obtain ⟨v, hv⟩ : ∃ v, Sl.crc X.data.toList = v := ⟨_, rfl⟩
      rw [← hXd, hu, hv] at hR
      have Hu := Lib.hid hu
      have Hv := Lib.hid hv
      have h10 : 10 ≤ s.size := by omega
      have hone : 1 < s.size := by omega
      have hb1 : s[1].toNat < 256 := s[1].toNat_lt
      rw [getD_byte s 1 hone] at hR
      clear hl h0 h1 h2 hXd hu hv
      by_cases h3 : u = v
      · rw [if_neg (by simpa using h3)] at hR
        have h3' : ((u : Int) != v) = false := by rw [bne_eq_false_iff_eq]; omega
        by_cases h4 : s[1].toNat = 0
        · rw [if_pos h4] at hR
          obtain ⟨rfl, rfl⟩ := Prod.mk.inj hR
          have h4' : ((s[1].toNat : Int) == 0) = true := by rw [beq_iff_eq]; omega
          clear hR h3 h4
          go_enter Tryd.func79, Tryd.ntmps79
          go_wp2_with fail
          go_quiet (first | (go_at_call 80; exact Calls.quiet_of (sumAt_le s 6 u _ hs (by omega) Hu.out)) | (go_at_call 75; exact Calls.quiet_of (refSum_quiet X v _ (by unfold maxLen; omega) Hv.out)))
          go_wp2_with fail
          go_ret2
          exact ⟨rfl, below_drewN (Below.refl _ _) _⟩
        · rw [if_neg h4] at hR
          have h4' : ((s[1].toNat : Int) == 0) = false := by rw [beq_eq_false_iff_ne]; omega
          obtain ⟨m, hm⟩ : ∃ m, Sl.beNum ((s.data.toList.drop 2).take 4) = m := ⟨_, rfl⟩
          rw [hm] at hR
          have hml : m < 4294967296 := by
            have := beNum_lt ((s.data.toList.drop 2).take 4)
            have hl : s.data.toList.length = s.size := Array.length_toList
            rw [hm, List.length_take_of_le (by rw [List.length_drop]; omega)] at this
            exact this
          have Hm := Lib.hid hm
          clear hm h4
          by_cases h5 : 65536 < m
          · rw [if_pos h5] at hR
            obtain ⟨rfl, rfl⟩ := Prod.mk.inj hR
            clear hR h3
            go_enter Tryd.func79, Tryd.ntmps79
            go_wp2_with fail
            go_quiet (first | (go_at_call 80; exact Calls.quiet_of (sumAt_le s 6 u _ hs (by omega) Hu.out)) | (go_at_call 75; exact Calls.quiet_of (refSum_quiet X v _ (by unfold maxLen; omega) Hv.out)))
            go_wp2_with fail
            refine (number_any s 2 4 _ hs (by omega) (by decide)).mono ?_
            rintro e w1 ⟨rfl, rfl⟩
            rw [Hm.out]
            go_wp2_with fail
            go_ret2
            exact ⟨rfl, below_drewN (Below.refl _ _) _⟩
          · rw [if_neg h5] at hR
            obtain ⟨rfl, rfl⟩ := Prod.mk.inj hR
            clear hR h3
            go_enter Tryd.func79, Tryd.ntmps79
            go_wp2_with fail
            go_quiet (first | (go_at_call 80; exact Calls.quiet_of (sumAt_le s 6 u _ hs (by omega) Hu.out)) | (go_at_call 75; exact Calls.quiet_of (refSum_quiet X v _ (by unfold maxLen; omega) Hv.out)))
            go_wp2_with fail
            refine (number_any s 2 4 _ hs (by omega) (by decide)).mono ?_
            rintro e w1 ⟨rfl, rfl⟩
            rw [Hm.out]
            go_wp2_with fail
            go_ret2
            exact ⟨rfl, below_drewN (Below.refl _ _) _⟩
      · rw [if_pos (by simpa using h3)] at hR
        obtain ⟨rfl, rfl⟩ := Prod.mk.inj hR
        have h3' : ((u : Int) != v) = true := by rw [bne_iff_ne]; omega
        clear hR h3
        go_enter Tryd.func79, Tryd.ntmps79
        go_wp2_with fail
        go_quiet (first | (go_at_call 80; exact Calls.quiet_of (sumAt_le s 6 u _ hs (by omega) Hu.out)) | (go_at_call 75; exact Calls.quiet_of (refSum_quiet X v _ (by unfold maxLen; omega) Hv.out)))
        go_wp2_with fail
        go_ret2
        exact ⟨rfl, below_drewN (Below.refl _ _) _⟩
  · have h1' : ((s[0].toNat : Int) != 167) = true := by simp; omega
    rw [if_pos (by simpa using h1)] at hR
    obtain ⟨rfl, rfl⟩ := Prod.mk.inj hR
    clear hR hl h0 h1
    go_enter Tryd.func79, Tryd.ntmps79
    go_wp2_with fail
    go_ret2
    exact ⟨rfl, Below.refl _ _⟩
end Go.Proofs.YtffdplmnjlcmnaaDoor
