/- Contracts of the document's head and Frame. Conditions: each theorem's own hypotheses. -/
import Derived.Test.YtffdplmnjlcmnaaDoorSealE
namespace Go.Proofs.YtffdplmnjlcmnaaDoor
open Go.RowKit

set_option maxRecDepth 100000 in
set_option maxHeartbeats 1000000 in
theorem refHead_any (k n : Nat) (H : ByteArray) (w : World) (h2 : k ≤ 255) (hn : n ≤ 65536) (hH : H.data.toList = Sl.head k n) :
    Calls Tryd.prog 73 #[.int .i64 k, .int .i64 n] w fun e w' => e = .returned (.string H) ∧ Below w.heap.size w w' := by
  obtain ⟨B4, hB4, hB4d, hB4s⟩ := str_of (Sl.be 4 n)
  rw [Sl.be_len] at hB4s
  obtain ⟨K2, hK2, hK2d, hK2s⟩ := str_of [167, UInt8.ofNat k]
  have hcv : ∀ w : World, (convert 58 9 (.slice (some ⟨w.heap.size, 0, none⟩) 2 2)).run Tryd.prog (w.alloc (.cells #[.int .u8 167, .int .u8 (k : Int)] 5)) =
      .ok (.string K2) (w.alloc (.cells #[.int .u8 167, .int .u8 (k : Int)] 5)) := fun w => by rw [← hK2]; exact conv_two w 167 k (by decide) (by omega)
  have hcd : ∀ w : World, (convert 58 9 (.slice (some ⟨w.heap.size, 0, none⟩) 2 2)).run Tryd.prog (w.alloc (.cells #[.int .u8 167, .int .u8 (k : Int)] 5)).drew =
      .ok (.string K2) (w.alloc (.cells #[.int .u8 167, .int .u8 (k : Int)] 5)).drew := fun w => by rw [← hK2]; exact conv_two_drew w 167 k (by decide) (by omega)
  have hcb : Hid (∀ w w1 : World, Below ((w.alloc (.cells #[.int .u8 167, .int .u8 (k : Int)] 5)).drew).heap.size (w.alloc (.cells #[.int .u8 167, .int .u8 (k : Int)] 5)).drew w1 → (convert 58 9 (.slice (some ⟨w.heap.size, 0, none⟩) 2 2)).run Tryd.prog w1 = .ok (.string K2) w1) := fun w w1 hB => conv_two_below w w1 167 k K2 (by decide) (by omega) hK2 hB
  have w8 : IntKind.u8.wrap (k : Int) = (k : Int) := by rw [IntKind.wrap_u8]; omega
  have w64 : IntKind.u64.wrap (n : Int) = (n : Int) := by rw [IntKind.wrap_u64]; omega
  have hfin : Value.string (K2 ++ B4) = Value.string H := by
    have h1 : (K2 ++ B4).data.toList = Sl.head k n := by rw [data_append, hK2d, hB4d]; rfl
    rw [str_eq h1, ← hH, ← str_eq rfl]
  have Hfin := Lib.hid hfin
  have HB4 := Lib.hid hB4
  have z1 : K2.size ≤ 2 := by rw [hK2s]; simp
  have z2 : B4.size ≤ 4 := by omega
  clear hfin hB4 hB4d hB4s hK2 hK2d hK2s hH
  go_enter Tryd.func73, Tryd.ntmps73
  go_wp2_with fail
  go_region_with (go_at_call 88; refine (fixed_any n 4 _ (by decide) (by decide)).mono ?_; rintro e w1 ⟨rfl, hB1⟩; rw [HB4.out]; try have hcw := hcb.out _ _ hB1)
  all_goals go_wp2_with fail
  all_goals go_ret
  all_goals refine ⟨by rw [← Hfin.out]; rfl, ?_⟩
  all_goals
    first
    | exact (((Below.refl w.heap.size w).alloc (Nat.le_refl _) _).drew).trans (hB1.mono (by show w.heap.size ≤ (w.alloc _).heap.size; rw [World.size_alloc]; omega))
    | exact (((Below.refl w.heap.size w).drew).trans hB1).alloc hB1.size _

set_option maxRecDepth 100000 in
set_option maxHeartbeats 1000000 in
theorem refFrame_any (k : Int) (s : ByteArray) (w : World) :
    Calls Tryd.prog 51 #[.int .i64 k, .string s] w fun e w' => e = .returned (frameV k s.data.toList) ∧ Below w.heap.size w w' := by
  have hsl : s.data.toList.length = s.size := Array.length_toList
  by_cases hk : k < 1 ∨ 255 < k
  · have hV : frameV k s.data.toList = .tuple #[.string ⟨#[]⟩, .int .i64 35] := by unfold frameV; rw [if_pos hk]; rfl
    rw [hV]
    clear hV hsl
    by_cases h1 : k < 1
    · go_enter Tryd.func51, Tryd.ntmps51
      go_wp2_with fail
      go_ret2
      exact ⟨rfl, Below.refl _ _⟩
    · have h2 : 255 < k := by omega
      clear hk
      go_enter Tryd.func51, Tryd.ntmps51
      go_wp2_with fail
      go_ret2
      exact ⟨rfl, Below.refl _ _⟩
  · by_cases hn : 65536 < s.size
    · have hV : frameV k s.data.toList = .tuple #[.string ⟨#[]⟩, .int .i64 36] := by unfold frameV; rw [if_neg hk, if_pos (by omega)]; rfl
      rw [hV]
      have h1 : ¬ k < 1 := by omega
      have h2 : ¬ 255 < k := by omega
      clear hV hsl hk
      go_enter Tryd.func51, Tryd.ntmps51
      go_wp2_with fail
      go_ret2
      exact ⟨rfl, Below.refl _ _⟩
    · have hV : frameV k s.data.toList = .tuple #[str (Sl.frame k.toNat s.data.toList), .int .i64 0] := by unfold frameV; rw [if_neg hk, if_neg (by omega)]
      rw [hV]
      obtain ⟨k, rfl⟩ := Int.eq_ofNat_of_zero_le (show 0 ≤ k by omega)
      have h1 : 1 ≤ k := by omega
      have h2 : k ≤ 255 := by omega
      have hn' : s.size ≤ 65536 := by omega
      clear hk hn hV
      obtain ⟨H, hH, hHd, hHs⟩ := str_of (Sl.head k s.data.toList.length)
      obtain ⟨S1, hS1, hS1d, hS1s⟩ := str_of (Sl.summed H.data.toList)
      obtain ⟨S2, hS2, hS2d, hS2s⟩ := str_of (Sl.summed (H ++ s).data.toList)
      rw [summed_len] at hS1s hS2s
      have hfin : Value.string (H ++ S1 ++ s ++ S2) = str (Sl.frame k s.data.toList) := by
        apply str_eq
        rw [data_append (H ++ S1 ++ s) S2, data_append (H ++ S1) s, data_append H S1, hS1d, hS2d, data_append H s, hHd]
        rfl
      have z0 : H.size ≤ 6 := by rw [hHs]; unfold Sl.head; rw [List.length_append, Sl.be_len]; simp
      have z3 : S1.size ≤ 4 := by omega
      have z4 : S2.size ≤ 4 := by omega
      rw [hsl] at hHd
      have Hfin := Lib.hid hfin
      have HH := Lib.hid hHd
      have HS1 := Lib.hid hS1
      have HS2 := Lib.hid hS2
      obtain ⟨q1, hq1⟩ : ∃ q1, Sl.crc H.data.toList = q1 := ⟨_, rfl⟩
      obtain ⟨q2, hq2⟩ : ∃ q2, Sl.crc (H ++ s).data.toList = q2 := ⟨_, rfl⟩
      have Hq1 := Lib.hid hq1
      have Hq2 := Lib.hid hq2
      clear hfin hH hHd hHs hS1 hS1d hS1s hS2 hS2d hS2s hsl hq1 hq2
      go_enter Tryd.func51, Tryd.ntmps51
      go_wp2_with fail
      refine (refHead_any k s.size H _ h2 hn' HH.out).mono ?_
      rintro e w1 ⟨rfl, hB1⟩
      go_wp2_with fail
      refine (refSum_any H _ (by unfold maxLen; omega)).mono ?_
      rintro e w2 ⟨rfl, rfl⟩
      rw [Hq1.out]
      go_wp2_with fail
      refine (refSummed_any q1 H.data.toList _ Hq1.out).mono ?_
      rintro e w2 ⟨rfl, hB2⟩
      have c2 := hB1.trans (hB2.mono hB1.size)
      rw [HS1.out]
      go_wp2_with fail
      refine (refSum_any (H ++ s) _ (by unfold maxLen; rw [ByteArray.size_append]; omega)).mono ?_
      rintro e w3 ⟨rfl, rfl⟩
      rw [Hq2.out]
      go_wp2_with fail
      refine (refSummed_any q2 (H ++ s).data.toList _ Hq2.out).mono ?_
      rintro e w3 ⟨rfl, hB3⟩
      have c3 := c2.trans (hB3.mono c2.size)
      rw [HS2.out]
      go_wp2_with fail
      go_ret2
      exact ⟨by rw [Int.toNat_natCast, ← Hfin.out]; rfl, c3⟩
end Go.Proofs.YtffdplmnjlcmnaaDoor
