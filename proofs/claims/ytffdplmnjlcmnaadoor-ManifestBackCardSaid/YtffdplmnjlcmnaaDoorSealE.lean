/- Contracts of seal.Frame and of the document's head, Frame. Conditions: each theorem's own hypotheses; the program's table of 16 numbers holds what its initialiser lays. -/
import Derived.Test.YtffdplmnjlcmnaaDoorSealD
import Derived.WalkLawsBesides
import Derived.Deep.RegionWith
namespace Go.Proofs.YtffdplmnjlcmnaaDoor
open Go.RowKit

theorem str_of (l : List UInt8) : ∃ b : ByteArray, str l = .string b ∧ b.data.toList = l ∧ b.size = l.length :=
  ⟨⟨l.toArray⟩, rfl, rfl, by simp [ByteArray.size]⟩

theorem str_eq {b : ByteArray} {l : List UInt8} (h : b.data.toList = l) : Value.string b = str l := by
  subst h
  unfold str
  congr 1

theorem data_append (a b : ByteArray) : (a ++ b).data.toList = a.data.toList ++ b.data.toList := by
  simp [ByteArray.data_append]

/-- 'string(b)' of a new block of two bytes. -/
theorem conv_two (w : World) (b0 b1 : Nat) (h0 : b0 < 256) (h1 : b1 < 256) :
    (convert 58 9 (.slice (some ⟨w.heap.size, 0, none⟩) 2 2)).run Tryd.prog (w.alloc (.cells #[.int .u8 (b0 : Int), .int .u8 (b1 : Int)] 5)) =
      .ok (str [UInt8.ofNat b0, UInt8.ofNat b1]) (w.alloc (.cells #[.int .u8 (b0 : Int), .int .u8 (b1 : Int)] 5)) := by
  have := World.ownsRow_lit (e := 5) (size := 1) w #[.int .u8 (b0 : Int), .int .u8 (b1 : Int)] 2 (Nat.le_refl _) (by decide) rfl
  refine conv_own (l := [UInt8.ofNat b0, UInt8.ofNat b1]) (base := w.heap.size) ?_ rfl
  simp only [List.map_cons, List.map_nil, bv, u8_ofNat b0 h0, u8_ofNat b1 h1]
  exact this

theorem summed_len (l : List UInt8) : (Sl.summed l).length = 4 := rfl

theorem conv_two_drew (w : World) (b0 b1 : Nat) (h0 : b0 < 256) (h1 : b1 < 256) :
    (convert 58 9 (.slice (some ⟨w.heap.size, 0, none⟩) 2 2)).run Tryd.prog (w.alloc (.cells #[.int .u8 (b0 : Int), .int .u8 (b1 : Int)] 5)).drew =
      .ok (str [UInt8.ofNat b0, UInt8.ofNat b1]) (w.alloc (.cells #[.int .u8 (b0 : Int), .int .u8 (b1 : Int)] 5)).drew := by
  have := (World.ownsRow_lit (e := 5) (size := 1) w #[.int .u8 (b0 : Int), .int .u8 (b1 : Int)] 2 (Nat.le_refl _) (by decide) rfl).drew
  refine conv_own (l := [UInt8.ofNat b0, UInt8.ofNat b1]) (base := w.heap.size) ?_ rfl
  simp only [List.map_cons, List.map_nil, bv, u8_ofNat b0 h0, u8_ofNat b1 h1]
  exact this

theorem own_below {B base e size n : Nat} {v : Value} {xs : List Value} {w w' : World} (h : w.ownsRow base e size v n xs) (hv : ∀ k, v.ownBlock = some k → k < B) (hB : Below B w w') : w'.ownsRow base e size v n xs := by
  refine ⟨h.1, ?_⟩
  rcases h.2 with h2 | ⟨g, cap, cur, rfl, hg, hh, r⟩
  · exact .inl h2
  · exact .inr ⟨g, cap, cur, rfl, hg, by rw [hB.block g (hv g rfl)]; exact hh, r⟩

theorem conv_two_below (w w1 : World) (b0 b1 : Nat) (K : ByteArray) (h0 : b0 < 256) (h1 : b1 < 256) (hK : str [UInt8.ofNat b0, UInt8.ofNat b1] = .string K)
    (hB : Below ((w.alloc (.cells #[.int .u8 (b0 : Int), .int .u8 (b1 : Int)] 5)).drew).heap.size (w.alloc (.cells #[.int .u8 (b0 : Int), .int .u8 (b1 : Int)] 5)).drew w1) :
    (convert 58 9 (.slice (some ⟨w.heap.size, 0, none⟩) 2 2)).run Tryd.prog w1 = .ok (.string K) w1 := by
  have := (World.ownsRow_lit (e := 5) (size := 1) w #[.int .u8 (b0 : Int), .int .u8 (b1 : Int)] 2 (Nat.le_refl _) (by decide) rfl).drew
  rw [← hK]
  refine conv_own (l := [UInt8.ofNat b0, UInt8.ofNat b1]) (base := w.heap.size) ?_ rfl
  simp only [List.map_cons, List.map_nil, bv, u8_ofNat b0 h0, u8_ofNat b1 h1]
  exact own_below this (by intro k hk; cases hk; show w.heap.size < (w.alloc _).heap.size; rw [World.size_alloc]; omega) hB

/-- What Frame returns. -/
def frameV (kind : Int) (l : List UInt8) : Value :=
  if kind < 1 ∨ 255 < kind then .tuple #[str [], .int .i64 35]
  else if 65536 < l.length then .tuple #[str [], .int .i64 36]
  else .tuple #[str (Sl.frame kind.toNat l), .int .i64 0]

set_option maxRecDepth 100000 in
set_option maxHeartbeats 1000000 in
theorem frame_any (k : Int) (s : ByteArray) (w : World) (hT : TabS w) :
    Calls Tryd.prog 47 #[.int .i64 k, .string s] w fun e w' => e = .returned (frameV k s.data.toList) ∧ Below w.heap.size w w' := by
  have HT := Lib.hid hT
  have hsl : s.data.toList.length = s.size := Array.length_toList
  clear hT
  by_cases hk : k < 1 ∨ 255 < k
  · have hV : frameV k s.data.toList = .tuple #[.string ⟨#[]⟩, .int .i64 35] := by unfold frameV; rw [if_pos hk]; rfl
    rw [hV]
    clear hV hsl
    by_cases h1 : k < 1
    · go_enter Tryd.func47, Tryd.ntmps47
      go_wp2_with fail
      go_ret2
      exact ⟨rfl, Below.refl _ _⟩
    · have h2 : 255 < k := by omega
      clear hk
      go_enter Tryd.func47, Tryd.ntmps47
      go_wp2_with fail
      go_ret2
      exact ⟨rfl, Below.refl _ _⟩
  · by_cases hn : 65536 < s.size
    · have hV : frameV k s.data.toList = .tuple #[.string ⟨#[]⟩, .int .i64 36] := by unfold frameV; rw [if_neg hk, if_pos (by omega)]; rfl
      rw [hV]
      have h1 : ¬ k < 1 := by omega
      have h2 : ¬ 255 < k := by omega
      clear hV hsl hk
      go_enter Tryd.func47, Tryd.ntmps47
      go_wp2_with fail
      go_ret2
      exact ⟨rfl, Below.refl _ _⟩
    · have hV : frameV k s.data.toList = .tuple #[str (Sl.frame k.toNat s.data.toList), .int .i64 0] := by unfold frameV; rw [if_neg hk, if_neg (by omega)]
      rw [hV]
      obtain ⟨k, rfl⟩ := Int.eq_ofNat_of_zero_le (show 0 ≤ k by omega)
      have h1 : 1 ≤ k := by omega
      have h2 : k ≤ 255 := by omega
      have hn' : s.size ≤ 65536 := by omega
      clear hk hn hV
      obtain ⟨B4, hB4, hB4d, hB4s⟩ := str_of (Sl.be 4 s.size)
      rw [Sl.be_len] at hB4s
      obtain ⟨K2, hK2, hK2d, hK2s⟩ := str_of [167, UInt8.ofNat k]
      have hcv : ∀ w : World, (convert 58 9 (.slice (some ⟨w.heap.size, 0, none⟩) 2 2)).run Tryd.prog (w.alloc (.cells #[.int .u8 167, .int .u8 (k : Int)] 5)) =
          .ok (.string K2) (w.alloc (.cells #[.int .u8 167, .int .u8 (k : Int)] 5)) := fun w => by rw [← hK2]; exact conv_two w 167 k (by decide) (by omega)
      have hhead : (K2 ++ B4).data.toList = Sl.head k s.data.toList.length := by
        rw [data_append, hK2d, hB4d, hsl]; rfl
      obtain ⟨S1, hS1, hS1d, hS1s⟩ := str_of (Sl.summed (K2 ++ B4).data.toList)
      obtain ⟨S2, hS2, hS2d, hS2s⟩ := str_of (Sl.summed (K2 ++ B4 ++ s).data.toList)
      rw [summed_len] at hS1s hS2s
      have hfin : Value.string (K2 ++ B4 ++ S1 ++ s ++ S2) = str (Sl.frame k s.data.toList) := by
        apply str_eq
        rw [data_append (K2 ++ B4 ++ S1 ++ s) S2, data_append (K2 ++ B4 ++ S1) s, data_append (K2 ++ B4) S1, hS1d, hS2d, data_append (K2 ++ B4) s, hhead]
        rfl
      have Hfin := Lib.hid hfin
      have HB4 := Lib.hid hB4
      have HS1 := Lib.hid hS1
      have HS2 := Lib.hid hS2
      have z1 : K2.size ≤ 2 := by rw [hK2s]; simp
      have z2 : B4.size ≤ 4 := by omega
      have z3 : S1.size ≤ 4 := by omega
      have z4 : S2.size ≤ 4 := by omega
      clear hfin hB4 hB4d hB4s hK2 hK2d hK2s hS1 hS1d hS1s hS2 hS2d hS2s hhead hsl
      go_enter Tryd.func47, Tryd.ntmps47
      go_wp2_with fail
      refine (putFix_any s.size 4 _ (by decide) (by decide) (by omega)).mono ?_
      rintro e w1 ⟨rfl, hB1⟩
      rw [HB4.out]
      go_wp2_with fail
      refine (summed_any (K2 ++ B4) _ (by unfold maxLen; rw [ByteArray.size_append]; omega) ((HT.out.below hB1).below ((Below.refl _ _).alloc (Nat.le_refl _) _))).mono ?_
      rintro e w2 ⟨rfl, hB2⟩
      rw [HS1.out]
      go_wp2_with fail
      have c2 : Below w.heap.size w w2 := (hB1.alloc hB1.size _).trans (hB2.mono (by simp; have := hB1.size; omega))
      refine (summed_any (K2 ++ B4 ++ s) _ (by unfold maxLen; rw [ByteArray.size_append, ByteArray.size_append]; omega) (HT.out.below c2)).mono ?_
      rintro e w3 ⟨rfl, hB3⟩
      have c3 := c2.trans (hB3.mono c2.size)
      rw [HS2.out]
      go_wp2_with fail
      go_ret2
      exact ⟨by rw [Int.toNat_natCast, ← Hfin.out]; rfl, c3⟩

end Go.Proofs.YtffdplmnjlcmnaaDoor
