/- Contracts of seal.PutFix, seal.summed and of the document's fixed, summed: numbers and sums as bytes. Conditions: each theorem's own hypotheses. -/
import Derived.Test.YtffdplmnjlcmnaaDoorSealC
namespace Go.Proofs.YtffdplmnjlcmnaaDoor
open Go.RowKit

theorem be_get : ∀ n v i, i < n → (Sl.be n v)[i]? = some (UInt8.ofNat (v / 256 ^ (n - 1 - i) % 256))
  | 0, v, i, h => by omega
  | n + 1, v, i, h => by
    rw [Sl.be]
    cases i with
    | zero => simp
    | succ i =>
      rw [List.getElem?_cons_succ, be_get n v i (by omega), show n + 1 - 1 - (i + 1) = n - 1 - i from by omega]

/-- the first i bytes laid, noughts behind. -/
def partly (l : List UInt8) (n i : Nat) : List Value := (l.take i).map bv ++ List.replicate (n - i) (.int .u8 0)

theorem partly_set (l : List UInt8) (n i : Nat) (c : UInt8) (hl : l.length = n) (hi : i < n) (hc : l[i]? = some c) :
    (partly l n i).set i (bv c) = partly l n (i + 1) := by
  unfold partly
  have h1 : ((l.take i).map bv).length = i := by simp; omega
  rw [List.set_append_right _ _ (by omega), h1, Nat.sub_self, show n - i = (n - (i + 1)) + 1 from by omega, List.replicate_succ, List.set_cons_zero]
  have h2 : l.take (i + 1) = l.take i ++ [c] := by
    rw [List.take_add_one, hc]; rfl
  rw [h2, List.map_append, List.append_assoc]
  rfl

theorem partly_full (l : List UInt8) (n : Nat) (hl : l.length = n) : partly l n n = l.map bv := by
  unfold partly
  rw [Nat.sub_self, List.take_of_length_le (by omega)]
  simp

theorem partly_none (l : List UInt8) (n : Nat) : partly l n 0 = List.replicate n (.int .u8 0) := by
  unfold partly; simp

set_option maxRecDepth 100000 in
set_option maxHeartbeats 1000000 in
theorem putFix_any (v n : Nat) (w : World) (hn : 1 ≤ n) (hn2 : n < 8) (hv : v < 256 ^ n) :
    Calls Tryd.prog 71 #[.int .u64 v, .int .i64 n] w fun e w' => e = .returned (.tuple #[str (Sl.be n v), .int .i64 0]) ∧ Below w.heap.size w w' := by
  obtain ⟨i0, hi, hz0, hz1, hz2⟩ := info_parts Tryd.info5
  have hv64 : v < 18446744073709551616 := by
    have := Nat.pow_le_pow_right (n := 256) (by decide) (show n ≤ 7 by omega)
    have e : (256 : Nat) ^ 7 = 72057594037927936 := by decide
    omega
  have hq : (v : Int) / 2 ^ (8 * n) = 0 := by
    have h1 : (256 : Nat) ^ n = 2 ^ (8 * n) := by rw [show (256 : Nat) = 2 ^ 8 from rfl, ← Nat.pow_mul]
    have h2 : ((v : Int)) / 2 ^ (8 * n) = ((v / 2 ^ (8 * n) : Nat) : Int) := by simp
    rw [h2, ← h1, Nat.div_eq_of_lt hv]; rfl
  have hd1 : decide ((n : Int) < 1) = false := by simp; omega
  have hd2 : decide ((8 : Int) < (n : Int)) = false := by simp; omega
  have Hq := Lib.hid hq
  have Hv := Lib.hid hv
  have hlen := Sl.be_len n v
  have Hl := Lib.hid hlen
  clear hv hlen
  go_enter Tryd.func71, Tryd.ntmps71
  go_wp2_with (at_make; refine wpList_make_full _ rfl _ _ 58 rfl w.heap.size 5 i0 (.int .u8 0) 1 Tryd.underlying58 hi hz0 hz1 .i64 .i64 (n : Int) (n : Int) n rfl rfl rfl rfl ?b1 ?b2 ?b3 ?_)
  case b1 => rw [hz2]; omega
  case b2 => unfold maxLen; omega
  case b3 => exact Nat.le_refl _
  intro w1 hown hgrow
  have hB : Below w.heap.size w w1 := (Below.refl _ _).grown hgrow (Nat.le_refl _) (fun k h => by cases h)
  have hown0 : w1.ownsRow w.heap.size 5 1 (.slice (some ⟨w.heap.size, 0, none⟩) n n) n (partly (Sl.be n v) n 0) := by
    rw [partly_none]
    rw [toList_madeCells_one] at hown
    exact hown
  clear hown hgrow hq
  have hsz := hB.size
  go_wp2_with fail
  go_loopw [27] (fun j wr => ∃ i : Nat, i ≤ n ∧ j = .int .i64 i ∧ wr.ownsRow w.heap.size 5 1 (.slice (some ⟨w.heap.size, 0, none⟩) n n) n (partly (Sl.be n v) n i) ∧ Below w.heap.size w wr) (fun j _ => n - (intOf j).toNat)
  case atStart => exact ⟨0, by omega, rfl, hown0, hB⟩
  case round =>
    obtain ⟨i, hin, rfl, hown, hB'⟩ := hrel
    by_cases hlt : i < n
    · have hc := be_get n v i hlt
      obtain ⟨b, hb⟩ : ∃ b, v / 256 ^ (n - 1 - i) % 256 = b := ⟨_, rfl⟩
      rw [hb] at hc
      have hbl : b < 256 := by omega
      have e1 : ((v : Int) / 2 ^ (8 * (n - 1 - i)) % 256) = (b : Int) := by
        have h1 : (256 : Nat) ^ (n - 1 - i) = 2 ^ (8 * (n - 1 - i)) := by rw [show (256 : Nat) = 2 ^ 8 from rfl, ← Nat.pow_mul]
        rw [← hb, h1]; simp
      obtain ⟨x, hx⟩ : ∃ x, (partly (Sl.be n v) n i)[i]? = some x := by
        have : (partly (Sl.be n v) n i).length = n := by have := hown.1; omega
        exact ⟨_, List.getElem?_eq_getElem (by omega)⟩
      have hcell := hown.cellAt i (by omega)
      rw [hx] at hcell
      have hfz := hown.frozenAt i
      obtain ⟨hown', _⟩ := hown.stored i (.int .u8 (b : Int))
      have hset := partly_set (Sl.be n v) n i (UInt8.ofNat b) Hl.out hlt hc
      rw [show bv (UInt8.ofNat b) = .int .u8 (b : Int) from by unfold bv; rw [u8_ofNat b hbl]] at hset
      rw [hset] at hown'
      have Hown := Lib.hid hown'
      clear hown' hset hown hb hx hc
      go_wp2_with fail
      go_roundw
      case rel => exact ⟨i + 1, by omega, by go_num, Hown.out, hB'.setCell (p := ⟨w.heap.size, i, none⟩) (Nat.le_refl _) _⟩
      case measure => simp [intOf]; omega
    · obtain rfl : i = n := by omega
      rw [partly_full _ _ Hl.out] at hown
      have hcv := conv_own hown Hl.out
      clear hown hown0
      go_wp2_with fail
      go_ret2
      exact ⟨rfl, hB'⟩

theorem be_take (n v i : Nat) (hi : i < n) : (Sl.be n v).take (i + 1) = (Sl.be n v).take i ++ [UInt8.ofNat (v / 256 ^ (n - 1 - i) % 256)] := by
  rw [List.take_add_one, be_get n v i hi]; rfl

set_option maxRecDepth 100000 in
set_option maxHeartbeats 1000000 in
theorem fixed_any (v n : Nat) (w : World) (hn : 1 ≤ n) (hn2 : n ≤ 8) :
    Calls Tryd.prog 88 #[.int .u64 v, .int .i64 n] w fun e w' => e = .returned (str (Sl.be n v)) ∧ Below w.heap.size w w' := by
  obtain ⟨i0, hi, hz0, hz1, hz2⟩ := info_parts Tryd.info5
  have Hl := Lib.hid (Sl.be_len n v)
  go_enter Tryd.func88, Tryd.ntmps88
  go_wp2_with fail
  go_loopw [5, 6] (fun b j wr => ∃ i : Nat, i ≤ n ∧ j = .int .i64 ((n : Int) - 1 - i) ∧ wr.ownsRow w.heap.size 5 1 b i (((Sl.be n v).take i).map bv) ∧ Below w.heap.size w wr) (fun _ j _ => (intOf j + 1).toNat)
  case atStart => exact ⟨0, by omega, by simp, by simpa using World.ownsRow_nil w w.heap.size 5 1, Below.refl _ _⟩
  case round =>
    obtain ⟨i, hin, rfl, hown, hB⟩ := hrel
    have hsz := hB.size
    by_cases hlt : i < n
    · rw [show (n : Int) - 1 - i = ((n - 1 - i : Nat) : Int) from by omega]
      obtain ⟨q, hq⟩ : ∃ q, n - 1 - i = q := ⟨_, rfl⟩
      have hts := be_take n v i hlt
      rw [hq] at hts ⊢
      have hq7 : q ≤ 7 := by omega
      obtain ⟨b, hb⟩ : ∃ b, v / 256 ^ q % 256 = b := ⟨_, rfl⟩
      rw [hb] at hts
      have hbl : b < 256 := by omega
      have e1 : ((v : Int) / 2 ^ (8 * q) % 256) = (b : Int) := by
        have h1 : (256 : Nat) ^ q = 2 ^ (8 * q) := by rw [show (256 : Nat) = 2 ^ 8 from rfl, ← Nat.pow_mul]
        rw [← hb, h1]; simp
      have Hts := Lib.hid hts
      have Hq := Lib.hid hq
      clear hts hb hq
      go_wp2_with (at_builtin; refine wpList_append_own _ rfl _ _ 58 rfl w.heap.size 5 i0 (.int .u8 0) 1 1 Tryd.underlying58 hi hz0 hz1 hz2 rfl (by decide) _ _ _ rfl (hown.alloc _) ⟨wr.heap.size, 0, none⟩ 1 1 [.int .u8 (b : Int)] rfl rfl ?c1 ?c2 ?c3 ?c4 ?c5 ?_)
      case c1 => exact cell_one_new _ _ _
      case c2 => simp [Value.oneCell']
      case c3 => unfold maxLen; omega
      case c4 => omega
      case c5 => simp; omega
      intro v' w1 hown' hgrow _
      have r2 : Below w.heap.size w w1 := (hB.alloc hB.size _).grown hgrow (by simp; omega) (fun q e => (hown.lt q e).1)
      have r1 : w1.ownsRow w.heap.size 5 1 v' (i + 1) (((Sl.be n v).take (i + 1)).map bv) := by
        rw [Hts.out, List.map_append]
        simp only [List.map_cons, List.map_nil, bv, u8_ofNat b hbl, List.map_take] at hown' ⊢
        exact hown'
      clear hown' hgrow hown hB
      go_wp2_with fail
      go_roundw
      case rel => exact ⟨i + 1, by omega, by have := Hq.out; congr 1; omega, r1, r2⟩
      case measure => simp [intOf]
    · obtain rfl : i = n := by omega
      rw [List.take_of_length_le (by rw [Hl.out]; exact Nat.le_refl _)] at hown
      obtain ⟨m, rfl⟩ : ∃ m, i = m + 1 := ⟨i - 1, by omega⟩
      obtain ⟨g, cap, rfl⟩ := own_form hown
      have hcv := conv_own hown Hl.out
      clear hown
      go_wp2_with fail
      go_ret
      exact ⟨rfl, hB⟩

/-- 'string(b)' of a new block of four bytes. -/
theorem conv_four (w : World) (b0 b1 b2 b3 : Nat) (h0 : b0 < 256) (h1 : b1 < 256) (h2 : b2 < 256) (h3 : b3 < 256) :
    (convert 58 9 (.slice (some ⟨w.heap.size, 0, none⟩) 4 4)).run Tryd.prog (w.alloc (.cells #[.int .u8 (b0 : Int), .int .u8 (b1 : Int), .int .u8 (b2 : Int), .int .u8 (b3 : Int)] 5)) =
      .ok (str [UInt8.ofNat b0, UInt8.ofNat b1, UInt8.ofNat b2, UInt8.ofNat b3]) (w.alloc (.cells #[.int .u8 (b0 : Int), .int .u8 (b1 : Int), .int .u8 (b2 : Int), .int .u8 (b3 : Int)] 5)) := by
  have := World.ownsRow_lit (e := 5) (size := 1) w #[.int .u8 (b0 : Int), .int .u8 (b1 : Int), .int .u8 (b2 : Int), .int .u8 (b3 : Int)] 4 (Nat.le_refl _) (by decide) rfl
  refine conv_own (l := [UInt8.ofNat b0, UInt8.ofNat b1, UInt8.ofNat b2, UInt8.ofNat b3]) (base := w.heap.size) ?_ rfl
  simp only [List.map_cons, List.map_nil, bv, u8_ofNat b0 h0, u8_ofNat b1 h1, u8_ofNat b2 h2, u8_ofNat b3 h3]
  exact this

set_option maxRecDepth 100000 in
theorem summed_any (s : ByteArray) (w : World) (hs : s.size ≤ maxLen) (hT : TabS w) :
    Calls Tryd.prog 72 #[.string s] w fun e w' => e = .returned (str (Sl.summed s.data.toList)) ∧ Below w.heap.size w w' := by
  have HT := Lib.hid hT
  clear hT
  obtain ⟨c, hc⟩ : ∃ c, Sl.crc s.data.toList = c := ⟨_, rfl⟩
  have hcl : c < 4294967296 := by rw [← hc]; exact Sl.crcOn_lt 0 _ (by decide)
  have hcv := conv_four w (c % 256) (c / 256 % 256) (c / 65536 % 256) (c / 16777216 % 256) (by omega) (by omega) (by omega) (by omega)
  have hf : Sl.summed s.data.toList = [UInt8.ofNat (c % 256), UInt8.ofNat (c / 256 % 256), UInt8.ofNat (c / 65536 % 256), UInt8.ofNat (c / 16777216 % 256)] := by unfold Sl.summed; rw [hc]; rfl
  rw [← hf] at hcv
  have e1 : ((c : Int) % 256) = ((c % 256 : Nat) : Int) := by omega
  have e2 : ((c : Int) / 256 % 256) = ((c / 256 % 256 : Nat) : Int) := by omega
  have e3 : ((c : Int) / 65536 % 256) = ((c / 65536 % 256 : Nat) : Int) := by omega
  have e4 : ((c : Int) / 16777216) = ((c / 16777216 % 256 : Nat) : Int) := by omega
  generalize c % 256 = b0 at e1 hcv
  generalize c / 256 % 256 = b1 at e2 hcv
  generalize c / 65536 % 256 = b2 at e3 hcv
  generalize c / 16777216 % 256 = b3 at e4 hcv
  have Hc := Lib.hid hc
  clear hc hf
  go_enter Tryd.func72, Tryd.ntmps72
  go_wp2_with fail
  refine (sum_any s _ hs HT.out).mono ?_
  rintro e w' ⟨rfl, rfl⟩
  rw [Hc.out]
  go_wp2_with fail
  go_ret
  exact ⟨rfl, (Below.refl _ _).alloc (Nat.le_refl _) _⟩

set_option maxRecDepth 100000 in
theorem refSummed_any (c : Nat) (l : List UInt8) (w : World) (hc : Sl.crc l = c) :
    Calls Tryd.prog 74 #[.int .u32 c] w fun e w' => e = .returned (str (Sl.summed l)) ∧ Below w.heap.size w w' := by
  have hcl : c < 4294967296 := by rw [← hc]; exact Sl.crcOn_lt 0 _ (by decide)
  have hcv := conv_four w (c % 256) (c / 256 % 256) (c / 65536 % 256) (c / 16777216 % 256) (by omega) (by omega) (by omega) (by omega)
  have hf : Sl.summed l = [UInt8.ofNat (c % 256), UInt8.ofNat (c / 256 % 256), UInt8.ofNat (c / 65536 % 256), UInt8.ofNat (c / 16777216 % 256)] := by unfold Sl.summed; rw [hc]; rfl
  rw [← hf] at hcv
  have e1 : ((c : Int) % 256) = ((c % 256 : Nat) : Int) := by omega
  have e2 : ((c : Int) / 256 % 256) = ((c / 256 % 256 : Nat) : Int) := by omega
  have e3 : ((c : Int) / 65536 % 256) = ((c / 65536 % 256 : Nat) : Int) := by omega
  have e4 : ((c : Int) / 16777216) = ((c / 16777216 % 256 : Nat) : Int) := by omega
  generalize c % 256 = b0 at e1 hcv
  generalize c / 256 % 256 = b1 at e2 hcv
  generalize c / 65536 % 256 = b2 at e3 hcv
  generalize c / 16777216 % 256 = b3 at e4 hcv
  clear hc hf
  go_enter Tryd.func74, Tryd.ntmps74
  go_wp2_with fail
  go_ret
  exact ⟨rfl, (Below.refl _ _).alloc (Nat.le_refl _) _⟩
end Go.Proofs.YtffdplmnjlcmnaaDoor
