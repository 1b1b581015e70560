/- Contracts of seal.Fix, of the closure in seal.Parse, and of the document's number, sumAt. Conditions: each theorem's own hypotheses. -/
import Derived.Test.YtffdplmnjlcmnaaDoorSealF
import Derived.BigQuiet
import Derived.Deep.QuietTactic
namespace Go.Proofs.YtffdplmnjlcmnaaDoor
open Go.RowKit

theorem beNum_snoc (l : List UInt8) (c : UInt8) : Sl.beNum (l ++ [c]) = 256 * Sl.beNum l + c.toNat := by
  unfold Sl.beNum; rw [List.foldl_append]; rfl
theorem beNum_lt (l : List UInt8) : Sl.beNum l < 256 ^ l.length := by
  have h : ∀ (l : List UInt8) (a k : Nat), a < 256 ^ k → l.foldl (fun a c => 256 * a + c.toNat) a < 256 ^ (k + l.length) := by
    intro l
    induction l with
    | nil => intro a k h; simpa using h
    | cons c l ih =>
      intro a k h
      rw [List.foldl_cons, List.length_cons, show k + (l.length + 1) = (k + 1) + l.length from by omega]
      refine ih _ _ ?_
      have := c.toNat_lt
      rw [Nat.pow_succ]; omega
  have := h l 0 0 (by simp)
  rw [Nat.zero_add] at this
  exact this

theorem win_snoc (s : ByteArray) (k i : Nat) (h : k + i < s.size) : (s.data.toList.drop k).take (i + 1) = (s.data.toList.drop k).take i ++ [s[k + i]] := by
  rw [List.take_add_one, List.getElem?_drop]
  congr 1
  rw [List.getElem?_eq_getElem (by simpa using h)]
  rfl

set_option maxRecDepth 100000 in
set_option maxHeartbeats 1000000 in
theorem fix_any (s : ByteArray) (k n : Nat) (w : World) (hs : s.size ≤ 9223372036854775807) (hk : k + n ≤ s.size) (hn : 1 ≤ n) (hn2 : n ≤ 8) :
    Calls Tryd.prog 77 #[.string s, .int .i64 k, .int .i64 n] w fun e w' => e = .returned (.tuple #[.int .u64 (Sl.beNum ((s.data.toList.drop k).take n)), .int .i64 0]) ∧ w = w' := by
  have hd1 : decide ((n : Int) < 1) = false := by simp; omega
  have hd2 : decide ((8 : Int) < (n : Int)) = false := by simp; omega
  have hd3 : decide ((k : Int) < 0) = false := by simp
  have hd4 : decide (s.size < k) = false := by simp; omega
  have hd5 : decide ((s.size : Int) - (k : Int) < (n : Int)) = false := by simp; omega
  go_enter Tryd.func77, Tryd.ntmps77
  go_wp2_with fail
  go_loop [8, 33] (fun a j => ∃ (i v : Nat), a = .int .u64 v ∧ j = .int .i64 i ∧ i ≤ n ∧ Sl.beNum ((s.data.toList.drop k).take i) = v) (fun _ j => n - (intOf j).toNat)
  case atStart => exact ⟨0, 0, rfl, rfl, by omega, rfl⟩
  case round =>
    obtain ⟨i, v, rfl, rfl, hin, hv⟩ := hrel
    by_cases hlt : i < n
    · have hsn := win_snoc s k i (by omega)
      have hbn := beNum_snoc ((s.data.toList.drop k).take i) s[k + i]
      rw [← hsn, hv] at hbn
      have hvl : v < 256 ^ i := by
        rw [← hv]
        have := beNum_lt ((s.data.toList.drop k).take i)
        rwa [List.length_take_of_le (by simp; omega)] at this
      have hv7 : v < 72057594037927936 := by
        have := Nat.pow_le_pow_right (n := 256) (by decide) (show i ≤ 7 by omega)
        have e : (256 : Nat) ^ 7 = 72057594037927936 := by decide
        omega
      have hcl : s[k + i].toNat < 256 := s[k + i].toNat_lt
      have hor := nat_join 8 (v * 256) s[k + i].toNat (by omega) (by omega)
      have e1 : IntKind.u64.wrap ((v : Int) * 256) = ((v * 256 : Nat) : Int) := wrap_nat (v * 256) _ rfl (by omega) _ (by omega)
      obtain ⟨V, hV⟩ : ∃ V, v * 256 = V := ⟨_, rfl⟩
      rw [hV] at e1 hor
      have e2 : bits .or .u64 (V : Int) (s[k + i].toNat : Int) = ((256 * v + s[k + i].toNat : Nat) : Int) := by
        rw [u64_or_nat V s[k + i].toNat (by omega) (by omega), hor, ← hV, Nat.mul_comm]
      obtain ⟨R, hR⟩ : ∃ R, 256 * v + s[k + i].toNat = R := ⟨_, rfl⟩
      rw [hR] at e2 hbn
      have Hbn := Lib.hid hbn
      clear hsn hbn hv hor hV hR
      go_wp2_with fail
      go_round
      case rel => exact ⟨i + 1, R, rfl, by go_num, by omega, Hbn.out⟩
      case measure => simp [intOf]; omega
    · obtain rfl : i = n := by omega
      go_wp2_with fail
      go_ret2
      exact ⟨rfl, rfl⟩

set_option maxRecDepth 100000 in
set_option maxHeartbeats 1000000 in
theorem number_any (s : ByteArray) (k n : Nat) (w : World) (hs : s.size ≤ 9223372036854775807) (hk : k + n ≤ s.size) (hn2 : n ≤ 8) :
    Calls Tryd.prog 90 #[.string s, .int .i64 k, .int .i64 n] w fun e w' => e = .returned (.int .u64 (Sl.beNum ((s.data.toList.drop k).take n))) ∧ w = w' := by
  go_enter Tryd.func90, Tryd.ntmps90
  go_wp2_with fail
  go_loop [7, 8] (fun a j => ∃ (i v : Nat), a = .int .u64 v ∧ j = .int .i64 i ∧ i ≤ n ∧ Sl.beNum ((s.data.toList.drop k).take i) = v) (fun _ j => n - (intOf j).toNat)
  case atStart => exact ⟨0, 0, rfl, rfl, by omega, rfl⟩
  case round =>
    obtain ⟨i, v, rfl, rfl, hin, hv⟩ := hrel
    by_cases hlt : i < n
    · have hsn := win_snoc s k i (by omega)
      have hbn := beNum_snoc ((s.data.toList.drop k).take i) s[k + i]
      rw [← hsn, hv] at hbn
      have hvl : v < 256 ^ i := by
        rw [← hv]
        have := beNum_lt ((s.data.toList.drop k).take i)
        rwa [List.length_take_of_le (by simp; omega)] at this
      have hv7 : v < 72057594037927936 := by
        have := Nat.pow_le_pow_right (n := 256) (by decide) (show i ≤ 7 by omega)
        have e : (256 : Nat) ^ 7 = 72057594037927936 := by decide
        omega
      have hcl : s[k + i].toNat < 256 := s[k + i].toNat_lt
      obtain ⟨R, hR⟩ : ∃ R, 256 * v + s[k + i].toNat = R := ⟨_, rfl⟩
      have e1 : IntKind.u64.wrap (256 * (v : Int)) = 256 * (v : Int) := by rw [IntKind.wrap_u64]; omega
      have e2 : IntKind.u64.wrap (256 * (v : Int) + (s[k + i].toNat : Int)) = (R : Int) := by rw [IntKind.wrap_u64]; omega
      have e3 : 256 * (v : Int) + (s[k + i].toNat : Int) = (R : Int) := by omega
      rw [hR] at hbn
      have Hbn := Lib.hid hbn
      clear hsn hbn hv hR
      go_wp2_with fail
      go_round
      case rel => exact ⟨i + 1, R, rfl, by go_num, by omega, Hbn.out⟩
      case measure => simp [intOf]; omega
    · obtain rfl : i = n := by omega
      go_wp2_with fail
      go_ret
      exact ⟨rfl, rfl⟩

/-- The closure: the first n bytes are taken off. -/
theorem next_any (L : ByteArray) (n : Nat) (a : Addr) (w : World) (hn : n ≤ L.size) (hc : w.cell? a = some (.string L)) (hf : w.frozen? a = false) :
    Calls Tryd.prog 76 #[.int .i64 n, .pointer (some a)] w fun e w' => e = .returned (.string (L.extract 0 n)) ∧ w.setCell a (.string (L.extract n L.size)) = w' := by
  go_enter Tryd.func76, Tryd.ntmps76
  go_wp2_with fail
  go_ret
  exact ⟨rfl, rfl⟩
end Go.Proofs.YtffdplmnjlcmnaaDoor
