/- Contracts of the document's distance. Conditions: each theorem's own hypotheses. -/
import Derived.Test.YtikhahkmebkccaaGreatDoorBkE
namespace Go.Proofs.YtikhahkmebkccaaGreatDoor
open Go.RowKit Go.Maps Go.Sort
set_option linter.unusedVariables false
set_option linter.unusedSimpArgs false

/-- A bit of a text, the first the highest of the first byte. -/
def Br.bitAt (l : List UInt8) (i : Nat) : Nat := ((l.getD (i / 8) 0).toNat / 2 ^ (7 - i % 8)) % 2
theorem Br.and_nat : ∀ a : Nat, a < 256 → bits .and .i64 (a : Int) 1 = ((a % 2 : Nat) : Int) := by decide +kernel
theorem Br.and_div (y d : Nat) (hy : y < 256) : bits .and .i64 ((y : Int) / (d : Int)) 1 = ((y / d % 2 : Nat) : Int) := by
  rw [← Int.natCast_ediv]
  exact Br.and_nat _ (Nat.lt_of_le_of_lt (Nat.div_le_self _ _) hy)
set_option maxRecDepth 100000 in
theorem Br.bit_any (s : ByteArray) (i : Nat) (hi : i < 8 * s.size) (hs : s.size ≤ 1152921504606846975) (W : World) : Calls Tryz.prog 89 #[.string s, .int .i64 i] W fun e W' => e = .returned (.int .i64 (Br.bitAt s.data.toList i : Nat)) ∧ W = W' := by
  have hm : i % 8 = 0 ∨ i % 8 = 1 ∨ i % 8 = 2 ∨ i % 8 = 3 ∨ i % 8 = 4 ∨ i % 8 = 5 ∨ i % 8 = 6 ∨ i % 8 = 7 := by omega
  have e3 : Int.tmod (i : Int) 8 = ((i % 8 : Nat) : Int) := rfl
  obtain ⟨i8, hi8⟩ : ∃ i8, i / 8 = i8 := ⟨_, rfl⟩
  have e2 : Int.tdiv (i : Int) 8 = (i8 : Int) := by rw [← hi8]; rfl
  have hlt : i8 < s.size := by omega
  obtain ⟨y, hy⟩ : ∃ y, s[i8] = y := ⟨_, rfl⟩
  have hy8 : y.toNat < 256 := y.toNat_lt
  have hR : Br.bitAt s.data.toList i = y.toNat / 2 ^ (7 - i % 8) % 2 := by
    unfold Br.bitAt
    rw [hi8, List.getD_eq_getElem?_getD, Array.getElem?_toList]
    have : s.data[i8]? = some y := by rw [← hy]; exact Array.getElem?_eq_getElem hlt
    rw [this]; rfl
  rw [hR]
  have HR := Lib.hid (And.intro hR (And.intro hi8 hi))
  clear hR hi8 hi
  have hv := fun d => Br.and_div y.toNat d hy8
  have hv1 := Br.and_nat y.toNat hy8
  rcases hm with h | h | h | h | h | h | h | h
  · rw [h] at e3 ⊢
    have e4 : Int.tmod (i : Int) 8 = 0 := e3
    have hv : bits .and .i64 ((y.toNat : Int) / 128) 1 = ((y.toNat / 2 ^ (7 - 0) % 2 : Nat) : Int) := hv 128
    generalize y.toNat / 2 ^ (7 - 0) % 2 = z at hv ⊢
    clear e3 h hv1
    go_enter Tryz.func89, Tryz.ntmps89
    go_wp2_with fail
    go_ret
    exact ⟨rfl, rfl⟩
  · rw [h] at e3 ⊢
    have e4 : Int.tmod (i : Int) 8 = 1 := e3
    have hv : bits .and .i64 ((y.toNat : Int) / 64) 1 = ((y.toNat / 2 ^ (7 - 1) % 2 : Nat) : Int) := hv 64
    generalize y.toNat / 2 ^ (7 - 1) % 2 = z at hv ⊢
    clear e3 h hv1
    go_enter Tryz.func89, Tryz.ntmps89
    go_wp2_with fail
    go_ret
    exact ⟨rfl, rfl⟩
  · rw [h] at e3 ⊢
    have e4 : Int.tmod (i : Int) 8 = 2 := e3
    have hv : bits .and .i64 ((y.toNat : Int) / 32) 1 = ((y.toNat / 2 ^ (7 - 2) % 2 : Nat) : Int) := hv 32
    generalize y.toNat / 2 ^ (7 - 2) % 2 = z at hv ⊢
    clear e3 h hv1
    go_enter Tryz.func89, Tryz.ntmps89
    go_wp2_with fail
    go_ret
    exact ⟨rfl, rfl⟩
  · rw [h] at e3 ⊢
    have e4 : Int.tmod (i : Int) 8 = 3 := e3
    have hv : bits .and .i64 ((y.toNat : Int) / 16) 1 = ((y.toNat / 2 ^ (7 - 3) % 2 : Nat) : Int) := hv 16
    generalize y.toNat / 2 ^ (7 - 3) % 2 = z at hv ⊢
    clear e3 h hv1
    go_enter Tryz.func89, Tryz.ntmps89
    go_wp2_with fail
    go_ret
    exact ⟨rfl, rfl⟩
  · rw [h] at e3 ⊢
    have e4 : Int.tmod (i : Int) 8 = 4 := e3
    have hv : bits .and .i64 ((y.toNat : Int) / 8) 1 = ((y.toNat / 2 ^ (7 - 4) % 2 : Nat) : Int) := hv 8
    generalize y.toNat / 2 ^ (7 - 4) % 2 = z at hv ⊢
    clear e3 h hv1
    go_enter Tryz.func89, Tryz.ntmps89
    go_wp2_with fail
    go_ret
    exact ⟨rfl, rfl⟩
  · rw [h] at e3 ⊢
    have e4 : Int.tmod (i : Int) 8 = 5 := e3
    have hv : bits .and .i64 ((y.toNat : Int) / 4) 1 = ((y.toNat / 2 ^ (7 - 5) % 2 : Nat) : Int) := hv 4
    generalize y.toNat / 2 ^ (7 - 5) % 2 = z at hv ⊢
    clear e3 h hv1
    go_enter Tryz.func89, Tryz.ntmps89
    go_wp2_with fail
    go_ret
    exact ⟨rfl, rfl⟩
  · rw [h] at e3 ⊢
    have e4 : Int.tmod (i : Int) 8 = 6 := e3
    have hv : bits .and .i64 ((y.toNat : Int) / 2) 1 = ((y.toNat / 2 ^ (7 - 6) % 2 : Nat) : Int) := hv 2
    generalize y.toNat / 2 ^ (7 - 6) % 2 = z at hv ⊢
    clear e3 h hv1
    go_enter Tryz.func89, Tryz.ntmps89
    go_wp2_with fail
    go_ret
    exact ⟨rfl, rfl⟩
  · rw [h] at e3 ⊢
    have e4 : Int.tmod (i : Int) 8 = 7 := e3
    have hv : bits .and .i64 ((y.toNat : Int)) 1 = ((y.toNat / 2 ^ (7 - 7) % 2 : Nat) : Int) := by rw [hv1]; simp
    generalize y.toNat / 2 ^ (7 - 7) % 2 = z at hv ⊢
    clear e3 h hv1
    go_enter Tryz.func89, Tryz.ntmps89
    go_wp2_with fail
    go_ret
    exact ⟨rfl, rfl⟩
/-- How many of the first m bits are unlike. -/
def Br.farB (a b : List UInt8) : Nat → Nat
  | 0 => 0
  | m + 1 => Br.farB a b m + (if Br.bitAt a m = Br.bitAt b m then 0 else 1)
theorem Br.farB_le (a b : List UInt8) : ∀ m, Br.farB a b m ≤ m
  | 0 => Nat.le_refl _
  | m + 1 => by have := Br.farB_le a b m; unfold Br.farB; split <;> omega
def Br.tb (x : UInt8) (j : Nat) : Nat := x.toNat / 2 ^ j % 2
theorem Br.tb_bit (x : UInt8) (j : Nat) : Br.tb x j = if x.toNat.testBit j then 1 else 0 := by
  unfold Br.tb
  rw [Nat.testBit_eq_decide_div_mod_eq]
  by_cases h : x.toNat / 2 ^ j % 2 = 1
  · simp [h]
  · have : x.toNat / 2 ^ j % 2 = 0 := by omega
    simp [this]
theorem Br.ne_bit (x y : UInt8) (j : Nat) : (if Br.tb x j = Br.tb y j then 0 else 1) = if (x ^^^ y).toNat.testBit j then 1 else 0 := by
  rw [Br.tb_bit, Br.tb_bit, UInt8.toNat_xor, Nat.testBit_xor]
  cases x.toNat.testBit j <;> cases y.toNat.testBit j <;> rfl
theorem Br.ones_is (v : UInt8) : Bk.ones v = (if v.toNat.testBit 7 then 1 else 0) + (if v.toNat.testBit 6 then 1 else 0) + (if v.toNat.testBit 5 then 1 else 0) + (if v.toNat.testBit 4 then 1 else 0) + (if v.toNat.testBit 3 then 1 else 0) + (if v.toNat.testBit 2 then 1 else 0) + (if v.toNat.testBit 1 then 1 else 0) + (if v.toNat.testBit 0 then 1 else 0) := by
  unfold Bk.ones
  rw [show List.range 8 = [0, 1, 2, 3, 4, 5, 6, 7] from rfl]
  generalize v.toNat = n
  simp only [List.filter_cons, List.filter_nil]
  cases n.testBit 0 <;> cases n.testBit 1 <;> cases n.testBit 2 <;> cases n.testBit 3 <;> cases n.testBit 4 <;> cases n.testBit 5 <;> cases n.testBit 6 <;> cases n.testBit 7 <;> rfl
theorem Br.bitAt_eq {l : List UInt8} {x : UInt8} {k j : Nat} (h : l[k]? = some x) (hj : j < 8) : Br.bitAt l (8 * k + j) = Br.tb x (7 - j) := by
  unfold Br.bitAt Br.tb
  rw [show (8 * k + j) / 8 = k by omega, show (8 * k + j) % 8 = j by omega, List.getD_eq_getElem?_getD, h]; rfl
theorem Br.farB_byte {a b : List UInt8} {x y : UInt8} {k : Nat} (ha : a[k]? = some x) (hb : b[k]? = some y) : Br.farB a b (8 * (k + 1)) = Br.farB a b (8 * k) + Bk.ones (x ^^^ y) := by
  have hs : ∀ j, j < 8 → Br.farB a b (8 * k + (j + 1)) = Br.farB a b (8 * k + j) + (if (x ^^^ y).toNat.testBit (7 - j) then 1 else 0) := fun j hj => by
    show Br.farB a b (8 * k + j) + (if Br.bitAt a (8 * k + j) = Br.bitAt b (8 * k + j) then 0 else 1) = _
    rw [Br.bitAt_eq ha hj, Br.bitAt_eq hb hj, Br.ne_bit]
  rw [Br.ones_is, show 8 * (k + 1) = 8 * k + (7 + 1) by omega, hs 7 (by omega), hs 6 (by omega), hs 5 (by omega), hs 4 (by omega), hs 3 (by omega), hs 2 (by omega), hs 1 (by omega), hs 0 (by omega)]
  simp only [Nat.add_zero, Nat.sub_zero, Nat.reduceSub]
  omega
theorem Br.farB_far {a b : List UInt8} (h : a.length = b.length) : ∀ k, k ≤ a.length → Br.farB a b (8 * k) = Bk.far (a.take k) (b.take k)
  | 0, _ => by simp [Br.farB, Bk.far]
  | k + 1, hk => by
    have ha : a[k]? = some a[k] := List.getElem?_eq_getElem (by omega)
    have hb : b[k]? = some b[k] := List.getElem?_eq_getElem (by omega)
    rw [Br.farB_byte ha hb, Br.farB_far h k (by omega), List.take_add_one, List.take_add_one, ha, hb]
    show _ = Bk.far (a.take k ++ [a[k]]) (b.take k ++ [b[k]])
    rw [Bk.far_snoc _ _ _ _ (by rw [List.length_take, List.length_take]; omega)]
theorem Br.farB_all {a b : List UInt8} (h : a.length = b.length) : Br.farB a b (8 * a.length) = Bk.far a b := by
  rw [Br.farB_far h a.length (Nat.le_refl _), List.take_length, h, List.take_length]
set_option maxRecDepth 100000 in
set_option maxHeartbeats 2000000 in
theorem Br.distance_any (a b : ByteArray) (hz : a.size = b.size) (hs : a.size ≤ 1152921504606846975) (W : World) : Calls Tryz.prog 66 #[.string a, .string b] W fun e W' => e = .returned (.tuple #[.int .i64 (Bk.far a.data.toList b.data.toList : Nat), .int .i64 0]) ∧ W = W' := by
  have hall := Br.farB_all (a := a.data.toList) (b := b.data.toList) (by rw [Array.length_toList, Array.length_toList]; exact hz)
  rw [Array.length_toList] at hall
  have hall : Br.farB a.data.toList b.data.toList (8 * a.size) = Bk.far a.data.toList b.data.toList := hall
  obtain ⟨R, hR⟩ : ∃ R, Bk.far a.data.toList b.data.toList = R := ⟨_, rfl⟩
  rw [hR] at hall ⊢
  obtain ⟨n8, hn8⟩ : ∃ n8, 8 * a.size = n8 := ⟨_, rfl⟩
  have e8 : (8 : Int) * (a.size : Int) = (n8 : Int) := by omega
  rw [hn8] at hall
  have u1 : ((a.size : Int) != (b.size : Int)) = false := by rw [hz]; simp
  have HA := Lib.hid (And.intro hall (And.intro hn8 hz))
  have hn9 : n8 ≤ 9223372036854775800 := by omega
  clear hall hn8 hR hz
  go_enter Tryz.func66, Tryz.ntmps66
  go_upto_region 5 with fail
  go_loopg [6, 7] n8 (fun m t i wr => ∃ k : Nat, m + k = n8 ∧ i = .int .i64 (k : Nat) ∧ t = .int .i64 (Br.farB a.data.toList b.data.toList k : Nat) ∧ W = wr)
  case atStart => exact ⟨0, by omega, rfl, rfl, rfl⟩
  case round =>
    obtain ⟨k, hmk, rfl, rfl, rfl⟩ := hrel
    by_cases hkn : k = n8
    · have u2 : decide (k < n8) = false := decide_eq_false (by omega)
      rw [hkn, HA.out.1]
      clear hmk hkn
      go_wp2_with fail
      go_ret2
      exact ⟨rfl, rfl⟩
    · have u2 : decide (k < n8) = true := decide_eq_true (by omega)
      have k1 := Br.bit_any a k (by have := HA.out.2.1; omega) hs W
      have k2 := Br.bit_any b k (by have := HA.out.2; omega) (by have := HA.out.2; omega) W
      have hst : Br.farB a.data.toList b.data.toList (k + 1) = Br.farB a.data.toList b.data.toList k + (if Br.bitAt a.data.toList k = Br.bitAt b.data.toList k then 0 else 1) := rfl
      have hle := Br.farB_le a.data.toList b.data.toList k
      obtain ⟨p1, hp1⟩ : ∃ p1, Br.farB a.data.toList b.data.toList (k + 1) = p1 := ⟨_, rfl⟩
      rw [hp1] at hst
      have HP := Lib.hid hp1
      clear hp1
      generalize Br.farB a.data.toList b.data.toList k = p at *
      generalize Br.bitAt a.data.toList k = x at *
      generalize Br.bitAt b.data.toList k = y at *
      by_cases hxy : x = y
      · subst hxy
        rw [if_pos rfl] at hst
        have HS := Lib.hid hst
        clear hst
        go_wp2_with (first | (go_at_call 89; refine k1.mono ?_; clear k1; rintro e w1 ⟨rfl, rfl⟩) | (go_at_call 89; refine k2.mono ?_; clear k2; rintro e w2 ⟨rfl, rfl⟩))
        go_roundg (gk - 1)
        case measure => omega
        case rel => exact ⟨k + 1, by omega, congrArg (Value.int .i64) (by omega), congrArg (Value.int .i64) (by have := HS.out; rw [HP.out]; omega), rfl⟩
      · have u3 : ((x : Int) != (y : Int)) = true := by rw [bne_iff_ne]; omega
        rw [if_neg hxy] at hst
        have HS := Lib.hid hst
        clear hst
        go_wp2_with (first | (go_at_call 89; refine k1.mono ?_; clear k1; rintro e w1 ⟨rfl, rfl⟩) | (go_at_call 89; refine k2.mono ?_; clear k2; rintro e w2 ⟨rfl, rfl⟩))
        go_roundg (gk - 1)
        case measure => omega
        case rel => exact ⟨k + 1, by omega, congrArg (Value.int .i64) (by omega), congrArg (Value.int .i64) (by have := HS.out; rw [HP.out]; omega), rfl⟩
theorem Br.far_any (a b : ByteArray) (hz : a.size = b.size) (hs : a.size ≤ 1152921504606846975) (W : World) : Calls Tryz.prog 57 #[.string a, .string b] W fun e W' => e = .returned (.int .i64 (Bk.far a.data.toList b.data.toList : Nat)) ∧ W = W' := by
  have kd := Br.distance_any a b hz hs W
  go_enter Tryz.func57, Tryz.ntmps57
  go_wp2_with (go_at_call 66; refine kd.mono ?_; clear kd; rintro e w1 ⟨rfl, rfl⟩)
  go_ret
  exact ⟨rfl, rfl⟩
end Go.Proofs.YtikhahkmebkccaaGreatDoor
