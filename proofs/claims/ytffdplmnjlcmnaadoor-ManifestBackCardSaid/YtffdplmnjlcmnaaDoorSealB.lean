/- Contracts of seal.PutVar and of the document's PutVar: they return the number in bytes of seven bits. Conditions: each theorem's own hypotheses. -/
import Derived.Test.YtffdplmnjlcmnaaDoorSealA
import Derived.Test.YtffdplmnjlcmnaaDoorPv
import Derived.Maps.AppendAt
namespace Go.Proofs.YtffdplmnjlcmnaaDoor
open Go.RowKit

theorem Tryd.info5 : (Tryd.prog.info? 5).map (fun i => (i.zero, i.size, i.bytes)) = some (some (.int .u8 0), 1, 1) := by kernel_rfl

/-- A byte as a value. -/
def bv (c : UInt8) : Value := .int .u8 (c.toNat : Int)
/-- A text of these bytes. -/
def str (l : List UInt8) : Value := .string ⟨l.toArray⟩

theorem own_form {w : World} {base e size n : Nat} {v : Value} {xs : List Value} (h : w.ownsRow base e size v (n + 1) xs) : ∃ g cap, v = .slice (some ⟨g, 0, none⟩) (n + 1) cap := by
  rcases h.2 with ⟨_, h0⟩ | ⟨g, cap, _, h0, _⟩
  · omega
  · exact ⟨g, cap, h0⟩

theorem u8_ofNat (n : Nat) (h : n < 256) : (UInt8.ofNat n).toNat = n := by
  rw [UInt8.toNat_ofNat']; omega

/-- 'string(b)' of an own row of bytes. -/
theorem conv_own {w : World} {base n g cap : Nat} {l : List UInt8} (h : w.ownsRow base 5 1 (.slice (some ⟨g, 0, none⟩) n cap) n (l.map bv)) (hl : l.length = n) :
    (convert 58 9 (.slice (some ⟨g, 0, none⟩) n cap)).run Tryd.prog w = .ok (str l) w := by
  subst hl
  refine run_convert_bytes_back w 58 9 5 ⟨g, 0, none⟩ cap l Tryd.underlying58 Tryd.underlying5 Tryd.underlying9 fun j hj => ?_
  have := h.cellAt j (by omega)
  rw [show (⟨g, 0, none⟩ : Addr).add j = ⟨g, j, none⟩ from by unfold Addr.add; split <;> simp_all, this]
  simp [bv, hj]

theorem or128 (y : Nat) : y % 256 ||| 128 = y % 256 % 128 + 128 := by
  have h := (by decide +kernel : ∀ z, z < 256 → z ||| 128 = z % 128 + 128) (y % 256) (Nat.mod_lt _ (by decide))
  exact h

set_option maxRecDepth 100000 in
set_option maxHeartbeats 800000 in
theorem putVar_any (v : Nat) (w : World) (hv : v < 18446744073709551616) :
    Calls Tryd.prog 46 #[.int .u64 v] w fun e w' => e = .returned (str (Sl.putVar v)) ∧ Below w.heap.size w w' := by
  obtain ⟨i0, hi, hz0, hz1, hz2⟩ := info_parts Tryd.info5
  go_enter Tryd.func46, Tryd.ntmps46
  go_wp2_with fail
  go_loopw [0, 3] (fun a b wr => ∃ (f x : Nat) (l : List UInt8), a = .int .u64 x ∧ l ++ Sl.pvf f x = Sl.putVar v ∧ f ≤ 9 ∧ l.length + f = 9 ∧ x < 2 ^ (1 + 7 * f) ∧ wr.ownsRow w.heap.size 5 1 b l.length (l.map bv) ∧ Below w.heap.size w wr) (fun a _ _ => (intOf a).toNat)
  case atStart => exact ⟨9, v, [], rfl, rfl, by omega, rfl, by omega, World.ownsRow_nil _ _ _ _, Below.refl _ _⟩
  case round =>
    obtain ⟨f, x, l, rfl, hl, hf, hlen, hx, hown, hB⟩ := hrel
    have hx64 : x < 18446744073709551616 := by
      have := Nat.pow_le_pow_right (n := 2) (by decide) (show 1 + 7 * f ≤ 64 by omega)
      have e : (2 : Nat) ^ 64 = 18446744073709551616 := by decide
      omega
    have HX := Lib.hid (And.intro hl (And.intro hlen hx))
    have hl9 : l.length ≤ 9 := by omega
    clear hl hlen hx hv
    have hsz := hB.size
    by_cases hbig : 127 < x
    · obtain ⟨d, hd⟩ : ∃ d, x % 128 + 128 = d := ⟨_, rfl⟩
      have e1 : bits .or .u8 ((x : Int) % 256) 128 = (d : Int) := by
        have h1 : ((x : Int) % 256) = ((x % 256 : Nat) : Int) := by omega
        rw [h1, ← hd]
        have h2 := u8_or_nat (x % 256) 128 (by omega) (by decide)
        rw [or128] at h2
        rw [show x % 256 % 128 = x % 128 from by omega] at h2
        exact h2
      have hdl : d < 256 := by omega
      have Hd := Lib.hid hd
      clear hd
      go_wp2_with (at_builtin; refine wpList_append_own _ rfl _ _ 58 rfl w.heap.size 5 i0 (.int .u8 0) 1 1 Tryd.underlying58 hi hz0 hz1 hz2 rfl (by decide) _ _ _ rfl (hown.alloc _) ⟨wr.heap.size, 0, none⟩ 1 1 [.int .u8 (d : Int)] rfl rfl ?c1 ?c2 ?c3 ?c4 ?c5 ?_)
      case c1 => exact cell_one_new _ _ _
      case c2 => simp [Value.oneCell']
      case c3 => unfold maxLen; omega
      case c4 => omega
      case c5 => simp; omega
      intro v' w1 hown' hgrow _
      have r2 : Below w.heap.size w w1 := (hB.alloc hB.size _).grown hgrow (by simp; omega) (fun q e => (hown.lt q e).1)
      have r1 : w1.ownsRow w.heap.size 5 1 v' (l ++ [UInt8.ofNat d]).length ((l ++ [UInt8.ofNat d]).map bv) := by
        rw [List.map_append, List.length_append]
        simp only [List.map_cons, List.map_nil, List.length_cons, List.length_nil, bv, u8_ofNat d hdl]
        exact hown'
      clear hown' hgrow hown hB
      go_wp2_with fail
      go_roundw
      case rel =>
        obtain ⟨hl, hlen, hx⟩ := HX.out
        obtain ⟨g, rfl⟩ : ∃ g, f = g + 1 := by
          refine ⟨f - 1, ?_⟩
          have : f ≠ 0 := by
            intro e; subst e; simp at hx; omega
          omega
        refine ⟨g, x / 128, l ++ [UInt8.ofNat d], by go_num, ?_, by omega, by simp; omega, ?_, r1, r2⟩
        · rw [← hl, Sl.pvf_big g x (by omega), Hd.out, List.append_assoc]; rfl
        · rw [show 1 + 7 * (g + 1) = (1 + 7 * g) + 7 from by omega, Nat.pow_add] at hx
          exact Nat.div_lt_of_lt_mul (by rw [Nat.mul_comm]; exact hx)
      case measure => simp [intOf]; omega
    · have hdl : x < 256 := by omega
      go_wp2_with (at_builtin; refine wpList_append_own _ rfl _ _ 58 rfl w.heap.size 5 i0 (.int .u8 0) 1 1 Tryd.underlying58 hi hz0 hz1 hz2 rfl (by decide) _ _ _ rfl (hown.alloc _) ⟨wr.heap.size, 0, none⟩ 1 1 [.int .u8 (x : Int)] rfl rfl ?d1 ?d2 ?d3 ?d4 ?d5 ?_)
      case d1 => exact cell_one_new _ _ _
      case d2 => simp [Value.oneCell']
      case d3 => unfold maxLen; omega
      case d4 => omega
      case d5 => simp; omega
      intro v' w1 hown' hgrow _
      have r2 : Below w.heap.size w w1 := (hB.alloc hB.size _).grown hgrow (by simp; omega) (fun q e => (hown.lt q e).1)
      have r1 : w1.ownsRow w.heap.size 5 1 v' (l.length + 1) ((l ++ [UInt8.ofNat x]).map bv) := by
        rw [List.map_append]
        simp only [List.map_cons, List.map_nil, bv, u8_ofNat x hdl]
        exact hown'
      obtain ⟨g, cap, rfl⟩ := own_form r1
      have hcv := conv_own r1 (by simp)
      have hfin : l ++ [UInt8.ofNat x] = Sl.putVar v := by
        obtain ⟨hl, _, _⟩ := HX.out
        rw [← hl, Sl.pvf_small f x (by omega)]
      rw [hfin] at hcv
      clear hown' hgrow hown hB r1 hfin
      go_wp2_with fail
      go_ret
      exact ⟨rfl, r2⟩
set_option maxRecDepth 100000 in
set_option maxHeartbeats 800000 in
theorem refPutVar_any (v : Nat) (w : World) (hv : v < 18446744073709551616) :
    Calls Tryd.prog 50 #[.int .u64 v] w fun e w' => e = .returned (str (Sl.putVar v)) ∧ Below w.heap.size w w' := by
  obtain ⟨i0, hi, hz0, hz1, hz2⟩ := info_parts Tryd.info5
  go_enter Tryd.func50, Tryd.ntmps50
  go_wp2_with fail
  go_loopw [0, 3] (fun a b wr => ∃ (f x : Nat) (l : List UInt8), a = .int .u64 x ∧ l ++ Sl.pvf f x = Sl.putVar v ∧ f ≤ 9 ∧ l.length + f = 9 ∧ x < 2 ^ (1 + 7 * f) ∧ wr.ownsRow w.heap.size 5 1 b l.length (l.map bv) ∧ Below w.heap.size w wr) (fun a _ _ => (intOf a).toNat)
  case atStart => exact ⟨9, v, [], rfl, rfl, by omega, rfl, by omega, World.ownsRow_nil _ _ _ _, Below.refl _ _⟩
  case round =>
    obtain ⟨f, x, l, rfl, hl, hf, hlen, hx, hown, hB⟩ := hrel
    have hx64 : x < 18446744073709551616 := by
      have := Nat.pow_le_pow_right (n := 2) (by decide) (show 1 + 7 * f ≤ 64 by omega)
      have e : (2 : Nat) ^ 64 = 18446744073709551616 := by decide
      omega
    have HX := Lib.hid (And.intro hl (And.intro hlen hx))
    have hl9 : l.length ≤ 9 := by omega
    clear hl hlen hx hv
    have hsz := hB.size
    by_cases hbig : 127 < x
    · obtain ⟨d, hd⟩ : ∃ d, x % 128 + 128 = d := ⟨_, rfl⟩
      have e1 : (128 + (x : Int) % 128) = (d : Int) := by omega
      have hdl : d < 256 := by omega
      have Hd := Lib.hid hd
      clear hd
      go_wp2_with (at_builtin; refine wpList_append_own _ rfl _ _ 58 rfl w.heap.size 5 i0 (.int .u8 0) 1 1 Tryd.underlying58 hi hz0 hz1 hz2 rfl (by decide) _ _ _ rfl (hown.alloc _) ⟨wr.heap.size, 0, none⟩ 1 1 [.int .u8 (d : Int)] rfl rfl ?c1 ?c2 ?c3 ?c4 ?c5 ?_)
      case c1 => exact cell_one_new _ _ _
      case c2 => simp [Value.oneCell']
      case c3 => unfold maxLen; omega
      case c4 => omega
      case c5 => simp; omega
      intro v' w1 hown' hgrow _
      have r2 : Below w.heap.size w w1 := (hB.alloc hB.size _).grown hgrow (by simp; omega) (fun q e => (hown.lt q e).1)
      have r1 : w1.ownsRow w.heap.size 5 1 v' (l ++ [UInt8.ofNat d]).length ((l ++ [UInt8.ofNat d]).map bv) := by
        rw [List.map_append, List.length_append]
        simp only [List.map_cons, List.map_nil, List.length_cons, List.length_nil, bv, u8_ofNat d hdl]
        exact hown'
      clear hown' hgrow hown hB
      go_wp2_with fail
      go_roundw
      case rel =>
        obtain ⟨hl, hlen, hx⟩ := HX.out
        obtain ⟨g, rfl⟩ : ∃ g, f = g + 1 := by
          refine ⟨f - 1, ?_⟩
          have : f ≠ 0 := by
            intro e; subst e; simp at hx; omega
          omega
        refine ⟨g, x / 128, l ++ [UInt8.ofNat d], by go_num, ?_, by omega, by simp; omega, ?_, r1, r2⟩
        · rw [← hl, Sl.pvf_big g x (by omega), Hd.out, List.append_assoc]; rfl
        · rw [show 1 + 7 * (g + 1) = (1 + 7 * g) + 7 from by omega, Nat.pow_add] at hx
          exact Nat.div_lt_of_lt_mul (by rw [Nat.mul_comm]; exact hx)
      case measure => simp [intOf]; omega
    · have hdl : x < 256 := by omega
      go_wp2_with (at_builtin; refine wpList_append_own _ rfl _ _ 58 rfl w.heap.size 5 i0 (.int .u8 0) 1 1 Tryd.underlying58 hi hz0 hz1 hz2 rfl (by decide) _ _ _ rfl (hown.alloc _) ⟨wr.heap.size, 0, none⟩ 1 1 [.int .u8 (x : Int)] rfl rfl ?d1 ?d2 ?d3 ?d4 ?d5 ?_)
      case d1 => exact cell_one_new _ _ _
      case d2 => simp [Value.oneCell']
      case d3 => unfold maxLen; omega
      case d4 => omega
      case d5 => simp; omega
      intro v' w1 hown' hgrow _
      have r2 : Below w.heap.size w w1 := (hB.alloc hB.size _).grown hgrow (by simp; omega) (fun q e => (hown.lt q e).1)
      have r1 : w1.ownsRow w.heap.size 5 1 v' (l.length + 1) ((l ++ [UInt8.ofNat x]).map bv) := by
        rw [List.map_append]
        simp only [List.map_cons, List.map_nil, bv, u8_ofNat x hdl]
        exact hown'
      obtain ⟨g, cap, rfl⟩ := own_form r1
      have hcv := conv_own r1 (by simp)
      have hfin : l ++ [UInt8.ofNat x] = Sl.putVar v := by
        obtain ⟨hl, _, _⟩ := HX.out
        rw [← hl, Sl.pvf_small f x (by omega)]
      rw [hfin] at hcv
      clear hown' hgrow hown hB r1 hfin
      go_wp2_with fail
      go_ret
      exact ⟨rfl, r2⟩
end Go.Proofs.YtffdplmnjlcmnaaDoor
