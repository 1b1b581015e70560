/- Contracts of seal.PutVar and of the document's PutVar: they return the number in bytes of seven bits. Conditions: each theorem's own hypotheses. -/
import Derived.Test.YtifkhjihgnnpfaaGreatDoorSealA
import Derived.Test.YtifkhjihgnnpfaaGreatDoorPv
import Derived.Maps.AppendAt
import Derived.WalkLawsBesides
import Derived.Deep.RegionWith
import Derived.BigQuiet
import Derived.Deep.QuietTactic
namespace Go.Proofs.YtifkhjihgnnpfaaGreatDoor
open Go.RowKit

theorem Tryz.info5 : (Tryz.prog.info? 5).map (fun i => (i.zero, i.size, i.bytes)) = some (some (.int .u8 0), 1, 1) := by kernel_rfl

/-- A byte as a value. -/
def bv (c : UInt8) : Value := .int .u8 (c.toNat : Int)
/-- A text of these bytes. -/
def str (l : List UInt8) : Value := .string ⟨l.toArray⟩

theorem own_form {w : World} {base e size n : Nat} {v : Value} {xs : List Value} (h : w.ownsRow base e size v (n + 1) xs) : ∃ g cap, v = .slice (some ⟨g, 0, none⟩) (n + 1) cap := by
  rcases h.2 with ⟨_, h0⟩ | ⟨g, cap, _, h0, _⟩
  · omega
  · exact ⟨g, cap, h0⟩

theorem u8_ofNat (n : Nat) (h : n < 256) : (UInt8.ofNat n).toNat = n := by
  rw [UInt8.toNat_ofNat']; omega

/-- 'string(b)' of an own row of bytes. -/
theorem conv_own {w : World} {base n g cap : Nat} {l : List UInt8} (h : w.ownsRow base 5 1 (.slice (some ⟨g, 0, none⟩) n cap) n (l.map bv)) (hl : l.length = n) :
    (convert 84 9 (.slice (some ⟨g, 0, none⟩) n cap)).run Tryz.prog w = .ok (str l) w := by
  subst hl
  refine run_convert_bytes_back w 84 9 5 ⟨g, 0, none⟩ cap l Tryz.underlying84 Tryz.underlying5 Tryz.underlying9 fun j hj => ?_
  have := h.cellAt j (by omega)
  rw [show (⟨g, 0, none⟩ : Addr).add j = ⟨g, j, none⟩ from by unfold Addr.add; split <;> simp_all, this]
  simp [bv, hj]

theorem or128 (y : Nat) : y % 256 ||| 128 = y % 256 % 128 + 128 := by
  have h := (by decide +kernel : ∀ z, z < 256 → z ||| 128 = z % 128 + 128) (y % 256) (Nat.mod_lt _ (by decide))
  exact h

set_option maxRecDepth 100000 in
set_option maxHeartbeats 800000 in
theorem putVar_any (v : Nat) (w : World) (hv : v < 18446744073709551616) :
    Calls Tryz.prog 97 #[.int .u64 v] w fun e w' => e = .returned (str (Sl.putVar v)) ∧ Below w.heap.size w w' := by
  obtain ⟨i0, hi, hz0, hz1, hz2⟩ := info_parts Tryz.info5
  go_enter Tryz.func97, Tryz.ntmps97
  go_wp2_with fail
  go_loopw [0, 3] (fun a b wr => ∃ (f x : Nat) (l : List UInt8), a = .int .u64 x ∧ l ++ Sl.pvf f x = Sl.putVar v ∧ f ≤ 9 ∧ l.length + f = 9 ∧ x < 2 ^ (1 + 7 * f) ∧ wr.ownsRow w.heap.size 5 1 b l.length (l.map bv) ∧ Below w.heap.size w wr) (fun a _ _ => (intOf a).toNat)
  case atStart => exact ⟨9, v, [], rfl, rfl, by omega, rfl, by omega, World.ownsRow_nil _ _ _ _, Below.refl _ _⟩
  case round =>
    obtain ⟨f, x, l, rfl, hl, hf, hlen, hx, hown, hB⟩ := hrel
    have hx64 : x < 18446744073709551616 := by
      have := Nat.pow_le_pow_right (n := 2) (by decide) (show 1 + 7 * f ≤ 64 by omega)
      have e : (2 : Nat) ^ 64 = 18446744073709551616 := by decide
      omega
    have HX := Lib.hid (And.intro hl (And.intro hlen hx))
    have hl9 : l.length ≤ 9 := by omega
    clear hl hlen hx hv
    have hsz := hB.size
    by_cases hbig : 127 < x
    · obtain ⟨d, hd⟩ : ∃ d, x % 128 + 128 = d := ⟨_, rfl⟩
      have e1 : bits .or .u8 ((x : Int) % 256) 128 = (d : Int) := by
        have h1 : ((x : Int) % 256) = ((x % 256 : Nat) : Int) := by omega
        rw [h1, ← hd]
        have h2 := u8_or_nat (x % 256) 128 (by omega) (by decide)
        rw [or128] at h2
        rw [show x % 256 % 128 = x % 128 from by omega] at h2
        exact h2
      have hdl : d < 256 := by omega
      have Hd := Lib.hid hd
      clear hd
      go_wp2_with (at_builtin; refine wpList_append_own _ rfl _ _ 84 rfl w.heap.size 5 i0 (.int .u8 0) 1 1 Tryz.underlying84 hi hz0 hz1 hz2 rfl (by decide) _ _ _ rfl (hown.alloc _) ⟨wr.heap.size, 0, none⟩ 1 1 [.int .u8 (d : Int)] rfl rfl ?c1 ?c2 ?c3 ?c4 ?c5 ?_)
      case c1 => exact cell_one_new _ _ _
      case c2 => simp [Value.oneCell']
      case c3 => unfold maxLen; omega
      case c4 => omega
      case c5 => simp; omega
      intro v' w1 hown' hgrow _
      have r2 : Below w.heap.size w w1 := (hB.alloc hB.size _).grown hgrow (by simp; omega) (fun q e => (hown.lt q e).1)
      have r1 : w1.ownsRow w.heap.size 5 1 v' (l ++ [UInt8.ofNat d]).length ((l ++ [UInt8.ofNat d]).map bv) := by
        rw [List.map_append, List.length_append]
        simp only [List.map_cons, List.map_nil, List.length_cons, List.length_nil, bv, u8_ofNat d hdl]
        exact hown'
      clear hown' hgrow hown hB
      go_wp2_with fail
      go_roundw
      case rel =>
        obtain ⟨hl, hlen, hx⟩ := HX.out
        obtain ⟨g, rfl⟩ : ∃ g, f = g + 1 := by
          refine ⟨f - 1, ?_⟩
          have : f ≠ 0 := by
            intro e; subst e; simp at hx; omega
          omega
        refine ⟨g, x / 128, l ++ [UInt8.ofNat d], by go_num, ?_, by omega, by simp; omega, ?_, r1, r2⟩
        · rw [← hl, Sl.pvf_big g x (by omega), Hd.out, List.append_assoc]; rfl
        · rw [show 1 + 7 * (g + 1) = (1 + 7 * g) + 7 from by omega, Nat.pow_add] at hx
          exact Nat.div_lt_of_lt_mul (by rw [Nat.mul_comm]; exact hx)
      case measure => simp [intOf]; omega
    · have hdl : x < 256 := by omega
      go_wp2_with (at_builtin; refine wpList_append_own _ rfl _ _ 84 rfl w.heap.size 5 i0 (.int .u8 0) 1 1 Tryz.underlying84 hi hz0 hz1 hz2 rfl (by decide) _ _ _ rfl (hown.alloc _) ⟨wr.heap.size, 0, none⟩ 1 1 [.int .u8 (x : Int)] rfl rfl ?d1 ?d2 ?d3 ?d4 ?d5 ?_)
      case d1 => exact cell_one_new _ _ _
      case d2 => simp [Value.oneCell']
      case d3 => unfold maxLen; omega
      case d4 => omega
      case d5 => simp; omega
      intro v' w1 hown' hgrow _
      have r2 : Below w.heap.size w w1 := (hB.alloc hB.size _).grown hgrow (by simp; omega) (fun q e => (hown.lt q e).1)
      have r1 : w1.ownsRow w.heap.size 5 1 v' (l.length + 1) ((l ++ [UInt8.ofNat x]).map bv) := by
        rw [List.map_append]
        simp only [List.map_cons, List.map_nil, bv, u8_ofNat x hdl]
        exact hown'
      obtain ⟨g, cap, rfl⟩ := own_form r1
      have hcv := conv_own r1 (by simp)
      have hfin : l ++ [UInt8.ofNat x] = Sl.putVar v := by
        obtain ⟨hl, _, _⟩ := HX.out
        rw [← hl, Sl.pvf_small f x (by omega)]
      rw [hfin] at hcv
      clear hown' hgrow hown hB r1 hfin
      go_wp2_with fail
      go_ret
      exact ⟨rfl, r2⟩
set_option maxRecDepth 100000 in
set_option maxHeartbeats 800000 in
theorem refPutVar_any (v : Nat) (w : World) (hv : v < 18446744073709551616) :
    Calls Tryz.prog 85 #[.int .u64 v] w fun e w' => e = .returned (str (Sl.putVar v)) ∧ Below w.heap.size w w' := by
  obtain ⟨i0, hi, hz0, hz1, hz2⟩ := info_parts Tryz.info5
  go_enter Tryz.func85, Tryz.ntmps85
  go_wp2_with fail
  go_loopw [0, 3] (fun a b wr => ∃ (f x : Nat) (l : List UInt8), a = .int .u64 x ∧ l ++ Sl.pvf f x = Sl.putVar v ∧ f ≤ 9 ∧ l.length + f = 9 ∧ x < 2 ^ (1 + 7 * f) ∧ wr.ownsRow w.heap.size 5 1 b l.length (l.map bv) ∧ Below w.heap.size w wr) (fun a _ _ => (intOf a).toNat)
  case atStart => exact ⟨9, v, [], rfl, rfl, by omega, rfl, by omega, World.ownsRow_nil _ _ _ _, Below.refl _ _⟩
  case round =>
    obtain ⟨f, x, l, rfl, hl, hf, hlen, hx, hown, hB⟩ := hrel
    have hx64 : x < 18446744073709551616 := by
      have := Nat.pow_le_pow_right (n := 2) (by decide) (show 1 + 7 * f ≤ 64 by omega)
      have e : (2 : Nat) ^ 64 = 18446744073709551616 := by decide
      omega
    have HX := Lib.hid (And.intro hl (And.intro hlen hx))
    have hl9 : l.length ≤ 9 := by omega
    clear hl hlen hx hv
    have hsz := hB.size
    by_cases hbig : 127 < x
    · obtain ⟨d, hd⟩ : ∃ d, x % 128 + 128 = d := ⟨_, rfl⟩
      have e1 : (128 + (x : Int) % 128) = (d : Int) := by omega
      have hdl : d < 256 := by omega
      have Hd := Lib.hid hd
      clear hd
      go_wp2_with (at_builtin; refine wpList_append_own _ rfl _ _ 84 rfl w.heap.size 5 i0 (.int .u8 0) 1 1 Tryz.underlying84 hi hz0 hz1 hz2 rfl (by decide) _ _ _ rfl (hown.alloc _) ⟨wr.heap.size, 0, none⟩ 1 1 [.int .u8 (d : Int)] rfl rfl ?c1 ?c2 ?c3 ?c4 ?c5 ?_)
      case c1 => exact cell_one_new _ _ _
      case c2 => simp [Value.oneCell']
      case c3 => unfold maxLen; omega
      case c4 => omega
      case c5 => simp; omega
      intro v' w1 hown' hgrow _
      have r2 : Below w.heap.size w w1 := (hB.alloc hB.size _).grown hgrow (by simp; omega) (fun q e => (hown.lt q e).1)
      have r1 : w1.ownsRow w.heap.size 5 1 v' (l ++ [UInt8.ofNat d]).length ((l ++ [UInt8.ofNat d]).map bv) := by
        rw [List.map_append, List.length_append]
        simp only [List.map_cons, List.map_nil, List.length_cons, List.length_nil, bv, u8_ofNat d hdl]
        exact hown'
      clear hown' hgrow hown hB
      go_wp2_with fail
      go_roundw
      case rel =>
        obtain ⟨hl, hlen, hx⟩ := HX.out
        obtain ⟨g, rfl⟩ : ∃ g, f = g + 1 := by
          refine ⟨f - 1, ?_⟩
          have : f ≠ 0 := by
            intro e; subst e; simp at hx; omega
          omega
        refine ⟨g, x / 128, l ++ [UInt8.ofNat d], by go_num, ?_, by omega, by simp; omega, ?_, r1, r2⟩
        · rw [← hl, Sl.pvf_big g x (by omega), Hd.out, List.append_assoc]; rfl
        · rw [show 1 + 7 * (g + 1) = (1 + 7 * g) + 7 from by omega, Nat.pow_add] at hx
          exact Nat.div_lt_of_lt_mul (by rw [Nat.mul_comm]; exact hx)
      case measure => simp [intOf]; omega
    · have hdl : x < 256 := by omega
      go_wp2_with (at_builtin; refine wpList_append_own _ rfl _ _ 84 rfl w.heap.size 5 i0 (.int .u8 0) 1 1 Tryz.underlying84 hi hz0 hz1 hz2 rfl (by decide) _ _ _ rfl (hown.alloc _) ⟨wr.heap.size, 0, none⟩ 1 1 [.int .u8 (x : Int)] rfl rfl ?d1 ?d2 ?d3 ?d4 ?d5 ?_)
      case d1 => exact cell_one_new _ _ _
      case d2 => simp [Value.oneCell']
      case d3 => unfold maxLen; omega
      case d4 => omega
      case d5 => simp; omega
      intro v' w1 hown' hgrow _
      have r2 : Below w.heap.size w w1 := (hB.alloc hB.size _).grown hgrow (by simp; omega) (fun q e => (hown.lt q e).1)
      have r1 : w1.ownsRow w.heap.size 5 1 v' (l.length + 1) ((l ++ [UInt8.ofNat x]).map bv) := by
        rw [List.map_append]
        simp only [List.map_cons, List.map_nil, bv, u8_ofNat x hdl]
        exact hown'
      obtain ⟨g, cap, rfl⟩ := own_form r1
      have hcv := conv_own r1 (by simp)
      have hfin : l ++ [UInt8.ofNat x] = Sl.putVar v := by
        obtain ⟨hl, _, _⟩ := HX.out
        rw [← hl, Sl.pvf_small f x (by omega)]
      rw [hfin] at hcv
      clear hown' hgrow hown hB r1 hfin
      go_wp2_with fail
      go_ret
      exact ⟨rfl, r2⟩
end Go.Proofs.YtifkhjihgnnpfaaGreatDoor
/- Contracts of seal.Var and of the document's Var: reading a number in bytes of seven bits. Conditions: each theorem's own hypotheses. -/
namespace Go.Proofs.YtifkhjihgnnpfaaGreatDoor
open Go.RowKit

/-- What reading at a place returns. -/
def varV (at' : Nat) (R : Sl.Got) : Value := .tuple #[.int .u64 (R.val : Int), .int .i64 ((if R.code = 0 then at' + R.len else 0 : Nat) : Int), .int .i64 (R.code : Int)]

theorem drop_cons (s : ByteArray) (k : Nat) (h : k < s.size) : s.data.toList.drop k = s[k] :: s.data.toList.drop (k + 1) := by
  rw [List.drop_eq_getElem_cons (by simpa using h)]; rfl

theorem drop_nil (s : ByteArray) (k : Nat) (h : s.size ≤ k) : s.data.toList.drop k = [] := List.drop_eq_nil_of_le (by simpa using h)

theorem var_stop {i v : Nat} {f : Nat} {R : Sl.Got} (h : Sl.varAt (f + 1) i v [] = R) : R = ⟨31, 0, 0⟩ := h.symm

theorem var_over {f i v : Nat} {c : UInt8} {l : List UInt8} {R : Sl.Got} (h : Sl.varAt (f + 1) i v (c :: l) = R) (h9 : i = 9) (hc : 1 < c.toNat) : R = ⟨30, 0, 0⟩ := by
  rw [← h, Sl.varAt, if_pos ⟨h9, hc⟩]
theorem var_form {f i v : Nat} {c : UInt8} {l : List UInt8} {R : Sl.Got} (h : Sl.varAt (f + 1) i v (c :: l) = R) (hc : c.toNat = 0) (hi : 0 < i) : R = ⟨32, 0, 0⟩ := by
  rw [← h, Sl.varAt, if_neg (by omega), if_pos (by omega), if_pos ⟨hc, hi⟩]
theorem var_end {f i v : Nat} {c : UInt8} {l : List UInt8} {R : Sl.Got} (h : Sl.varAt (f + 1) i v (c :: l) = R) (h9 : i = 9 → c.toNat ≤ 1) (hc : c.toNat < 128) (h0 : c.toNat = 0 → i = 0) :
    R = ⟨0, v + c.toNat % 128 * 2 ^ (7 * i), i + 1⟩ := by
  rw [← h, Sl.varAt, if_neg (by intro ⟨a, b⟩; have := h9 a; omega), if_pos hc, if_neg (by intro ⟨a, b⟩; have := h0 a; omega)]
theorem var_next {f i v : Nat} {c : UInt8} {l : List UInt8} {R : Sl.Got} (h : Sl.varAt (f + 1) i v (c :: l) = R) (h9 : i = 9 → c.toNat ≤ 1) (hc : 128 ≤ c.toNat) :
    Sl.varAt f (i + 1) (v + c.toNat % 128 * 2 ^ (7 * i)) l = R := by
  rw [Sl.varAt, if_neg (by intro ⟨a, b⟩; have := h9 a; omega), if_neg (by omega)] at h
  exact h

theorem shl_fits {i d v : Nat} (hi : i ≤ 9) (hd : d < 128) (h9 : i = 9 → d ≤ 1) (hv : v < 2 ^ (7 * i)) :
    d * 2 ^ (7 * i) < 18446744073709551616 ∧ v + d * 2 ^ (7 * i) < 18446744073709551616 ∧ (v ||| d * 2 ^ (7 * i)) = v + d * 2 ^ (7 * i) ∧ (i < 9 → v + d * 2 ^ (7 * i) < 2 ^ (7 * (i + 1))) := by
  have hp := Nat.two_pow_pos (7 * i)
  have hor : (v ||| d * 2 ^ (7 * i)) = v + d * 2 ^ (7 * i) := by
    rw [Nat.or_comm, nat_join (7 * i) _ v (Nat.mul_mod_left _ _) hv, Nat.add_comm]
  by_cases h : i = 9
  · have hd1 := h9 h
    subst h
    have e : (2 : Nat) ^ (7 * 9) = 9223372036854775808 := by decide
    rw [e] at *
    refine ⟨by omega, by omega, hor, fun h => by omega⟩
  · have h1 : d * 2 ^ (7 * i) ≤ 127 * 2 ^ (7 * i) := Nat.mul_le_mul_right _ (by omega)
    have h2 := Nat.pow_le_pow_right (n := 2) (by decide) (show 7 * i ≤ 56 by omega)
    have e : (2 : Nat) ^ 56 = 72057594037927936 := by decide
    refine ⟨by omega, by omega, hor, fun _ => ?_⟩
    rw [show 7 * (i + 1) = 7 * i + 7 from by omega, Nat.pow_add]
    omega

theorem wrap_nat (a b : Nat) (h : a = b) (hb : b < 18446744073709551616) (n : Int) (hn : n = (a : Int)) : IntKind.u64.wrap n = (b : Int) := by
  subst h; subst hn
  rw [IntKind.wrap_u64]; omega

theorem var_bad (s : ByteArray) (k : Int) (w : World) (h : k < 0 ∨ (s.size : Int) < k) :
    Calls Tryz.prog 89 #[.string s, .int .i64 k] w fun e w' => e = .returned (.tuple #[.int .u64 0, .int .i64 0, .int .i64 13]) ∧ w = w' := by
  by_cases h1 : k < 0
  · go_enter Tryz.func89, Tryz.ntmps89
    go_wp2_with fail
    go_ret3
    exact ⟨rfl, rfl⟩
  · have h2 : (s.size : Int) < k := by omega
    clear h
    go_enter Tryz.func89, Tryz.ntmps89
    go_wp2_with fail
    go_ret3
    exact ⟨rfl, rfl⟩

set_option maxRecDepth 100000 in
set_option maxHeartbeats 1000000 in
theorem var_any (s : ByteArray) (k : Nat) (R : Sl.Got) (w : World) (hs : s.size ≤ 9223372036854775807) (hk : k ≤ s.size) (hR : Sl.var (s.data.toList.drop k) = R) :
    Calls Tryz.prog 89 #[.string s, .int .i64 k] w fun e w' => e = .returned (varV k R) ∧ w = w' := by
  have hd1 : decide ((k : Int) < 0) = false := by simp
  have hd2 : decide (s.size < k) = false := by simp; omega
  have HR := Lib.hid hR
  clear hR
  go_enter Tryz.func89, Tryz.ntmps89
  go_wp2_with fail
  go_loop [7, 8, 9] (fun a j _ => ∃ (i v : Nat), a = .int .u64 v ∧ j = .int .i64 i ∧ i ≤ 9 ∧ k + i ≤ s.size ∧ v < 2 ^ (7 * i) ∧ Sl.varAt (10 - i) i v (s.data.toList.drop (k + i)) = R) (fun _ j _ => 10 - (intOf j).toNat)
  case atStart => exact ⟨0, 0, rfl, rfl, by omega, hk, by simp, HR.out⟩
  case round =>
    obtain ⟨i, v, rfl, rfl, hi, hki, hv, hr⟩ := hrel
    obtain ⟨f, hf⟩ : ∃ f, 10 - i = f + 1 := ⟨9 - i, by omega⟩
    rw [hf] at hr
    by_cases hlen : k + i < s.size
    · rw [drop_cons s _ hlen] at hr
      obtain ⟨c, hc⟩ : ∃ c, s[k + i] = c := ⟨_, rfl⟩
      have hcl : c.toNat < 256 := c.toNat_lt
      have hby : s[k + i].toNat = c.toNat := by rw [hc]
      rw [hc] at hr
      by_cases h9 : i = 9 ∧ 1 < c.toNat
      · obtain rfl := var_over hr h9.1 h9.2
        obtain ⟨rfl, h9'⟩ := h9
        clear hr hf hc
        go_wp2_with fail
        go_ret3
        exact ⟨rfl, rfl⟩
      · have h9' : i = 9 → c.toNat ≤ 1 := by omega
        obtain ⟨d, hd⟩ : ∃ d, c.toNat % 128 = d := ⟨_, rfl⟩
        have e1 : bits .and .u8 (c.toNat : Int) 127 = (d : Int) := by rw [← hd, ← nat_mask7]; exact u8_and_nat c.toNat 127 hcl (by decide)
        have hdl : d < 128 := by omega
        obtain ⟨s1, s2, s3, s4⟩ := shl_fits hi hdl (by omega) hv
        obtain ⟨D, hD⟩ : ∃ D, d * 2 ^ (7 * i) = D := ⟨_, rfl⟩
        rw [hD] at s1 s2 s3 s4
        have e2 : IntKind.u64.wrap ((d : Int) * 2 ^ (7 * i)) = (D : Int) := wrap_nat D D rfl s1 _ (by rw [← hD]; simp)
        have e3 : bits .or .u64 (v : Int) (D : Int) = ((v : Int) + D) := by
          rw [← Int.natCast_add, ← s3]; exact u64_or_nat v D (by omega) s1
        have hr9 : i = 9 → c.toNat ≤ 1 := h9'
        have h9c : ((i : Int) == 9) = false ∨ (((i : Int) == 9) = true ∧ c.toNat ≤ 1) := by
          by_cases h : i = 9
          · exact .inr ⟨by simp; omega, h9' h⟩
          · exact .inl (by simp; omega)
        have H9 := Lib.hid hr9
        have Hr := Lib.hid hr
        have Hf := Lib.hid hf
        have Hd := Lib.hid hd
        have HD := Lib.hid hD
        have S4 := Lib.hid s4
        clear hr9 h9' h9 hr hf hd hD s4 s3 hc hv
        rcases h9c with h9f | ⟨h9f, hc1⟩
        all_goals
          by_cases hc128 : c.toNat < 128
          · by_cases hc0 : c.toNat = 0
            · have b0 : ((c.toNat : Int) == 0) = true := by simp; omega
              have Hc0 := Lib.hid hc0
              clear hc0
              by_cases hi0 : 0 < i
              · obtain rfl := var_form Hr.out Hc0.out hi0
                go_wp2_with fail
                go_ret3
                exact ⟨rfl, rfl⟩
              · obtain rfl := var_end Hr.out H9.out hc128 (fun _ => by omega)
                have hi0' : decide ((0 : Int) < (i : Int)) = false := by simp; omega
                go_wp2_with fail
                go_ret3
                exact ⟨by rw [varV, Hd.out, HD.out]; simp [Int.add_assoc], rfl⟩
            · have b0 : ((c.toNat : Int) == 0) = false := by simp; omega
              obtain rfl := var_end Hr.out H9.out hc128 (fun h => absurd h hc0)
              go_wp2_with fail
              go_ret3
              exact ⟨by rw [varV, Hd.out, HD.out]; simp [Int.add_assoc], rfl⟩
          · first
            | (exfalso; omega)
            | (have hi9 : i < 9 := by
                 have : ¬ i = 9 := by intro e; subst e; simp at h9f
                 omega
               go_wp2_with fail
               go_round
               case rel =>
                 refine ⟨i + 1, v + D, by go_num, by go_num, by omega, by omega, S4.out hi9, ?_⟩
                 have h := var_next Hr.out H9.out (by omega)
                 rw [Hd.out, HD.out] at h
                 rw [show 10 - (i + 1) = f from by have := Hf.out; omega]
                 exact h
               case measure => simp [intOf]; omega)
    · have h2 : s.size ≤ k + i := by omega
      rw [drop_nil s _ h2] at hr
      obtain rfl := var_stop hr
      clear hr hf
      go_wp2_with fail
      go_ret3
      exact ⟨rfl, rfl⟩
theorem refVar_bad (s : ByteArray) (k : Int) (w : World) (h : k < 0 ∨ (s.size : Int) < k) :
    Calls Tryz.prog 112 #[.string s, .int .i64 k] w fun e w' => e = .returned (.tuple #[.int .u64 0, .int .i64 0, .int .i64 13]) ∧ w = w' := by
  by_cases h1 : k < 0
  · go_enter Tryz.func112, Tryz.ntmps112
    go_wp2_with fail
    go_ret3
    exact ⟨rfl, rfl⟩
  · have h2 : (s.size : Int) < k := by omega
    clear h
    go_enter Tryz.func112, Tryz.ntmps112
    go_wp2_with fail
    go_ret3
    exact ⟨rfl, rfl⟩

set_option maxRecDepth 100000 in
set_option maxHeartbeats 1000000 in
theorem refVar_any (s : ByteArray) (k : Nat) (R : Sl.Got) (w : World) (hs : s.size ≤ 9223372036854775807) (hk : k ≤ s.size) (hR : Sl.var (s.data.toList.drop k) = R) :
    Calls Tryz.prog 112 #[.string s, .int .i64 k] w fun e w' => e = .returned (varV k R) ∧ w = w' := by
  have hd1 : decide ((k : Int) < 0) = false := by simp
  have hd2 : decide (s.size < k) = false := by simp; omega
  have HR := Lib.hid hR
  clear hR
  go_enter Tryz.func112, Tryz.ntmps112
  go_wp2_with fail
  go_loop [7, 8, 9] (fun a j _ => ∃ (i v : Nat), a = .int .u64 v ∧ j = .int .i64 i ∧ i ≤ 9 ∧ k + i ≤ s.size ∧ v < 2 ^ (7 * i) ∧ Sl.varAt (10 - i) i v (s.data.toList.drop (k + i)) = R) (fun _ j _ => 10 - (intOf j).toNat)
  case atStart => exact ⟨0, 0, rfl, rfl, by omega, hk, by simp, HR.out⟩
  case round =>
    obtain ⟨i, v, rfl, rfl, hi, hki, hv, hr⟩ := hrel
    obtain ⟨f, hf⟩ : ∃ f, 10 - i = f + 1 := ⟨9 - i, by omega⟩
    rw [hf] at hr
    by_cases hlen : k + i < s.size
    · rw [drop_cons s _ hlen] at hr
      obtain ⟨c, hc⟩ : ∃ c, s[k + i] = c := ⟨_, rfl⟩
      have hcl : c.toNat < 256 := c.toNat_lt
      have hby : s[k + i].toNat = c.toNat := by rw [hc]
      rw [hc] at hr
      by_cases h9 : i = 9 ∧ 1 < c.toNat
      · obtain rfl := var_over hr h9.1 h9.2
        obtain ⟨rfl, h9'⟩ := h9
        clear hr hf hc
        go_wp2_with fail
        go_ret3
        exact ⟨rfl, rfl⟩
      · have h9' : i = 9 → c.toNat ≤ 1 := by omega
        obtain ⟨d, hd⟩ : ∃ d, c.toNat % 128 = d := ⟨_, rfl⟩
        have e1 : (c.toNat : Int) % 128 = (d : Int) := by omega
        have hdl : d < 128 := by omega
        obtain ⟨s1, s2, s3, s4⟩ := shl_fits hi hdl (by omega) hv
        obtain ⟨D, hD⟩ : ∃ D, d * 2 ^ (7 * i) = D := ⟨_, rfl⟩
        rw [hD] at s1 s2 s3 s4
        have e2 : IntKind.u64.wrap ((d : Int) * 2 ^ (7 * i)) = (D : Int) := wrap_nat D D rfl s1 _ (by rw [← hD]; simp)
        have e3 : IntKind.u64.wrap ((v : Int) + D) = ((v : Int) + D) := by rw [← Int.natCast_add]; exact wrap_nat (v + D) _ rfl s2 _ rfl
        have hr9 : i = 9 → c.toNat ≤ 1 := h9'
        have h9c : ((i : Int) == 9) = false ∨ (((i : Int) == 9) = true ∧ c.toNat ≤ 1) := by
          by_cases h : i = 9
          · exact .inr ⟨by simp; omega, h9' h⟩
          · exact .inl (by simp; omega)
        have H9 := Lib.hid hr9
        have Hr := Lib.hid hr
        have Hf := Lib.hid hf
        have Hd := Lib.hid hd
        have HD := Lib.hid hD
        have S4 := Lib.hid s4
        clear hr9 h9' h9 hr hf hd hD s4 s3 hc hv
        rcases h9c with h9f | ⟨h9f, hc1⟩
        all_goals
          by_cases hc128 : c.toNat < 128
          · by_cases hc0 : c.toNat = 0
            · have b0 : ((c.toNat : Int) == 0) = true := by simp; omega
              have Hc0 := Lib.hid hc0
              clear hc0
              by_cases hi0 : 0 < i
              · obtain rfl := var_form Hr.out Hc0.out hi0
                go_wp2_with fail
                go_ret3
                exact ⟨rfl, rfl⟩
              · obtain rfl := var_end Hr.out H9.out hc128 (fun _ => by omega)
                have hi0' : decide ((0 : Int) < (i : Int)) = false := by simp; omega
                go_wp2_with fail
                go_ret3
                exact ⟨by rw [varV, Hd.out, HD.out]; simp [Int.add_assoc], rfl⟩
            · have b0 : ((c.toNat : Int) == 0) = false := by simp; omega
              obtain rfl := var_end Hr.out H9.out hc128 (fun h => absurd h hc0)
              go_wp2_with fail
              go_ret3
              exact ⟨by rw [varV, Hd.out, HD.out]; simp [Int.add_assoc], rfl⟩
          · first
            | (exfalso; omega)
            | (have hi9 : i < 9 := by
                 have : ¬ i = 9 := by intro e; subst e; simp at h9f
                 omega
               go_wp2_with fail
               go_round
               case rel =>
                 refine ⟨i + 1, v + D, by go_num, by go_num, by omega, by omega, S4.out hi9, ?_⟩
                 have h := var_next Hr.out H9.out (by omega)
                 rw [Hd.out, HD.out] at h
                 rw [show 10 - (i + 1) = f from by have := Hf.out; omega]
                 exact h
               case measure => simp [intOf]; omega)
    · have h2 : s.size ≤ k + i := by omega
      rw [drop_nil s _ h2] at hr
      obtain rfl := var_stop hr
      clear hr hf
      go_wp2_with fail
      go_ret3
      exact ⟨rfl, rfl⟩
end Go.Proofs.YtifkhjihgnnpfaaGreatDoor
/- Contracts of seal.PutFix, seal.summed and of the document's fixed, summed: numbers and sums as bytes. Conditions: each theorem's own hypotheses. -/
namespace Go.Proofs.YtifkhjihgnnpfaaGreatDoor
open Go.RowKit

theorem be_get : ∀ n v i, i < n → (Sl.be n v)[i]? = some (UInt8.ofNat (v / 256 ^ (n - 1 - i) % 256))
  | 0, v, i, h => by omega
  | n + 1, v, i, h => by
    rw [Sl.be]
    cases i with
    | zero => simp
    | succ i =>
      rw [List.getElem?_cons_succ, be_get n v i (by omega), show n + 1 - 1 - (i + 1) = n - 1 - i from by omega]

/-- the first i bytes laid, noughts behind. -/
def partly (l : List UInt8) (n i : Nat) : List Value := (l.take i).map bv ++ List.replicate (n - i) (.int .u8 0)

theorem partly_set (l : List UInt8) (n i : Nat) (c : UInt8) (hl : l.length = n) (hi : i < n) (hc : l[i]? = some c) :
    (partly l n i).set i (bv c) = partly l n (i + 1) := by
  unfold partly
  have h1 : ((l.take i).map bv).length = i := by simp; omega
  rw [List.set_append_right _ _ (by omega), h1, Nat.sub_self, show n - i = (n - (i + 1)) + 1 from by omega, List.replicate_succ, List.set_cons_zero]
  have h2 : l.take (i + 1) = l.take i ++ [c] := by
    rw [List.take_add_one, hc]; rfl
  rw [h2, List.map_append, List.append_assoc]
  rfl

theorem partly_full (l : List UInt8) (n : Nat) (hl : l.length = n) : partly l n n = l.map bv := by
  unfold partly
  rw [Nat.sub_self, List.take_of_length_le (by omega)]
  simp

theorem partly_none (l : List UInt8) (n : Nat) : partly l n 0 = List.replicate n (.int .u8 0) := by
  unfold partly; simp

set_option maxRecDepth 100000 in
set_option maxHeartbeats 1000000 in
theorem putFix_any (v n : Nat) (w : World) (hn : 1 ≤ n) (hn2 : n < 8) (hv : v < 256 ^ n) :
    Calls Tryz.prog 113 #[.int .u64 v, .int .i64 n] w fun e w' => e = .returned (.tuple #[str (Sl.be n v), .int .i64 0]) ∧ Below w.heap.size w w' := by
  obtain ⟨i0, hi, hz0, hz1, hz2⟩ := info_parts Tryz.info5
  have hv64 : v < 18446744073709551616 := by
    have := Nat.pow_le_pow_right (n := 256) (by decide) (show n ≤ 7 by omega)
    have e : (256 : Nat) ^ 7 = 72057594037927936 := by decide
    omega
  have hq : (v : Int) / 2 ^ (8 * n) = 0 := by
    have h1 : (256 : Nat) ^ n = 2 ^ (8 * n) := by rw [show (256 : Nat) = 2 ^ 8 from rfl, ← Nat.pow_mul]
    have h2 : ((v : Int)) / 2 ^ (8 * n) = ((v / 2 ^ (8 * n) : Nat) : Int) := by simp
    rw [h2, ← h1, Nat.div_eq_of_lt hv]; rfl
  have hd1 : decide ((n : Int) < 1) = false := by simp; omega
  have hd2 : decide ((8 : Int) < (n : Int)) = false := by simp; omega
  have Hq := Lib.hid hq
  have Hv := Lib.hid hv
  have hlen := Sl.be_len n v
  have Hl := Lib.hid hlen
  clear hv hlen
  go_enter Tryz.func113, Tryz.ntmps113
  go_wp2_with (at_make; refine wpList_make_full _ rfl _ _ 84 rfl w.heap.size 5 i0 (.int .u8 0) 1 Tryz.underlying84 hi hz0 hz1 .i64 .i64 (n : Int) (n : Int) n rfl rfl rfl rfl ?b1 ?b2 ?b3 ?_)
  case b1 => rw [hz2]; omega
  case b2 => unfold maxLen; omega
  case b3 => exact Nat.le_refl _
  intro w1 hown hgrow
  have hB : Below w.heap.size w w1 := (Below.refl _ _).grown hgrow (Nat.le_refl _) (fun k h => by cases h)
  have hown0 : w1.ownsRow w.heap.size 5 1 (.slice (some ⟨w.heap.size, 0, none⟩) n n) n (partly (Sl.be n v) n 0) := by
    rw [partly_none]
    rw [toList_madeCells_one] at hown
    exact hown
  clear hown hgrow hq
  have hsz := hB.size
  go_wp2_with fail
  go_loopw [27] (fun j wr => ∃ i : Nat, i ≤ n ∧ j = .int .i64 i ∧ wr.ownsRow w.heap.size 5 1 (.slice (some ⟨w.heap.size, 0, none⟩) n n) n (partly (Sl.be n v) n i) ∧ Below w.heap.size w wr) (fun j _ => n - (intOf j).toNat)
  case atStart => exact ⟨0, by omega, rfl, hown0, hB⟩
  case round =>
    obtain ⟨i, hin, rfl, hown, hB'⟩ := hrel
    by_cases hlt : i < n
    · have hc := be_get n v i hlt
      obtain ⟨b, hb⟩ : ∃ b, v / 256 ^ (n - 1 - i) % 256 = b := ⟨_, rfl⟩
      rw [hb] at hc
      have hbl : b < 256 := by omega
      have e1 : ((v : Int) / 2 ^ (8 * (n - 1 - i)) % 256) = (b : Int) := by
        have h1 : (256 : Nat) ^ (n - 1 - i) = 2 ^ (8 * (n - 1 - i)) := by rw [show (256 : Nat) = 2 ^ 8 from rfl, ← Nat.pow_mul]
        rw [← hb, h1]; simp
      obtain ⟨x, hx⟩ : ∃ x, (partly (Sl.be n v) n i)[i]? = some x := by
        have : (partly (Sl.be n v) n i).length = n := by have := hown.1; omega
        exact ⟨_, List.getElem?_eq_getElem (by omega)⟩
      have hcell := hown.cellAt i (by omega)
      rw [hx] at hcell
      have hfz := hown.frozenAt i
      obtain ⟨hown', _⟩ := hown.stored i (.int .u8 (b : Int))
      have hset := partly_set (Sl.be n v) n i (UInt8.ofNat b) Hl.out hlt hc
      rw [show bv (UInt8.ofNat b) = .int .u8 (b : Int) from by unfold bv; rw [u8_ofNat b hbl]] at hset
      rw [hset] at hown'
      have Hown := Lib.hid hown'
      clear hown' hset hown hb hx hc
      go_wp2_with fail
      go_roundw
      case rel => exact ⟨i + 1, by omega, by go_num, Hown.out, hB'.setCell (p := ⟨w.heap.size, i, none⟩) (Nat.le_refl _) _⟩
      case measure => simp [intOf]; omega
    · obtain rfl : i = n := by omega
      rw [partly_full _ _ Hl.out] at hown
      have hcv := conv_own hown Hl.out
      clear hown hown0
      go_wp2_with fail
      go_ret2
      exact ⟨rfl, hB'⟩

theorem be_take (n v i : Nat) (hi : i < n) : (Sl.be n v).take (i + 1) = (Sl.be n v).take i ++ [UInt8.ofNat (v / 256 ^ (n - 1 - i) % 256)] := by
  rw [List.take_add_one, be_get n v i hi]; rfl

set_option maxRecDepth 100000 in
set_option maxHeartbeats 1000000 in
theorem fixed_any (v n : Nat) (w : World) (hn : 1 ≤ n) (hn2 : n ≤ 8) :
    Calls Tryz.prog 125 #[.int .u64 v, .int .i64 n] w fun e w' => e = .returned (str (Sl.be n v)) ∧ Below w.heap.size w w' := by
  obtain ⟨i0, hi, hz0, hz1, hz2⟩ := info_parts Tryz.info5
  have Hl := Lib.hid (Sl.be_len n v)
  go_enter Tryz.func125, Tryz.ntmps125
  go_wp2_with fail
  go_loopw [5, 6] (fun b j wr => ∃ i : Nat, i ≤ n ∧ j = .int .i64 ((n : Int) - 1 - i) ∧ wr.ownsRow w.heap.size 5 1 b i (((Sl.be n v).take i).map bv) ∧ Below w.heap.size w wr) (fun _ j _ => (intOf j + 1).toNat)
  case atStart => exact ⟨0, by omega, by simp, by simpa using World.ownsRow_nil w w.heap.size 5 1, Below.refl _ _⟩
  case round =>
    obtain ⟨i, hin, rfl, hown, hB⟩ := hrel
    have hsz := hB.size
    by_cases hlt : i < n
    · rw [show (n : Int) - 1 - i = ((n - 1 - i : Nat) : Int) from by omega]
      obtain ⟨q, hq⟩ : ∃ q, n - 1 - i = q := ⟨_, rfl⟩
      have hts := be_take n v i hlt
      rw [hq] at hts ⊢
      have hq7 : q ≤ 7 := by omega
      obtain ⟨b, hb⟩ : ∃ b, v / 256 ^ q % 256 = b := ⟨_, rfl⟩
      rw [hb] at hts
      have hbl : b < 256 := by omega
      have e1 : ((v : Int) / 2 ^ (8 * q) % 256) = (b : Int) := by
        have h1 : (256 : Nat) ^ q = 2 ^ (8 * q) := by rw [show (256 : Nat) = 2 ^ 8 from rfl, ← Nat.pow_mul]
        rw [← hb, h1]; simp
      have Hts := Lib.hid hts
      have Hq := Lib.hid hq
      clear hts hb hq
      go_wp2_with (at_builtin; refine wpList_append_own _ rfl _ _ 84 rfl w.heap.size 5 i0 (.int .u8 0) 1 1 Tryz.underlying84 hi hz0 hz1 hz2 rfl (by decide) _ _ _ rfl (hown.alloc _) ⟨wr.heap.size, 0, none⟩ 1 1 [.int .u8 (b : Int)] rfl rfl ?c1 ?c2 ?c3 ?c4 ?c5 ?_)
      case c1 => exact cell_one_new _ _ _
      case c2 => simp [Value.oneCell']
      case c3 => unfold maxLen; omega
      case c4 => omega
      case c5 => simp; omega
      intro v' w1 hown' hgrow _
      have r2 : Below w.heap.size w w1 := (hB.alloc hB.size _).grown hgrow (by simp; omega) (fun q e => (hown.lt q e).1)
      have r1 : w1.ownsRow w.heap.size 5 1 v' (i + 1) (((Sl.be n v).take (i + 1)).map bv) := by
        rw [Hts.out, List.map_append]
        simp only [List.map_cons, List.map_nil, bv, u8_ofNat b hbl, List.map_take] at hown' ⊢
        exact hown'
      clear hown' hgrow hown hB
      go_wp2_with fail
      go_roundw
      case rel => exact ⟨i + 1, by omega, by have := Hq.out; congr 1; omega, r1, r2⟩
      case measure => simp [intOf]
    · obtain rfl : i = n := by omega
      rw [List.take_of_length_le (by rw [Hl.out]; exact Nat.le_refl _)] at hown
      obtain ⟨m, rfl⟩ : ∃ m, i = m + 1 := ⟨i - 1, by omega⟩
      obtain ⟨g, cap, rfl⟩ := own_form hown
      have hcv := conv_own hown Hl.out
      clear hown
      go_wp2_with fail
      go_ret
      exact ⟨rfl, hB⟩

/-- 'string(b)' of a new block of four bytes. -/
theorem conv_four (w : World) (b0 b1 b2 b3 : Nat) (h0 : b0 < 256) (h1 : b1 < 256) (h2 : b2 < 256) (h3 : b3 < 256) :
    (convert 84 9 (.slice (some ⟨w.heap.size, 0, none⟩) 4 4)).run Tryz.prog (w.alloc (.cells #[.int .u8 (b0 : Int), .int .u8 (b1 : Int), .int .u8 (b2 : Int), .int .u8 (b3 : Int)] 5)) =
      .ok (str [UInt8.ofNat b0, UInt8.ofNat b1, UInt8.ofNat b2, UInt8.ofNat b3]) (w.alloc (.cells #[.int .u8 (b0 : Int), .int .u8 (b1 : Int), .int .u8 (b2 : Int), .int .u8 (b3 : Int)] 5)) := by
  have := World.ownsRow_lit (e := 5) (size := 1) w #[.int .u8 (b0 : Int), .int .u8 (b1 : Int), .int .u8 (b2 : Int), .int .u8 (b3 : Int)] 4 (Nat.le_refl _) (by decide) rfl
  refine conv_own (l := [UInt8.ofNat b0, UInt8.ofNat b1, UInt8.ofNat b2, UInt8.ofNat b3]) (base := w.heap.size) ?_ rfl
  simp only [List.map_cons, List.map_nil, bv, u8_ofNat b0 h0, u8_ofNat b1 h1, u8_ofNat b2 h2, u8_ofNat b3 h3]
  exact this

set_option maxRecDepth 100000 in
theorem summed_any (s : ByteArray) (w : World) (hs : s.size ≤ maxLen) (hT : TabS w) :
    Calls Tryz.prog 107 #[.string s] w fun e w' => e = .returned (str (Sl.summed s.data.toList)) ∧ Below w.heap.size w w' := by
  have HT := Lib.hid hT
  clear hT
  obtain ⟨c, hc⟩ : ∃ c, Sl.crc s.data.toList = c := ⟨_, rfl⟩
  have hcl : c < 4294967296 := by rw [← hc]; exact Sl.crcOn_lt 0 _ (by decide)
  have hcv := conv_four w (c % 256) (c / 256 % 256) (c / 65536 % 256) (c / 16777216 % 256) (by omega) (by omega) (by omega) (by omega)
  have hf : Sl.summed s.data.toList = [UInt8.ofNat (c % 256), UInt8.ofNat (c / 256 % 256), UInt8.ofNat (c / 65536 % 256), UInt8.ofNat (c / 16777216 % 256)] := by unfold Sl.summed; rw [hc]; rfl
  rw [← hf] at hcv
  have e1 : ((c : Int) % 256) = ((c % 256 : Nat) : Int) := by omega
  have e2 : ((c : Int) / 256 % 256) = ((c / 256 % 256 : Nat) : Int) := by omega
  have e3 : ((c : Int) / 65536 % 256) = ((c / 65536 % 256 : Nat) : Int) := by omega
  have e4 : ((c : Int) / 16777216) = ((c / 16777216 % 256 : Nat) : Int) := by omega
  generalize c % 256 = b0 at e1 hcv
  generalize c / 256 % 256 = b1 at e2 hcv
  generalize c / 65536 % 256 = b2 at e3 hcv
  generalize c / 16777216 % 256 = b3 at e4 hcv
  have Hc := Lib.hid hc
  clear hc hf
  go_enter Tryz.func107, Tryz.ntmps107
  go_wp2_with fail
  refine (sum_any s _ hs HT.out).mono ?_
  rintro e w' ⟨rfl, rfl⟩
  rw [Hc.out]
  go_wp2_with fail
  go_ret
  exact ⟨rfl, (Below.refl _ _).alloc (Nat.le_refl _) _⟩

set_option maxRecDepth 100000 in
theorem refSummed_any (c : Nat) (l : List UInt8) (w : World) (hc : Sl.crc l = c) :
    Calls Tryz.prog 104 #[.int .u32 c] w fun e w' => e = .returned (str (Sl.summed l)) ∧ Below w.heap.size w w' := by
  have hcl : c < 4294967296 := by rw [← hc]; exact Sl.crcOn_lt 0 _ (by decide)
  have hcv := conv_four w (c % 256) (c / 256 % 256) (c / 65536 % 256) (c / 16777216 % 256) (by omega) (by omega) (by omega) (by omega)
  have hf : Sl.summed l = [UInt8.ofNat (c % 256), UInt8.ofNat (c / 256 % 256), UInt8.ofNat (c / 65536 % 256), UInt8.ofNat (c / 16777216 % 256)] := by unfold Sl.summed; rw [hc]; rfl
  rw [← hf] at hcv
  have e1 : ((c : Int) % 256) = ((c % 256 : Nat) : Int) := by omega
  have e2 : ((c : Int) / 256 % 256) = ((c / 256 % 256 : Nat) : Int) := by omega
  have e3 : ((c : Int) / 65536 % 256) = ((c / 65536 % 256 : Nat) : Int) := by omega
  have e4 : ((c : Int) / 16777216) = ((c / 16777216 % 256 : Nat) : Int) := by omega
  generalize c % 256 = b0 at e1 hcv
  generalize c / 256 % 256 = b1 at e2 hcv
  generalize c / 65536 % 256 = b2 at e3 hcv
  generalize c / 16777216 % 256 = b3 at e4 hcv
  clear hc hf
  go_enter Tryz.func104, Tryz.ntmps104
  go_wp2_with fail
  go_ret
  exact ⟨rfl, (Below.refl _ _).alloc (Nat.le_refl _) _⟩
end Go.Proofs.YtifkhjihgnnpfaaGreatDoor
/- Contracts of seal.Frame and of the document's head, Frame. Conditions: each theorem's own hypotheses; the program's table of 16 numbers holds what its initialiser lays. -/
namespace Go.Proofs.YtifkhjihgnnpfaaGreatDoor
open Go.RowKit

theorem str_of (l : List UInt8) : ∃ b : ByteArray, str l = .string b ∧ b.data.toList = l ∧ b.size = l.length :=
  ⟨⟨l.toArray⟩, rfl, rfl, by simp [ByteArray.size]⟩

theorem str_eq {b : ByteArray} {l : List UInt8} (h : b.data.toList = l) : Value.string b = str l := by
  subst h
  unfold str
  congr 1

theorem data_append (a b : ByteArray) : (a ++ b).data.toList = a.data.toList ++ b.data.toList := by
  simp [ByteArray.data_append]

/-- 'string(b)' of a new block of two bytes. -/
theorem conv_two (w : World) (b0 b1 : Nat) (h0 : b0 < 256) (h1 : b1 < 256) :
    (convert 84 9 (.slice (some ⟨w.heap.size, 0, none⟩) 2 2)).run Tryz.prog (w.alloc (.cells #[.int .u8 (b0 : Int), .int .u8 (b1 : Int)] 5)) =
      .ok (str [UInt8.ofNat b0, UInt8.ofNat b1]) (w.alloc (.cells #[.int .u8 (b0 : Int), .int .u8 (b1 : Int)] 5)) := by
  have := World.ownsRow_lit (e := 5) (size := 1) w #[.int .u8 (b0 : Int), .int .u8 (b1 : Int)] 2 (Nat.le_refl _) (by decide) rfl
  refine conv_own (l := [UInt8.ofNat b0, UInt8.ofNat b1]) (base := w.heap.size) ?_ rfl
  simp only [List.map_cons, List.map_nil, bv, u8_ofNat b0 h0, u8_ofNat b1 h1]
  exact this

theorem summed_len (l : List UInt8) : (Sl.summed l).length = 4 := rfl

theorem conv_two_drew (w : World) (b0 b1 : Nat) (h0 : b0 < 256) (h1 : b1 < 256) :
    (convert 84 9 (.slice (some ⟨w.heap.size, 0, none⟩) 2 2)).run Tryz.prog (w.alloc (.cells #[.int .u8 (b0 : Int), .int .u8 (b1 : Int)] 5)).drew =
      .ok (str [UInt8.ofNat b0, UInt8.ofNat b1]) (w.alloc (.cells #[.int .u8 (b0 : Int), .int .u8 (b1 : Int)] 5)).drew := by
  have := (World.ownsRow_lit (e := 5) (size := 1) w #[.int .u8 (b0 : Int), .int .u8 (b1 : Int)] 2 (Nat.le_refl _) (by decide) rfl).drew
  refine conv_own (l := [UInt8.ofNat b0, UInt8.ofNat b1]) (base := w.heap.size) ?_ rfl
  simp only [List.map_cons, List.map_nil, bv, u8_ofNat b0 h0, u8_ofNat b1 h1]
  exact this

theorem own_below {B base e size n : Nat} {v : Value} {xs : List Value} {w w' : World} (h : w.ownsRow base e size v n xs) (hv : ∀ k, v.ownBlock = some k → k < B) (hB : Below B w w') : w'.ownsRow base e size v n xs := by
  refine ⟨h.1, ?_⟩
  rcases h.2 with h2 | ⟨g, cap, cur, rfl, hg, hh, r⟩
  · exact .inl h2
  · exact .inr ⟨g, cap, cur, rfl, hg, by rw [hB.block g (hv g rfl)]; exact hh, r⟩

theorem conv_two_below (w w1 : World) (b0 b1 : Nat) (K : ByteArray) (h0 : b0 < 256) (h1 : b1 < 256) (hK : str [UInt8.ofNat b0, UInt8.ofNat b1] = .string K)
    (hB : Below ((w.alloc (.cells #[.int .u8 (b0 : Int), .int .u8 (b1 : Int)] 5)).drew).heap.size (w.alloc (.cells #[.int .u8 (b0 : Int), .int .u8 (b1 : Int)] 5)).drew w1) :
    (convert 84 9 (.slice (some ⟨w.heap.size, 0, none⟩) 2 2)).run Tryz.prog w1 = .ok (.string K) w1 := by
  have := (World.ownsRow_lit (e := 5) (size := 1) w #[.int .u8 (b0 : Int), .int .u8 (b1 : Int)] 2 (Nat.le_refl _) (by decide) rfl).drew
  rw [← hK]
  refine conv_own (l := [UInt8.ofNat b0, UInt8.ofNat b1]) (base := w.heap.size) ?_ rfl
  simp only [List.map_cons, List.map_nil, bv, u8_ofNat b0 h0, u8_ofNat b1 h1]
  exact own_below this (by intro k hk; cases hk; show w.heap.size < (w.alloc _).heap.size; rw [World.size_alloc]; omega) hB

/-- What Frame returns. -/
def frameV (kind : Int) (l : List UInt8) : Value :=
  if kind < 1 ∨ 255 < kind then .tuple #[str [], .int .i64 35]
  else if 65536 < l.length then .tuple #[str [], .int .i64 36]
  else .tuple #[str (Sl.frame kind.toNat l), .int .i64 0]

set_option maxRecDepth 100000 in
set_option maxHeartbeats 1000000 in
theorem frame_any (k : Int) (s : ByteArray) (w : World) (hT : TabS w) :
    Calls Tryz.prog 96 #[.int .i64 k, .string s] w fun e w' => e = .returned (frameV k s.data.toList) ∧ Below w.heap.size w w' := by
  have HT := Lib.hid hT
  have hsl : s.data.toList.length = s.size := Array.length_toList
  clear hT
  by_cases hk : k < 1 ∨ 255 < k
  · have hV : frameV k s.data.toList = .tuple #[.string ⟨#[]⟩, .int .i64 35] := by unfold frameV; rw [if_pos hk]; rfl
    rw [hV]
    clear hV hsl
    by_cases h1 : k < 1
    · go_enter Tryz.func96, Tryz.ntmps96
      go_wp2_with fail
      go_ret2
      exact ⟨rfl, Below.refl _ _⟩
    · have h2 : 255 < k := by omega
      clear hk
      go_enter Tryz.func96, Tryz.ntmps96
      go_wp2_with fail
      go_ret2
      exact ⟨rfl, Below.refl _ _⟩
  · by_cases hn : 65536 < s.size
    · have hV : frameV k s.data.toList = .tuple #[.string ⟨#[]⟩, .int .i64 36] := by unfold frameV; rw [if_neg hk, if_pos (by omega)]; rfl
      rw [hV]
      have h1 : ¬ k < 1 := by omega
      have h2 : ¬ 255 < k := by omega
      clear hV hsl hk
      go_enter Tryz.func96, Tryz.ntmps96
      go_wp2_with fail
      go_ret2
      exact ⟨rfl, Below.refl _ _⟩
    · have hV : frameV k s.data.toList = .tuple #[str (Sl.frame k.toNat s.data.toList), .int .i64 0] := by unfold frameV; rw [if_neg hk, if_neg (by omega)]
      rw [hV]
      obtain ⟨k, rfl⟩ := Int.eq_ofNat_of_zero_le (show 0 ≤ k by omega)
      have h1 : 1 ≤ k := by omega
      have h2 : k ≤ 255 := by omega
      have hn' : s.size ≤ 65536 := by omega
      clear hk hn hV
      obtain ⟨B4, hB4, hB4d, hB4s⟩ := str_of (Sl.be 4 s.size)
      rw [Sl.be_len] at hB4s
      obtain ⟨K2, hK2, hK2d, hK2s⟩ := str_of [167, UInt8.ofNat k]
      have hcv : ∀ w : World, (convert 84 9 (.slice (some ⟨w.heap.size, 0, none⟩) 2 2)).run Tryz.prog (w.alloc (.cells #[.int .u8 167, .int .u8 (k : Int)] 5)) =
          .ok (.string K2) (w.alloc (.cells #[.int .u8 167, .int .u8 (k : Int)] 5)) := fun w => by rw [← hK2]; exact conv_two w 167 k (by decide) (by omega)
      have hhead : (K2 ++ B4).data.toList = Sl.head k s.data.toList.length := by
        rw [data_append, hK2d, hB4d, hsl]; rfl
      obtain ⟨S1, hS1, hS1d, hS1s⟩ := str_of (Sl.summed (K2 ++ B4).data.toList)
      obtain ⟨S2, hS2, hS2d, hS2s⟩ := str_of (Sl.summed (K2 ++ B4 ++ s).data.toList)
      rw [summed_len] at hS1s hS2s
      have hfin : Value.string (K2 ++ B4 ++ S1 ++ s ++ S2) = str (Sl.frame k s.data.toList) := by
        apply str_eq
        rw [data_append (K2 ++ B4 ++ S1 ++ s) S2, data_append (K2 ++ B4 ++ S1) s, data_append (K2 ++ B4) S1, hS1d, hS2d, data_append (K2 ++ B4) s, hhead]
        rfl
      have Hfin := Lib.hid hfin
      have HB4 := Lib.hid hB4
      have HS1 := Lib.hid hS1
      have HS2 := Lib.hid hS2
      have z1 : K2.size ≤ 2 := by rw [hK2s]; simp
      have z2 : B4.size ≤ 4 := by omega
      have z3 : S1.size ≤ 4 := by omega
      have z4 : S2.size ≤ 4 := by omega
      clear hfin hB4 hB4d hB4s hK2 hK2d hK2s hS1 hS1d hS1s hS2 hS2d hS2s hhead hsl
      go_enter Tryz.func96, Tryz.ntmps96
      go_wp2_with fail
      refine (putFix_any s.size 4 _ (by decide) (by decide) (by omega)).mono ?_
      rintro e w1 ⟨rfl, hB1⟩
      rw [HB4.out]
      go_wp2_with fail
      refine (summed_any (K2 ++ B4) _ (by unfold maxLen; rw [ByteArray.size_append]; omega) ((HT.out.below hB1).below ((Below.refl _ _).alloc (Nat.le_refl _) _))).mono ?_
      rintro e w2 ⟨rfl, hB2⟩
      rw [HS1.out]
      go_wp2_with fail
      have c2 : Below w.heap.size w w2 := (hB1.alloc hB1.size _).trans (hB2.mono (by simp; have := hB1.size; omega))
      refine (summed_any (K2 ++ B4 ++ s) _ (by unfold maxLen; rw [ByteArray.size_append, ByteArray.size_append]; omega) (HT.out.below c2)).mono ?_
      rintro e w3 ⟨rfl, hB3⟩
      have c3 := c2.trans (hB3.mono c2.size)
      rw [HS2.out]
      go_wp2_with fail
      go_ret2
      exact ⟨by rw [Int.toNat_natCast, ← Hfin.out]; rfl, c3⟩

end Go.Proofs.YtifkhjihgnnpfaaGreatDoor
/- Contracts of the document's head and Frame. Conditions: each theorem's own hypotheses. -/
namespace Go.Proofs.YtifkhjihgnnpfaaGreatDoor
open Go.RowKit

set_option maxRecDepth 100000 in
set_option maxHeartbeats 1000000 in
theorem refHead_any (k n : Nat) (H : ByteArray) (w : World) (h2 : k ≤ 255) (hn : n ≤ 65536) (hH : H.data.toList = Sl.head k n) :
    Calls Tryz.prog 103 #[.int .i64 k, .int .i64 n] w fun e w' => e = .returned (.string H) ∧ Below w.heap.size w w' := by
  obtain ⟨B4, hB4, hB4d, hB4s⟩ := str_of (Sl.be 4 n)
  rw [Sl.be_len] at hB4s
  obtain ⟨K2, hK2, hK2d, hK2s⟩ := str_of [167, UInt8.ofNat k]
  have hcv : ∀ w : World, (convert 84 9 (.slice (some ⟨w.heap.size, 0, none⟩) 2 2)).run Tryz.prog (w.alloc (.cells #[.int .u8 167, .int .u8 (k : Int)] 5)) =
      .ok (.string K2) (w.alloc (.cells #[.int .u8 167, .int .u8 (k : Int)] 5)) := fun w => by rw [← hK2]; exact conv_two w 167 k (by decide) (by omega)
  have hcd : ∀ w : World, (convert 84 9 (.slice (some ⟨w.heap.size, 0, none⟩) 2 2)).run Tryz.prog (w.alloc (.cells #[.int .u8 167, .int .u8 (k : Int)] 5)).drew =
      .ok (.string K2) (w.alloc (.cells #[.int .u8 167, .int .u8 (k : Int)] 5)).drew := fun w => by rw [← hK2]; exact conv_two_drew w 167 k (by decide) (by omega)
  have hcb : Hid (∀ w w1 : World, Below ((w.alloc (.cells #[.int .u8 167, .int .u8 (k : Int)] 5)).drew).heap.size (w.alloc (.cells #[.int .u8 167, .int .u8 (k : Int)] 5)).drew w1 → (convert 84 9 (.slice (some ⟨w.heap.size, 0, none⟩) 2 2)).run Tryz.prog w1 = .ok (.string K2) w1) := fun w w1 hB => conv_two_below w w1 167 k K2 (by decide) (by omega) hK2 hB
  have w8 : IntKind.u8.wrap (k : Int) = (k : Int) := by rw [IntKind.wrap_u8]; omega
  have w64 : IntKind.u64.wrap (n : Int) = (n : Int) := by rw [IntKind.wrap_u64]; omega
  have hfin : Value.string (K2 ++ B4) = Value.string H := by
    have h1 : (K2 ++ B4).data.toList = Sl.head k n := by rw [data_append, hK2d, hB4d]; rfl
    rw [str_eq h1, ← hH, ← str_eq rfl]
  have Hfin := Lib.hid hfin
  have HB4 := Lib.hid hB4
  have z1 : K2.size ≤ 2 := by rw [hK2s]; simp
  have z2 : B4.size ≤ 4 := by omega
  clear hfin hB4 hB4d hB4s hK2 hK2d hK2s hH
  go_enter Tryz.func103, Tryz.ntmps103
  go_wp2_with fail
  go_region_with (go_at_call 125; refine (fixed_any n 4 _ (by decide) (by decide)).mono ?_; rintro e w1 ⟨rfl, hB1⟩; rw [HB4.out]; try have hcw := hcb.out _ _ hB1)
  all_goals go_wp2_with fail
  all_goals go_ret
  all_goals refine ⟨by rw [← Hfin.out]; rfl, ?_⟩
  all_goals
    first
    | exact (((Below.refl w.heap.size w).alloc (Nat.le_refl _) _).drew).trans (hB1.mono (by show w.heap.size ≤ (w.alloc _).heap.size; rw [World.size_alloc]; omega))
    | exact (((Below.refl w.heap.size w).drew).trans hB1).alloc hB1.size _

set_option maxRecDepth 100000 in
set_option maxHeartbeats 1000000 in
theorem refFrame_any (k : Int) (s : ByteArray) (w : World) :
    Calls Tryz.prog 84 #[.int .i64 k, .string s] w fun e w' => e = .returned (frameV k s.data.toList) ∧ Below w.heap.size w w' := by
  have hsl : s.data.toList.length = s.size := Array.length_toList
  by_cases hk : k < 1 ∨ 255 < k
  · have hV : frameV k s.data.toList = .tuple #[.string ⟨#[]⟩, .int .i64 35] := by unfold frameV; rw [if_pos hk]; rfl
    rw [hV]
    clear hV hsl
    by_cases h1 : k < 1
    · go_enter Tryz.func84, Tryz.ntmps84
      go_wp2_with fail
      go_ret2
      exact ⟨rfl, Below.refl _ _⟩
    · have h2 : 255 < k := by omega
      clear hk
      go_enter Tryz.func84, Tryz.ntmps84
      go_wp2_with fail
      go_ret2
      exact ⟨rfl, Below.refl _ _⟩
  · by_cases hn : 65536 < s.size
    · have hV : frameV k s.data.toList = .tuple #[.string ⟨#[]⟩, .int .i64 36] := by unfold frameV; rw [if_neg hk, if_pos (by omega)]; rfl
      rw [hV]
      have h1 : ¬ k < 1 := by omega
      have h2 : ¬ 255 < k := by omega
      clear hV hsl hk
      go_enter Tryz.func84, Tryz.ntmps84
      go_wp2_with fail
      go_ret2
      exact ⟨rfl, Below.refl _ _⟩
    · have hV : frameV k s.data.toList = .tuple #[str (Sl.frame k.toNat s.data.toList), .int .i64 0] := by unfold frameV; rw [if_neg hk, if_neg (by omega)]
      rw [hV]
      obtain ⟨k, rfl⟩ := Int.eq_ofNat_of_zero_le (show 0 ≤ k by omega)
      have h1 : 1 ≤ k := by omega
      have h2 : k ≤ 255 := by omega
      have hn' : s.size ≤ 65536 := by omega
      clear hk hn hV
      obtain ⟨H, hH, hHd, hHs⟩ := str_of (Sl.head k s.data.toList.length)
      obtain ⟨S1, hS1, hS1d, hS1s⟩ := str_of (Sl.summed H.data.toList)
      obtain ⟨S2, hS2, hS2d, hS2s⟩ := str_of (Sl.summed (H ++ s).data.toList)
      rw [summed_len] at hS1s hS2s
      have hfin : Value.string (H ++ S1 ++ s ++ S2) = str (Sl.frame k s.data.toList) := by
        apply str_eq
        rw [data_append (H ++ S1 ++ s) S2, data_append (H ++ S1) s, data_append H S1, hS1d, hS2d, data_append H s, hHd]
        rfl
      have z0 : H.size ≤ 6 := by rw [hHs]; unfold Sl.head; rw [List.length_append, Sl.be_len]; simp
      have z3 : S1.size ≤ 4 := by omega
      have z4 : S2.size ≤ 4 := by omega
      rw [hsl] at hHd
      have Hfin := Lib.hid hfin
      have HH := Lib.hid hHd
      have HS1 := Lib.hid hS1
      have HS2 := Lib.hid hS2
      obtain ⟨q1, hq1⟩ : ∃ q1, Sl.crc H.data.toList = q1 := ⟨_, rfl⟩
      obtain ⟨q2, hq2⟩ : ∃ q2, Sl.crc (H ++ s).data.toList = q2 := ⟨_, rfl⟩
      have Hq1 := Lib.hid hq1
      have Hq2 := Lib.hid hq2
      clear hfin hH hHd hHs hS1 hS1d hS1s hS2 hS2d hS2s hsl hq1 hq2
      go_enter Tryz.func84, Tryz.ntmps84
      go_wp2_with fail
      refine (refHead_any k s.size H _ h2 hn' HH.out).mono ?_
      rintro e w1 ⟨rfl, hB1⟩
      go_wp2_with fail
      refine (refSum_any H _ (by unfold maxLen; omega)).mono ?_
      rintro e w2 ⟨rfl, rfl⟩
      rw [Hq1.out]
      go_wp2_with fail
      refine (refSummed_any q1 H.data.toList _ Hq1.out).mono ?_
      rintro e w2 ⟨rfl, hB2⟩
      have c2 := hB1.trans (hB2.mono hB1.size)
      rw [HS1.out]
      go_wp2_with fail
      refine (refSum_any (H ++ s) _ (by unfold maxLen; rw [ByteArray.size_append]; omega)).mono ?_
      rintro e w3 ⟨rfl, rfl⟩
      rw [Hq2.out]
      go_wp2_with fail
      refine (refSummed_any q2 (H ++ s).data.toList _ Hq2.out).mono ?_
      rintro e w3 ⟨rfl, hB3⟩
      have c3 := c2.trans (hB3.mono c2.size)
      rw [HS2.out]
      go_wp2_with fail
      go_ret2
      exact ⟨by rw [Int.toNat_natCast, ← Hfin.out]; rfl, c3⟩
end Go.Proofs.YtifkhjihgnnpfaaGreatDoor
/- Contracts of seal.Fix, of the closure in seal.Parse, and of the document's number, sumAt. Conditions: each theorem's own hypotheses. -/
namespace Go.Proofs.YtifkhjihgnnpfaaGreatDoor
open Go.RowKit

theorem beNum_snoc (l : List UInt8) (c : UInt8) : Sl.beNum (l ++ [c]) = 256 * Sl.beNum l + c.toNat := by
  unfold Sl.beNum; rw [List.foldl_append]; rfl
theorem beNum_lt (l : List UInt8) : Sl.beNum l < 256 ^ l.length := by
  have h : ∀ (l : List UInt8) (a k : Nat), a < 256 ^ k → l.foldl (fun a c => 256 * a + c.toNat) a < 256 ^ (k + l.length) := by
    intro l
    induction l with
    | nil => intro a k h; simpa using h
    | cons c l ih =>
      intro a k h
      rw [List.foldl_cons, List.length_cons, show k + (l.length + 1) = (k + 1) + l.length from by omega]
      refine ih _ _ ?_
      have := c.toNat_lt
      rw [Nat.pow_succ]; omega
  have := h l 0 0 (by simp)
  rw [Nat.zero_add] at this
  exact this

theorem win_snoc (s : ByteArray) (k i : Nat) (h : k + i < s.size) : (s.data.toList.drop k).take (i + 1) = (s.data.toList.drop k).take i ++ [s[k + i]] := by
  rw [List.take_add_one, List.getElem?_drop]
  congr 1
  rw [List.getElem?_eq_getElem (by simpa using h)]
  rfl

set_option maxRecDepth 100000 in
set_option maxHeartbeats 1000000 in
theorem fix_any (s : ByteArray) (k n : Nat) (w : World) (hs : s.size ≤ 9223372036854775807) (hk : k + n ≤ s.size) (hn : 1 ≤ n) (hn2 : n ≤ 8) :
    Calls Tryz.prog 108 #[.string s, .int .i64 k, .int .i64 n] w fun e w' => e = .returned (.tuple #[.int .u64 (Sl.beNum ((s.data.toList.drop k).take n)), .int .i64 0]) ∧ w = w' := by
  have hd1 : decide ((n : Int) < 1) = false := by simp; omega
  have hd2 : decide ((8 : Int) < (n : Int)) = false := by simp; omega
  have hd3 : decide ((k : Int) < 0) = false := by simp
  have hd4 : decide (s.size < k) = false := by simp; omega
  have hd5 : decide ((s.size : Int) - (k : Int) < (n : Int)) = false := by simp; omega
  go_enter Tryz.func108, Tryz.ntmps108
  go_wp2_with fail
  go_loop [8, 33] (fun a j => ∃ (i v : Nat), a = .int .u64 v ∧ j = .int .i64 i ∧ i ≤ n ∧ Sl.beNum ((s.data.toList.drop k).take i) = v) (fun _ j => n - (intOf j).toNat)
  case atStart => exact ⟨0, 0, rfl, rfl, by omega, rfl⟩
  case round =>
    obtain ⟨i, v, rfl, rfl, hin, hv⟩ := hrel
    by_cases hlt : i < n
    · have hsn := win_snoc s k i (by omega)
      have hbn := beNum_snoc ((s.data.toList.drop k).take i) s[k + i]
      rw [← hsn, hv] at hbn
      have hvl : v < 256 ^ i := by
        rw [← hv]
        have := beNum_lt ((s.data.toList.drop k).take i)
        rwa [List.length_take_of_le (by simp; omega)] at this
      have hv7 : v < 72057594037927936 := by
        have := Nat.pow_le_pow_right (n := 256) (by decide) (show i ≤ 7 by omega)
        have e : (256 : Nat) ^ 7 = 72057594037927936 := by decide
        omega
      have hcl : s[k + i].toNat < 256 := s[k + i].toNat_lt
      have hor := nat_join 8 (v * 256) s[k + i].toNat (by omega) (by omega)
      have e1 : IntKind.u64.wrap ((v : Int) * 256) = ((v * 256 : Nat) : Int) := wrap_nat (v * 256) _ rfl (by omega) _ (by omega)
      obtain ⟨V, hV⟩ : ∃ V, v * 256 = V := ⟨_, rfl⟩
      rw [hV] at e1 hor
      have e2 : bits .or .u64 (V : Int) (s[k + i].toNat : Int) = ((256 * v + s[k + i].toNat : Nat) : Int) := by
        rw [u64_or_nat V s[k + i].toNat (by omega) (by omega), hor, ← hV, Nat.mul_comm]
      obtain ⟨R, hR⟩ : ∃ R, 256 * v + s[k + i].toNat = R := ⟨_, rfl⟩
      rw [hR] at e2 hbn
      have Hbn := Lib.hid hbn
      clear hsn hbn hv hor hV hR
      go_wp2_with fail
      go_round
      case rel => exact ⟨i + 1, R, rfl, by go_num, by omega, Hbn.out⟩
      case measure => simp [intOf]; omega
    · obtain rfl : i = n := by omega
      go_wp2_with fail
      go_ret2
      exact ⟨rfl, rfl⟩

set_option maxRecDepth 100000 in
set_option maxHeartbeats 1000000 in
theorem number_any (s : ByteArray) (k n : Nat) (w : World) (hs : s.size ≤ 9223372036854775807) (hk : k + n ≤ s.size) (hn2 : n ≤ 8) :
    Calls Tryz.prog 132 #[.string s, .int .i64 k, .int .i64 n] w fun e w' => e = .returned (.int .u64 (Sl.beNum ((s.data.toList.drop k).take n))) ∧ w = w' := by
  go_enter Tryz.func132, Tryz.ntmps132
  go_wp2_with fail
  go_loop [7, 8] (fun a j => ∃ (i v : Nat), a = .int .u64 v ∧ j = .int .i64 i ∧ i ≤ n ∧ Sl.beNum ((s.data.toList.drop k).take i) = v) (fun _ j => n - (intOf j).toNat)
  case atStart => exact ⟨0, 0, rfl, rfl, by omega, rfl⟩
  case round =>
    obtain ⟨i, v, rfl, rfl, hin, hv⟩ := hrel
    by_cases hlt : i < n
    · have hsn := win_snoc s k i (by omega)
      have hbn := beNum_snoc ((s.data.toList.drop k).take i) s[k + i]
      rw [← hsn, hv] at hbn
      have hvl : v < 256 ^ i := by
        rw [← hv]
        have := beNum_lt ((s.data.toList.drop k).take i)
        rwa [List.length_take_of_le (by simp; omega)] at this
      have hv7 : v < 72057594037927936 := by
        have := Nat.pow_le_pow_right (n := 256) (by decide) (show i ≤ 7 by omega)
        have e : (256 : Nat) ^ 7 = 72057594037927936 := by decide
        omega
      have hcl : s[k + i].toNat < 256 := s[k + i].toNat_lt
      obtain ⟨R, hR⟩ : ∃ R, 256 * v + s[k + i].toNat = R := ⟨_, rfl⟩
      have e1 : IntKind.u64.wrap (256 * (v : Int)) = 256 * (v : Int) := by rw [IntKind.wrap_u64]; omega
      have e2 : IntKind.u64.wrap (256 * (v : Int) + (s[k + i].toNat : Int)) = (R : Int) := by rw [IntKind.wrap_u64]; omega
      have e3 : 256 * (v : Int) + (s[k + i].toNat : Int) = (R : Int) := by omega
      rw [hR] at hbn
      have Hbn := Lib.hid hbn
      clear hsn hbn hv hR
      go_wp2_with fail
      go_round
      case rel => exact ⟨i + 1, R, rfl, by go_num, by omega, Hbn.out⟩
      case measure => simp [intOf]; omega
    · obtain rfl : i = n := by omega
      go_wp2_with fail
      go_ret
      exact ⟨rfl, rfl⟩

/-- The closure: the first n bytes are taken off. -/
theorem next_any (L : ByteArray) (n : Nat) (a : Addr) (w : World) (hn : n ≤ L.size) (hc : w.cell? a = some (.string L)) (hf : w.frozen? a = false) :
    Calls Tryz.prog 106 #[.int .i64 n, .pointer (some a)] w fun e w' => e = .returned (.string (L.extract 0 n)) ∧ w.setCell a (.string (L.extract n L.size)) = w' := by
  go_enter Tryz.func106, Tryz.ntmps106
  go_wp2_with fail
  go_ret
  exact ⟨rfl, rfl⟩
end Go.Proofs.YtifkhjihgnnpfaaGreatDoor
