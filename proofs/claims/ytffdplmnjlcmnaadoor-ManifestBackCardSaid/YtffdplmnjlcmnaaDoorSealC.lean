/- Contracts of seal.Var and of the document's Var: reading a number in bytes of seven bits. Conditions: each theorem's own hypotheses. -/
import Derived.Test.YtffdplmnjlcmnaaDoorSealB
namespace Go.Proofs.YtffdplmnjlcmnaaDoor
open Go.RowKit

/-- What reading at a place returns. -/
def varV (at' : Nat) (R : Sl.Got) : Value := .tuple #[.int .u64 (R.val : Int), .int .i64 ((if R.code = 0 then at' + R.len else 0 : Nat) : Int), .int .i64 (R.code : Int)]

theorem drop_cons (s : ByteArray) (k : Nat) (h : k < s.size) : s.data.toList.drop k = s[k] :: s.data.toList.drop (k + 1) := by
  rw [List.drop_eq_getElem_cons (by simpa using h)]; rfl

theorem drop_nil (s : ByteArray) (k : Nat) (h : s.size ≤ k) : s.data.toList.drop k = [] := List.drop_eq_nil_of_le (by simpa using h)

theorem var_stop {i v : Nat} {f : Nat} {R : Sl.Got} (h : Sl.varAt (f + 1) i v [] = R) : R = ⟨31, 0, 0⟩ := h.symm

theorem var_over {f i v : Nat} {c : UInt8} {l : List UInt8} {R : Sl.Got} (h : Sl.varAt (f + 1) i v (c :: l) = R) (h9 : i = 9) (hc : 1 < c.toNat) : R = ⟨30, 0, 0⟩ := by
  rw [← h, Sl.varAt, if_pos ⟨h9, hc⟩]
theorem var_form {f i v : Nat} {c : UInt8} {l : List UInt8} {R : Sl.Got} (h : Sl.varAt (f + 1) i v (c :: l) = R) (hc : c.toNat = 0) (hi : 0 < i) : R = ⟨32, 0, 0⟩ := by
  rw [← h, Sl.varAt, if_neg (by omega), if_pos (by omega), if_pos ⟨hc, hi⟩]
theorem var_end {f i v : Nat} {c : UInt8} {l : List UInt8} {R : Sl.Got} (h : Sl.varAt (f + 1) i v (c :: l) = R) (h9 : i = 9 → c.toNat ≤ 1) (hc : c.toNat < 128) (h0 : c.toNat = 0 → i = 0) :
    R = ⟨0, v + c.toNat % 128 * 2 ^ (7 * i), i + 1⟩ := by
  rw [← h, Sl.varAt, if_neg (by intro ⟨a, b⟩; have := h9 a; omega), if_pos hc, if_neg (by intro ⟨a, b⟩; have := h0 a; omega)]
theorem var_next {f i v : Nat} {c : UInt8} {l : List UInt8} {R : Sl.Got} (h : Sl.varAt (f + 1) i v (c :: l) = R) (h9 : i = 9 → c.toNat ≤ 1) (hc : 128 ≤ c.toNat) :
    Sl.varAt f (i + 1) (v + c.toNat % 128 * 2 ^ (7 * i)) l = R := by
  rw [Sl.varAt, if_neg (by intro ⟨a, b⟩; have := h9 a; omega), if_neg (by omega)] at h
  exact h

theorem shl_fits {i d v : Nat} (hi : i ≤ 9) (hd : d < 128) (h9 : i = 9 → d ≤ 1) (hv : v < 2 ^ (7 * i)) :
    d * 2 ^ (7 * i) < 18446744073709551616 ∧ v + d * 2 ^ (7 * i) < 18446744073709551616 ∧ (v ||| d * 2 ^ (7 * i)) = v + d * 2 ^ (7 * i) ∧ (i < 9 → v + d * 2 ^ (7 * i) < 2 ^ (7 * (i + 1))) := by
  have hp := Nat.two_pow_pos (7 * i)
  have hor : (v ||| d * 2 ^ (7 * i)) = v + d * 2 ^ (7 * i) := by
    rw [Nat.or_comm, nat_join (7 * i) _ v (Nat.mul_mod_left _ _) hv, Nat.add_comm]
  by_cases h : i = 9
  · have hd1 := h9 h
    subst h
    have e : (2 : Nat) ^ (7 * 9) = 9223372036854775808 := by decide
    rw [e] at *
    refine ⟨by omega, by omega, hor, fun h => by omega⟩
  · have h1 : d * 2 ^ (7 * i) ≤ 127 * 2 ^ (7 * i) := Nat.mul_le_mul_right _ (by omega)
    have h2 := Nat.pow_le_pow_right (n := 2) (by decide) (show 7 * i ≤ 56 by omega)
    have e : (2 : Nat) ^ 56 = 72057594037927936 := by decide
    refine ⟨by omega, by omega, hor, fun _ => ?_⟩
    rw [show 7 * (i + 1) = 7 * i + 7 from by omega, Nat.pow_add]
    omega

theorem wrap_nat (a b : Nat) (h : a = b) (hb : b < 18446744073709551616) (n : Int) (hn : n = (a : Int)) : IntKind.u64.wrap n = (b : Int) := by
  subst h; subst hn
  rw [IntKind.wrap_u64]; omega

theorem var_bad (s : ByteArray) (k : Int) (w : World) (h : k < 0 ∨ (s.size : Int) < k) :
    Calls Tryd.prog 78 #[.string s, .int .i64 k] w fun e w' => e = .returned (.tuple #[.int .u64 0, .int .i64 0, .int .i64 13]) ∧ w = w' := by
  by_cases h1 : k < 0
  · go_enter Tryd.func78, Tryd.ntmps78
    go_wp2_with fail
    go_ret3
    exact ⟨rfl, rfl⟩
  · have h2 : (s.size : Int) < k := by omega
    clear h
    go_enter Tryd.func78, Tryd.ntmps78
    go_wp2_with fail
    go_ret3
    exact ⟨rfl, rfl⟩

set_option maxRecDepth 100000 in
set_option maxHeartbeats 1000000 in
theorem var_any (s : ByteArray) (k : Nat) (R : Sl.Got) (w : World) (hs : s.size ≤ 9223372036854775807) (hk : k ≤ s.size) (hR : Sl.var (s.data.toList.drop k) = R) :
    Calls Tryd.prog 78 #[.string s, .int .i64 k] w fun e w' => e = .returned (varV k R) ∧ w = w' := by
  have hd1 : decide ((k : Int) < 0) = false := by simp
  have hd2 : decide (s.size < k) = false := by simp; omega
  have HR := Lib.hid hR
  clear hR
  go_enter Tryd.func78, Tryd.ntmps78
  go_wp2_with fail
  go_loop [7, 8, 9] (fun a j _ => ∃ (i v : Nat), a = .int .u64 v ∧ j = .int .i64 i ∧ i ≤ 9 ∧ k + i ≤ s.size ∧ v < 2 ^ (7 * i) ∧ Sl.varAt (10 - i) i v (s.data.toList.drop (k + i)) = R) (fun _ j _ => 10 - (intOf j).toNat)
  case atStart => exact ⟨0, 0, rfl, rfl, by omega, hk, by simp, HR.out⟩
  case round =>
    obtain ⟨i, v, rfl, rfl, hi, hki, hv, hr⟩ := hrel
    obtain ⟨f, hf⟩ : ∃ f, 10 - i = f + 1 := ⟨9 - i, by omega⟩
    rw [hf] at hr
    by_cases hlen : k + i < s.size
    · rw [drop_cons s _ hlen] at hr
      obtain ⟨c, hc⟩ : ∃ c, s[k + i] = c := ⟨_, rfl⟩
      have hcl : c.toNat < 256 := c.toNat_lt
      have hby : s[k + i].toNat = c.toNat := by rw [hc]
      rw [hc] at hr
      by_cases h9 : i = 9 ∧ 1 < c.toNat
      · obtain rfl := var_over hr h9.1 h9.2
        obtain ⟨rfl, h9'⟩ := h9
        clear hr hf hc
        go_wp2_with fail
        go_ret3
        exact ⟨rfl, rfl⟩
      · have h9' : i = 9 → c.toNat ≤ 1 := by omega
        obtain ⟨d, hd⟩ : ∃ d, c.toNat % 128 = d := ⟨_, rfl⟩
        have e1 : bits .and .u8 (c.toNat : Int) 127 = (d : Int) := by rw [← hd, ← nat_mask7]; exact u8_and_nat c.toNat 127 hcl (by decide)
        have hdl : d < 128 := by omega
        obtain ⟨s1, s2, s3, s4⟩ := shl_fits hi hdl (by omega) hv
        obtain ⟨D, hD⟩ : ∃ D, d * 2 ^ (7 * i) = D := ⟨_, rfl⟩
        rw [hD] at s1 s2 s3 s4
        have e2 : IntKind.u64.wrap ((d : Int) * 2 ^ (7 * i)) = (D : Int) := wrap_nat D D rfl s1 _ (by rw [← hD]; simp)
        have e3 : bits .or .u64 (v : Int) (D : Int) = ((v : Int) + D) := by
          rw [← Int.natCast_add, ← s3]; exact u64_or_nat v D (by omega) s1
        have hr9 : i = 9 → c.toNat ≤ 1 := h9'
        have h9c : ((i : Int) == 9) = false ∨ (((i : Int) == 9) = true ∧ c.toNat ≤ 1) := by
          by_cases h : i = 9
          · exact .inr ⟨by simp; omega, h9' h⟩
          · exact .inl (by simp; omega)
        have H9 := Lib.hid hr9
        have Hr := Lib.hid hr
        have Hf := Lib.hid hf
        have Hd := Lib.hid hd
        have HD := Lib.hid hD
        have S4 := Lib.hid s4
        clear hr9 h9' h9 hr hf hd hD s4 s3 hc hv
        rcases h9c with h9f | ⟨h9f, hc1⟩
        all_goals
          by_cases hc128 : c.toNat < 128
          · by_cases hc0 : c.toNat = 0
            · have b0 : ((c.toNat : Int) == 0) = true := by simp; omega
              have Hc0 := Lib.hid hc0
              clear hc0
              by_cases hi0 : 0 < i
              · obtain rfl := var_form Hr.out Hc0.out hi0
                go_wp2_with fail
                go_ret3
                exact ⟨rfl, rfl⟩
              · obtain rfl := var_end Hr.out H9.out hc128 (fun _ => by omega)
                have hi0' : decide ((0 : Int) < (i : Int)) = false := by simp; omega
                go_wp2_with fail
                go_ret3
                exact ⟨by rw [varV, Hd.out, HD.out]; simp [Int.add_assoc], rfl⟩
            · have b0 : ((c.toNat : Int) == 0) = false := by simp; omega
              obtain rfl := var_end Hr.out H9.out hc128 (fun h => absurd h hc0)
              go_wp2_with fail
              go_ret3
              exact ⟨by rw [varV, Hd.out, HD.out]; simp [Int.add_assoc], rfl⟩
          · first
            | (exfalso; omega)
            | (have hi9 : i < 9 := by
                 have : ¬ i = 9 := by intro e; subst e; simp at h9f
                 omega
               go_wp2_with fail
               go_round
               case rel =>
                 refine ⟨i + 1, v + D, by go_num, by go_num, by omega, by omega, S4.out hi9, ?_⟩
                 have h := var_next Hr.out H9.out (by omega)
                 rw [Hd.out, HD.out] at h
                 rw [show 10 - (i + 1) = f from by have := Hf.out; omega]
                 exact h
               case measure => simp [intOf]; omega)
    · have h2 : s.size ≤ k + i := by omega
      rw [drop_nil s _ h2] at hr
      obtain rfl := var_stop hr
      clear hr hf
      go_wp2_with fail
      go_ret3
      exact ⟨rfl, rfl⟩
theorem refVar_bad (s : ByteArray) (k : Int) (w : World) (h : k < 0 ∨ (s.size : Int) < k) :
    Calls Tryd.prog 81 #[.string s, .int .i64 k] w fun e w' => e = .returned (.tuple #[.int .u64 0, .int .i64 0, .int .i64 13]) ∧ w = w' := by
  by_cases h1 : k < 0
  · go_enter Tryd.func81, Tryd.ntmps81
    go_wp2_with fail
    go_ret3
    exact ⟨rfl, rfl⟩
  · have h2 : (s.size : Int) < k := by omega
    clear h
    go_enter Tryd.func81, Tryd.ntmps81
    go_wp2_with fail
    go_ret3
    exact ⟨rfl, rfl⟩

set_option maxRecDepth 100000 in
set_option maxHeartbeats 1000000 in
theorem refVar_any (s : ByteArray) (k : Nat) (R : Sl.Got) (w : World) (hs : s.size ≤ 9223372036854775807) (hk : k ≤ s.size) (hR : Sl.var (s.data.toList.drop k) = R) :
    Calls Tryd.prog 81 #[.string s, .int .i64 k] w fun e w' => e = .returned (varV k R) ∧ w = w' := by
  have hd1 : decide ((k : Int) < 0) = false := by simp
  have hd2 : decide (s.size < k) = false := by simp; omega
  have HR := Lib.hid hR
  clear hR
  go_enter Tryd.func81, Tryd.ntmps81
  go_wp2_with fail
  go_loop [7, 8, 9] (fun a j _ => ∃ (i v : Nat), a = .int .u64 v ∧ j = .int .i64 i ∧ i ≤ 9 ∧ k + i ≤ s.size ∧ v < 2 ^ (7 * i) ∧ Sl.varAt (10 - i) i v (s.data.toList.drop (k + i)) = R) (fun _ j _ => 10 - (intOf j).toNat)
  case atStart => exact ⟨0, 0, rfl, rfl, by omega, hk, by simp, HR.out⟩
  case round =>
    obtain ⟨i, v, rfl, rfl, hi, hki, hv, hr⟩ := hrel
    obtain ⟨f, hf⟩ : ∃ f, 10 - i = f + 1 := ⟨9 - i, by omega⟩
    rw [hf] at hr
    by_cases hlen : k + i < s.size
    · rw [drop_cons s _ hlen] at hr
      obtain ⟨c, hc⟩ : ∃ c, s[k + i] = c := ⟨_, rfl⟩
      have hcl : c.toNat < 256 := c.toNat_lt
      have hby : s[k + i].toNat = c.toNat := by rw [hc]
      rw [hc] at hr
      by_cases h9 : i = 9 ∧ 1 < c.toNat
      · obtain rfl := var_over hr h9.1 h9.2
        obtain ⟨rfl, h9'⟩ := h9
        clear hr hf hc
        go_wp2_with fail
        go_ret3
        exact ⟨rfl, rfl⟩
      · have h9' : i = 9 → c.toNat ≤ 1 := by omega
        obtain ⟨d, hd⟩ : ∃ d, c.toNat % 128 = d := ⟨_, rfl⟩
        have e1 : (c.toNat : Int) % 128 = (d : Int) := by omega
        have hdl : d < 128 := by omega
        obtain ⟨s1, s2, s3, s4⟩ := shl_fits hi hdl (by omega) hv
        obtain ⟨D, hD⟩ : ∃ D, d * 2 ^ (7 * i) = D := ⟨_, rfl⟩
        rw [hD] at s1 s2 s3 s4
        have e2 : IntKind.u64.wrap ((d : Int) * 2 ^ (7 * i)) = (D : Int) := wrap_nat D D rfl s1 _ (by rw [← hD]; simp)
        have e3 : IntKind.u64.wrap ((v : Int) + D) = ((v : Int) + D) := by rw [← Int.natCast_add]; exact wrap_nat (v + D) _ rfl s2 _ rfl
        have hr9 : i = 9 → c.toNat ≤ 1 := h9'
        have h9c : ((i : Int) == 9) = false ∨ (((i : Int) == 9) = true ∧ c.toNat ≤ 1) := by
          by_cases h : i = 9
          · exact .inr ⟨by simp; omega, h9' h⟩
          · exact .inl (by simp; omega)
        have H9 := Lib.hid hr9
        have Hr := Lib.hid hr
        have Hf := Lib.hid hf
        have Hd := Lib.hid hd
        have HD := Lib.hid hD
        have S4 := Lib.hid s4
        clear hr9 h9' h9 hr hf hd hD s4 s3 hc hv
        rcases h9c with h9f | ⟨h9f, hc1⟩
        all_goals
          by_cases hc128 : c.toNat < 128
          · by_cases hc0 : c.toNat = 0
            · have b0 : ((c.toNat : Int) == 0) = true := by simp; omega
              have Hc0 := Lib.hid hc0
              clear hc0
              by_cases hi0 : 0 < i
              · obtain rfl := var_form Hr.out Hc0.out hi0
                go_wp2_with fail
                go_ret3
                exact ⟨rfl, rfl⟩
              · obtain rfl := var_end Hr.out H9.out hc128 (fun _ => by omega)
                have hi0' : decide ((0 : Int) < (i : Int)) = false := by simp; omega
                go_wp2_with fail
                go_ret3
                exact ⟨by rw [varV, Hd.out, HD.out]; simp [Int.add_assoc], rfl⟩
            · have b0 : ((c.toNat : Int) == 0) = false := by simp; omega
              obtain rfl := var_end Hr.out H9.out hc128 (fun h => absurd h hc0)
              go_wp2_with fail
              go_ret3
              exact ⟨by rw [varV, Hd.out, HD.out]; simp [Int.add_assoc], rfl⟩
          · first
            | (exfalso; omega)
            | (have hi9 : i < 9 := by
                 have : ¬ i = 9 := by intro e; subst e; simp at h9f
                 omega
               go_wp2_with fail
               go_round
               case rel =>
                 refine ⟨i + 1, v + D, by go_num, by go_num, by omega, by omega, S4.out hi9, ?_⟩
                 have h := var_next Hr.out H9.out (by omega)
                 rw [Hd.out, HD.out] at h
                 rw [show 10 - (i + 1) = f from by have := Hf.out; omega]
                 exact h
               case measure => simp [intOf]; omega)
    · have h2 : s.size ≤ k + i := by omega
      rw [drop_nil s _ h2] at hr
      obtain rfl := var_stop hr
      clear hr hf
      go_wp2_with fail
      go_ret3
      exact ⟨rfl, rfl⟩
end Go.Proofs.YtffdplmnjlcmnaaDoor
