/- Names of a store's files: contract of the document's decimal. Conditions: each theorem's own hypotheses. -/
import Derived.Test.YtaljcdkgcbdceaaDoorKdA
import Derived.LoopTactic
namespace Go.Proofs.YtaljcdkgcbdceaaDoor
open Go.RowKit
set_option linter.unusedVariables false

theorem Kd.val_lt (l : List UInt8) : ∀ n, n = l.length → (∀ c ∈ l, 48 ≤ c.toNat ∧ c.toNat ≤ 57) → Kd.val l < 10 ^ n := by
  induction hl : l.length generalizing l with
  | zero => intro n hn _; obtain rfl : l = [] := List.length_eq_zero_iff.1 hl; subst hn; decide
  | succ k ih =>
    intro n hn hd
    have hne : l ≠ [] := by intro e; subst e; simp at hl
    have e := (List.dropLast_concat_getLast hne).symm
    have h1 := ih l.dropLast (by rw [List.length_dropLast]; omega) k rfl (fun c hc => hd c ((List.dropLast_sublist l).subset hc))
    have h2 := hd _ (List.getLast_mem hne)
    subst hn
    rw [e, Kd.val_snoc, Nat.pow_succ]
    omega
theorem Kd.take_snoc (s : ByteArray) (k : Nat) (h : k < s.size) : s.data.toList.take (k + 1) = s.data.toList.take k ++ [s[k]] := by
  rw [List.take_succ_eq_append_getElem (by simpa using h)]; rfl

set_option maxRecDepth 100000 in
set_option maxHeartbeats 1000000 in
theorem kdRefDecimal_any (s : ByteArray) (lo hi : Int) (h0 : 0 ≤ lo) (h2 : hi ≤ 1099511627776) (hs : s.size ≤ 9223372036854775807) (w : World) (hT : Kd.Laid w) (r : Int) (hr : Kd.dec s.data.toList lo hi = r) :
    Calls Tryd.prog 15 #[.string s, .int .i64 lo, .int .i64 hi] w fun e w' => e = .returned (.int .i64 r) ∧ Below w.heap.size w w' := by
  have HT := Lib.hid hT
  clear hT
  by_cases l1 : s.size < 1
  · obtain rfl : -1 = r := by rw [← hr, Kd.not_len h2 (.inl (by rw [← Tx.size]; exact l1))]
    clear hr
    go_enter Tryd.func15, Tryd.ntmps15
    go_wp2_with fail
    go_ret
    exact ⟨rfl, Below.refl _ _⟩
  have t1 : decide (s.size < 1) = false := decide_eq_false l1
  by_cases l2 : 18 < s.size
  · obtain rfl : -1 = r := by rw [← hr, Kd.not_len h2 (.inr (by rw [← Tx.size]; exact l2))]
    clear hr
    go_enter Tryd.func15, Tryd.ntmps15
    go_wp2_with fail
    go_ret
    exact ⟨rfl, Below.refl _ _⟩
  have t2 : decide (18 < s.size) = false := decide_eq_false l2
  have HR := Lib.hid hr
  clear hr
  go_enter Tryd.func15, Tryd.ntmps15
  go_wp2_with fail
  go_loop [7, 8] (fun a b => ∃ k n : Nat, k ≤ s.size ∧ b = .int .i64 k ∧ a = .int .i64 (n : Int) ∧ Hid (Kd.val (s.data.toList.take k) = n ∧ ∀ c ∈ s.data.toList.take k, 48 ≤ c.toNat ∧ c.toNat ≤ 57)) (fun _ b => s.size - (intOf b).toNat)
  case atStart => exact ⟨0, 0, Nat.zero_le _, rfl, rfl, Lib.hid ⟨rfl, fun c hc => by simp at hc⟩⟩
  case round =>
    obtain ⟨k, n, hk, rfl, rfl, HV⟩ := hrel
    by_cases hlt : k < s.size
    · have hn : n ≤ 100000000000000000 := by
        obtain ⟨e, hd⟩ := HV.out
        have := Kd.val_lt _ k (by rw [List.length_take, ← Tx.size]; omega) hd
        have := Nat.pow_le_pow_right (n := 10) (by decide) (show k ≤ 17 by omega)
        have e10 : (10 : Nat) ^ 17 = 100000000000000000 := by decide
        omega
      obtain ⟨c, hc⟩ : ∃ c, s[k] = c := ⟨_, rfl⟩
      have hcl := c.toNat_lt
      have HC := Lib.hid hc
      have hmem : c ∈ s.data.toList := by
        rw [← hc]
        exact List.getElem_mem (l := s.data.toList) (by rw [← Tx.size]; exact hlt)
      by_cases d1 : c.toNat < 48
      · have := HR.out
        rw [Kd.not_digit hmem (by omega)] at this
        subst this
        have u1 : decide ((c.toNat : Int) < 48) = true := by simp; omega
        go_wp2_with fail
        go_ret
        exact ⟨rfl, Below.refl _ _⟩
      have u1 : decide ((c.toNat : Int) < 48) = false := by simp; omega
      by_cases d2 : 57 < c.toNat
      · have := HR.out
        rw [Kd.not_digit hmem (by omega)] at this
        subst this
        have u2 : decide (57 < (c.toNat : Int)) = true := by simp; omega
        go_wp2_with fail
        go_ret
        exact ⟨rfl, Below.refl _ _⟩
      have u2 : decide (57 < (c.toNat : Int)) = false := by simp; omega
      have hc1 : 48 ≤ (c.toNat : Int) := by omega
      have hc2 : (c.toNat : Int) ≤ 57 := by omega
      clear hmem
      go_wp2_with fail
      go_round
      case rel =>
        refine ⟨k + 1, 10 * n + (c.toNat - 48), by omega, by go_num, ?_, Lib.hid ?_⟩
        · congr 1; omega
        · obtain ⟨e, hd⟩ := HV.out
          rw [Kd.take_snoc s k hlt, HC.out, Kd.val_snoc, e]
          refine ⟨rfl, fun x hx => ?_⟩
          rcases List.mem_append.1 hx with hx | hx
          · exact hd x hx
          · rw [List.mem_singleton] at hx; subst hx; omega
      case measure => simp [intOf]; omega
    · obtain rfl : k = s.size := by omega
      obtain ⟨e, hd⟩ := HV.out
      rw [Tx.size, List.take_length] at e
      have hn : n ≤ 1000000000000000000 := by
        rw [Tx.size, List.take_length] at hd
        have := Kd.val_lt _ _ rfl hd
        have := Nat.pow_le_pow_right (n := 10) (by decide) (show s.data.toList.length ≤ 18 by rw [← Tx.size]; omega)
        have e10 : (10 : Nat) ^ 18 = 1000000000000000000 := by decide
        omega
      have hr := HR.out
      rw [Kd.by_val, e] at hr
      clear hd e HV HR
      by_cases i1 : (n : Int) < lo
      · rw [if_neg (by omega)] at hr
        subst hr
        go_wp2_with fail
        go_ret
        exact ⟨rfl, Below.refl _ _⟩
      have v1 : decide ((n : Int) < lo) = false := decide_eq_false i1
      by_cases i2 : hi < (n : Int)
      · rw [if_neg (by omega)] at hr
        subst hr
        go_wp2_with fail
        go_ret
        exact ⟨rfl, Below.refl _ _⟩
      have v2 : decide (hi < (n : Int)) = false := decide_eq_false i2
      obtain ⟨S, hS, _⟩ := Tx.of (Lib.itoa (n : Int))
      have hb := Tx.beq S s
      rw [hS] at hb
      by_cases he : Lib.itoa (n : Int) = s.data.toList
      · rw [if_pos ⟨he, by omega, by omega⟩] at hr
        rw [decide_eq_true he] at hb
        subst hr
        have HS := Lib.hid hS
        clear hS he
        go_wp2_with fail
        refine (kdItoa_any n (by omega) (by omega) w HT.out S HS.out).mono ?_
        rintro e w2 ⟨rfl, B2⟩
        go_wp2_with fail
        go_ret
        exact ⟨rfl, B2⟩
      · rw [if_neg (fun h => he h.1)] at hr
        rw [decide_eq_false he] at hb
        subst hr
        have HS := Lib.hid hS
        clear hS he
        go_wp2_with fail
        refine (kdItoa_any n (by omega) (by omega) w HT.out S HS.out).mono ?_
        rintro e w2 ⟨rfl, B2⟩
        go_wp2_with fail
        go_ret
        exact ⟨rfl, B2⟩
end Go.Proofs.YtaljcdkgcbdceaaDoor
