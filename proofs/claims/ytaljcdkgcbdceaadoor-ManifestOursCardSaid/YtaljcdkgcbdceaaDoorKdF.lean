/- The walks of the laws ManifestNames and ManifestOurs. Conditions: each theorem's own hypotheses. -/
import Derived.Test.YtaljcdkgcbdceaaDoorKdE
import Derived.IntWalk
namespace Go.Proofs.YtaljcdkgcbdceaaDoor
open Go.RowKit
set_option linter.unusedVariables false

theorem kdNum_any (e : Int) (w : World) : Calls Tryd.prog 11 #[.int .i64 e] w fun r w' => r = .returned (.int .i64 e) ∧ w = w' := by
  go_enter Tryd.func11, Tryd.ntmps11
  go_wp2_with fail
  go_ret
  exact ⟨rfl, rfl⟩
theorem kdOptZero (w : World) : Calls Tryd.prog 17 #[.agg #[.int .i64 0, .int .i64 0, .int .i64 0]] w fun e w' => e = .returned (.int .i64 10) ∧ Below w.heap.size w w' := by
  go_enter Tryd.func17, Tryd.ntmps17
  go_wp2_with fail
  go_ret
  exact ⟨rfl, (Below.refl _ _).alloc (Nat.le_refl _) _⟩
theorem kdCheckZero (w : World) : Calls Tryd.prog 10 #[.agg #[.int .i64 0, .int .i64 0, .int .i64 0, .int .i64 0, .int .i64 0, .int .i64 0, .slice none 0 0]] w fun e w' => e = .returned (.int .i64 10) ∧ Below w.heap.size w w' := by
  go_enter Tryd.func10, Tryd.ntmps10
  go_wp2_with fail
  refine (kdOptZero _).mono ?_
  rintro e w1 ⟨rfl, hB⟩
  go_wp2_with fail
  go_ret
  exact ⟨rfl, ((Below.refl _ _).alloc (Nat.le_refl _) _).trans (hB.mono (by simp))⟩

set_option maxRecDepth 100000 in
theorem names8_law (w : World) (hT : Kd.Laid w) :
    Calls Tryd.prog 5 #[] w fun e w' => e = .returned (.bool true) ∧ Below w.heap.size w w' := by
  have hk : Kd.kind (⟨#[106, 55]⟩ : ByteArray).data.toList = (3, 7, 0) := by
    show Kd.kind (106 :: [55]) = _
    have h7 : Kd.dec [55] 1 1099511627776 = 7 := Kd.dec_yes (n := 7) (by rw [Lib.decDigits_one (by decide)]; rfl) (by decide) (by decide)
    rw [Kd.kind_j, h7]; rfl
  have HA := Lib.hid (kdKind_any ⟨#[106, 55]⟩ (by decide) w hT 3 7 0 hk)
  clear hk
  go_enter Tryd.func5, Tryd.ntmps5
  go_wp2_with fail
  refine HA.out.mono ?_
  rintro e w1 ⟨rfl, B1⟩
  go_wp2_with fail
  refine (kdCheckZero _).mono ?_
  rintro e w2 ⟨rfl, B2⟩
  have B3 := B1.trans (B2.mono B1.size)
  clear B1 B2
  go_wp2_with (go_at_call 11; refine (kdNum_any _ _).mono ?_; rintro e w' ⟨rfl, rfl⟩)
  go_ret
  exact ⟨rfl, B3⟩

theorem kdPick_val (k n : Int) (hn : 1 ≤ n) (hn2 : n ≤ 4611686018427387904) :
    (k.tmod n < 0 → wrap64 (k.tmod n + n) = k % n) ∧ (0 ≤ k.tmod n → k.tmod n = k % n) := by
  have h1 := Int.emod_nonneg k (show n ≠ 0 by omega)
  have h2 := Int.emod_lt_of_pos k (show 0 < n by omega)
  have h3 := Int.tmod_eq_emod (a := k) (b := n)
  by_cases hc : 0 ≤ k ∨ n ∣ k
  · rw [if_pos hc] at h3; exact ⟨fun h => by omega, fun _ => by omega⟩
  · rw [if_neg hc, show (n.natAbs : Int) = n from by omega] at h3
    rw [h3]
    refine ⟨fun _ => ?_, fun h => by omega⟩
    rw [IntWalk.wrap64_in _ (by omega)]; omega
theorem kdPick_any (k n : Int) (w : World) (hn : 1 ≤ n) (hn2 : n ≤ 4611686018427387904) :
    Calls Tryd.prog 8 #[.int .i64 k, .int .i64 n] w fun e w' => e = .returned (.int .i64 (k % n)) ∧ w = w' := by
  have hn0 : (n == 0) = false := by rw [beq_eq_false_iff_ne]; omega
  go_enter Tryd.func8, Tryd.ntmps8
  go_wp2_with fail
  · have h : k.tmod n < 0 := by assumption
    have e := (kdPick_val k n hn hn2).1 h
    clear h
    go_ret
    exact ⟨congrArg (fun z => Ending.returned (Value.int .i64 z)) e, rfl⟩
  · have h : 0 ≤ k.tmod n := by assumption
    have e := (kdPick_val k n hn hn2).2 h
    clear h
    go_ret
    exact ⟨congrArg (fun z => Ending.returned (Value.int .i64 z)) e, rfl⟩

theorem Kd.cut_of : ∀ {t : List UInt8}, (Kd.cut t).2 ≠ [] → t = (Kd.cut t).1 ++ 46 :: (Kd.cut t).2
  | t, h => by
    rcases Kd.index_cut t with ⟨_, hn⟩ | ⟨i, _, _, e, hn⟩
    · rw [Kd.cut_none hn] at h; exact absurd rfl h
    · rw [e, Kd.cut_at hn]
theorem Kd.digits_dot (u : Nat) : ∀ c ∈ Lib.decDigits u, c ≠ 46 := fun c hc e => by
  have := Kd.dec_digits u c hc
  subst e
  exact absurd this.1 (by decide)
theorem Kd.no_nought : ∀ (u : Nat) (t : List UInt8), Lib.decDigits u = 48 :: t → t = [] := by
  intro u
  induction u using Nat.strongRecOn with
  | _ u ih =>
    intro t h
    rw [Lib.decDigits] at h
    split at h
    · injection h with _ h; exact h.symm
    · rename_i hu
      exfalso
      cases hd : Lib.decDigits (u / 10) with
      | nil => exact Kd.dec_ne _ hd
      | cons c r =>
        rw [hd, List.cons_append] at h
        injection h with h1 h2
        subst h1
        have hr := ih (u / 10) (by omega) r hd
        subst hr
        have := Kd.val_dec (u / 10)
        rw [hd] at this
        have e0 : Kd.val [48] = 0 := by decide
        rw [e0] at this
        omega
theorem Kd.dec_hi {u : Nat} {lo hi : Int} (h : hi < u) : Kd.dec (Lib.decDigits u) lo hi = -1 := Kd.dec_no fun n _ b e => by
  have := Kd.dec_inj e
  omega
theorem Kd.kind_inv (l : List UInt8) : (Kd.kind l = (1, 0, 0) ∧ l = Kd.man) ∨ (Kd.kind l = (2, 0, 0) ∧ l = Kd.new) ∨ (∃ u : Nat, Kd.kind l = (3, (u : Int), 0) ∧ l = 106 :: Lib.decDigits u ∧ 1 ≤ u ∧ u ≤ 1099511627776) ∨
    (∃ u v : Nat, Kd.kind l = (4, (u : Int), (v : Int)) ∧ l = 114 :: (Lib.decDigits u ++ 46 :: Lib.decDigits v) ∧ 1 ≤ u ∧ u ≤ 1099511627776 ∧ v ≤ 127) ∨ (Kd.kind l = (0, 0, 0) ∧ l ≠ Kd.man ∧ l ≠ Kd.new) := by
  by_cases h1 : l = Kd.man
  · exact .inl ⟨by unfold Kd.kind; rw [if_pos h1], h1⟩
  by_cases h2 : l = Kd.new
  · exact .inr (.inl ⟨by unfold Kd.kind; rw [if_neg h1, if_pos h2], h2⟩)
  by_cases h3 : ∃ t, l = 106 :: t
  · obtain ⟨t, rfl⟩ := h3
    rcases Kd.dec_cases t 1 1099511627776 with ⟨n, e, a, b, ed⟩ | ⟨ed, _⟩
    · refine .inr (.inr (.inl ⟨n, ?_, by rw [e], by omega, by omega⟩))
      rw [Kd.kind_j, ed, if_pos (by omega)]
    · refine .inr (.inr (.inr (.inr ⟨?_, h1, h2⟩)))
      rw [Kd.kind_j, ed, if_neg (by decide)]
  by_cases h4 : ∃ t, l = 114 :: t
  · obtain ⟨t, rfl⟩ := h4
    rcases Kd.dec_cases (Kd.cut t).1 1 1099511627776 with ⟨n, e, a, b, ed⟩ | ⟨ed, _⟩
    · rcases Kd.dec_cases (Kd.cut t).2 0 127 with ⟨m, e', a', b', ed'⟩ | ⟨ed', _⟩
      · have ht := Kd.cut_of (t := t) (by rw [e']; exact Kd.dec_ne m)
        refine .inr (.inr (.inr (.inl ⟨n, m, ?_, ?_, by omega, by omega, by omega⟩)))
        · rw [Kd.kind_r, ed, ed', if_pos ⟨by omega, by omega⟩]
        · rw [e, e'] at ht; rw [← ht]
      · refine .inr (.inr (.inr (.inr ⟨?_, h1, h2⟩)))
        rw [Kd.kind_r, ed', if_neg (fun h => absurd h.2 (by decide))]
    · refine .inr (.inr (.inr (.inr ⟨?_, h1, h2⟩)))
      rw [Kd.kind_r, ed, if_neg (fun h => absurd h.1 (by decide))]
  exact .inr (.inr (.inr (.inr ⟨Kd.kind_no h1 h2 (fun t e => h3 ⟨t, e⟩) (fun t e => h4 ⟨t, e⟩), h1, h2⟩)))

theorem kd_add (a b z : ByteArray) (h : z.data.toList = a.data.toList ++ b.data.toList) (hs : z.size ≤ 9223372036854775807) : ∀ w, (Op.stringOp .add a b).run Tryd.prog w = .ok (.string z) w := fun w => by
  have e : a ++ b = z := Tx.ext (by rw [Tx.append, h])
  rw [← e]
  refine run_string_add_sum w _ _ ?_
  have : (a ++ b).size = a.size + b.size := ByteArray.size_append
  rw [e] at this
  omega
end Go.Proofs.YtaljcdkgcbdceaaDoor
