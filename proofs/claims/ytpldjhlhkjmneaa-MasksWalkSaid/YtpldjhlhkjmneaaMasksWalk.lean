/- The law MasksWalk returns true: masks.First and masks.Next answer as the document's own, for every three numbers. Conditions: none. -/
import Derived.Test.YtpldjhlhkjmneaaRows
import Derived.WalkKit
import Derived.ProofKit
import Derived.OpenShut
import Derived.Test.YtpldjhlhkjmneaaMasksG
namespace Go.Proofs.Ytpldjhlhkjmneaa.masksWalk
open Go.ChangeShapes Go.WideShapes Go.ChangeAt Go.RowKit
set_option linter.unusedVariables false      -- a walk need not use every 'w<i>' (that an integer argument fits its kind)

theorem own : ownKnob Try.prog.godebug = none := by kernel_rfl

set_option maxHeartbeats 1000000 in
/-- The walk: the Go text returns true; the world has at most new blocks. -/
theorem walk (a0 : Int) (a1 : Int) (a2 : Int) (w0 : (Lit.int .i64 a0).wf = true) (w1 : (Lit.int .i64 a1).wf = true) (w2 : (Lit.int .u64 a2).wf = true) (w : World) :
    Calls Try.prog 10 #[.int .i64 a0, .int .i64 a1, .int .u64 a2] w fun e w' => e = .returned (.bool true) ∧ Below w.heap.size w w' := by
  have hm0 : 0 ≤ a2 ∧ a2 < 18446744073709551616 := by
    have := bounds_u64 w2; omega
  obtain ⟨m, rfl⟩ := Int.eq_ofNat_of_zero_le hm0.1
  have hm : m < 18446744073709551616 := by omega
  clear hm0
  obtain ⟨v, b, h1, h2⟩ : ∃ (v : Nat) (b : Bool), (∀ w : World, Calls Try.prog 23 #[.int .i64 a0, .int .u64 m] w fun e w' => e = .returned (.tuple #[.int .u64 v, .bool b]) ∧ w = w') ∧
      (∀ w : World, Calls Try.prog 24 #[.int .i64 a0, .int .u64 m] w fun e w' => e = .returned (.tuple #[.int .u64 v, .bool b]) ∧ Below w.heap.size w w') := by
    by_cases hbad : a0 < 0 ∨ 64 < a0
    · exact ⟨0, false, fun w => next_bad a0 m w hbad, fun w => (refNext_bad a0 m w hbad).mono fun e w' ⟨he, hw⟩ => ⟨he, hw ▸ Below.refl _ _⟩⟩
    · obtain ⟨n, rfl⟩ := Int.eq_ofNat_of_zero_le (show 0 ≤ a0 by omega)
      have hn : n ≤ 64 := by omega
      by_cases hin : m < 2 ^ n
      · have h3 := Mm.rk_lt n m
        by_cases hl : Mm.rk n m + 1 < Mm.C n (Mm.wt n m)
        · exact ⟨Mm.nextOf n m, true, fun w => next_yes n m w hn hin hl, fun w => refNext_in n m _ true w hn hin (.inl ⟨hl, rfl, rfl⟩)⟩
        · exact ⟨0, false, fun w => next_no n m w hn hin (by omega), fun w => refNext_in n m _ false w hn hin (.inr ⟨by omega, rfl, rfl⟩)⟩
      · exact ⟨0, false, fun w => next_out n m w hn (by have := le_low n m; omega), fun w => (refNext_out n m w hn hm (by omega)).mono fun e w' ⟨he, hw⟩ => ⟨he, hw ▸ Below.refl _ _⟩⟩
  obtain ⟨f, c, h3, h4⟩ : ∃ (f : Nat) (c : Bool), (∀ w : World, Calls Try.prog 21 #[.int .i64 a0, .int .i64 a1] w fun e w' => e = .returned (.tuple #[.int .u64 f, .bool c]) ∧ w = w') ∧
      (∀ w : World, Calls Try.prog 22 #[.int .i64 a0, .int .i64 a1] w fun e w' => e = .returned (.tuple #[.int .u64 f, .bool c]) ∧ Below w.heap.size w w') := by
    by_cases hbad : a0 < 0 ∨ 64 < a0 ∨ a1 < 0 ∨ a0 < a1
    · exact ⟨0, false, fun w => first_no a0 a1 w hbad, fun w => (refFirst_no a0 a1 w hbad).mono fun e w' ⟨he, hw⟩ => ⟨he, hw ▸ Below.refl _ _⟩⟩
    · obtain ⟨n, rfl⟩ := Int.eq_ofNat_of_zero_le (show 0 ≤ a0 by omega)
      obtain ⟨s, rfl⟩ := Int.eq_ofNat_of_zero_le (show 0 ≤ a1 by omega)
      exact ⟨lowN s, true, fun w => first_yes n s w (by omega) (by omega), fun w => refFirst_yes n s w (by omega) (by omega)⟩
  have H1 := Lib.hid h1
  have H2 := Lib.hid h2
  have H3 := Lib.hid h3
  have H4 := Lib.hid h4
  clear h1 h2 h3 h4
  go_enter Try.func10, Try.ntmps10
  go_wp2_with fail
  refine (H3.out _).mono ?_
  rintro e w' ⟨rfl, rfl⟩
  go_wp2_with fail
  refine (H4.out _).mono ?_
  rintro e w3 ⟨rfl, hB3⟩
  go_wp2_with fail
  refine (H1.out _).mono ?_
  rintro e w' ⟨rfl, rfl⟩
  go_wp2_with fail
  refine (H2.out _).mono ?_
  rintro e w4 ⟨rfl, hB4⟩
  have hB := hB3.trans (hB4.mono hB3.size)
  clear hB3 hB4
  go_wp2
  go_ret
  exact ⟨rfl, hB⟩

set_option maxRecDepth 100000 in
theorem lifted (os : Os) (started : os.Started) (H : Type) (enc : TypeId × Value → H) :
    ReturnsInHanded {} Try.checked os 10 .any (Rows.masksWalkSpec.pre6 enc Try.prog Try.f10 Rows.masksWalkRow.domain false) (Rows.masksWalkSpec.post enc Try.prog Try.f10 false true false false) := by
  refine returnsInHanded_of_change (C := Try.checked) own started (by kernel_rfl) Try.func10
    (ChangeSpec.witness6 (enc := enc) (C := Try.checked) false ⟨#[], #[.int .i64 0, .int .i64 0, .int .u64 0], []⟩ 8 (by kernel_rfl) (by kernel_rfl) (by kernel_rfl) (by kernel_rfl)) ?_
  intro W base args ds gs before hval0 hW hcnd _
  have hval : ∀ (j : Nat) t v, Try.f10.params[j]? = some t → args[j]? = some v → Value.okWide Try.prog W .any base t v := hval0
  have hW' := hW
  obtain ⟨p, q, hA0, hV, rfl, hfz, hnd⟩ := hW
  have hA : DataW.TrodAll enc Try.prog W 0 (fun _ => true) true Try.f10.params.toList args.toList ds p := hA0
  rw [Try.params10] at hA hval
  obtain ⟨v0, vs0, d0, ds0, p0, q0, hargs, rfl, rfl, h0, r0⟩ := trodAll_cons hA
  obtain ⟨v1, vs1, d1, ds1, p1, q1, rfl, rfl, rfl, h1, r1⟩ := trodAll_cons r0
  obtain ⟨v2, vs2, d2, ds2, p2, q2, rfl, rfl, rfl, h2, r2⟩ := trodAll_cons r1
  obtain ⟨rfl, rfl, rfl⟩ := trodAll_nil r2
  obtain rfl : args = #[v0, v1, v2] := by cases args; simp_all
  obtain ⟨rfl, rfl⟩ := trodVars_none hV
  obtain ⟨a0, rfl, rfl, rfl, w0⟩ := open_int Try.underlying3 (hval 0 3 v0 rfl rfl) h0
  obtain ⟨a1, rfl, rfl, rfl, w1⟩ := open_int Try.underlying3 (hval 1 3 v1 rfl rfl) h1
  obtain ⟨a2, rfl, rfl, rfl, w2⟩ := open_int Try.underlying43 (hval 2 43 v2 rfl rfl) h2
  clear hA0 hval0
  simp only [List.append_nil] at hW'
  refine (walk a0 a1 a2 w0 w1 w2 W).mono fun e W' ⟨he, hg⟩ => ?_
  subst he
  exact ⟨_, rfl, _, _, _, [], [], [], hW', (trodAll_cons_mk (shut_bool Try.underlying4 _) trodAll_mk0), (trodAll_cons_mk (shut_int Try.underlying3 w0) (trodAll_cons_mk (shut_int Try.underlying3 w1) (trodAll_cons_mk (shut_int Try.underlying43 w2) trodAll_mk0))), rfl, hg.frame _, fun h => by cases h⟩

theorem over : Rows.masksWalkRow.holds Try.pinned (OpenSpec.ofChange Rows.masksWalkSpec) :=
  OpenClaim.holds_of_wide 10 Try.f10 rfl rfl rfl rfl rfl rfl rfl ⟨rfl, rfl, rfl, rfl, rfl⟩ rfl rfl rfl rfl rfl (by kernel_rfl) Try.func10 (by kernel_rfl)
    (of_decide_eq_true (by kernel_rfl)) (by unfold Func.isWrapper; first | (rw [if_pos (by decide +kernel)]; kernel_rfl) | (rw [if_neg (by decide +kernel)]; exact ⟨rfl, rfl⟩))
    (fun os started H enc _ => lifted os started H enc)

/-- The statement. -/
theorem proved : Rows.MasksWalkSaid :=
  over
#print axioms proved
end Go.Proofs.Ytpldjhlhkjmneaa.masksWalk
