/- Manifests: options. Contracts of optioned and of the document's Opts. Conditions: each theorem's own hypotheses. -/
import Derived.Test.YtffdplmnjlcmnaaDoorProg
import Derived.WalkKit
import Derived.Lib.Hide
import Derived.Below
import Derived.IntWalk
import Derived.Deep.Light
namespace Go.Proofs.YtffdplmnjlcmnaaDoor
open Go.RowKit
set_option linter.unusedVariables false

/-- Why options do not go. -/
def Mf.opts (w c m : Int) : Nat :=
  if w < 64 ∨ 1024 < w ∨ ¬ w % 64 = 0 then 10
  else if ¬ m = 1 ∧ ¬ m = 2 then 81
  else if m = 2 ∧ ¬ c = 0 then 12
  else if m = 1 ∧ (c < w / 32 ∨ w / 8 < c) then 12
  else 0

set_option maxRecDepth 100000 in
set_option maxHeartbeats 1000000 in
theorem optioned_any (w c m : Int) (hw : -9223372036854775808 ≤ w ∧ w ≤ 9223372036854775807) (n : Nat) (hn : Mf.opts w c m = n) (W : World) :
    Calls Tryd.prog 36 #[.agg #[.int .i64 w, .int .i64 c, .int .i64 m]] W fun e W' => e = .returned (.int .i64 n) ∧ Below W.heap.size W W' := by
  have HN := Lib.hid hn
  clear hn
  go_enter Tryd.func36, Tryd.ntmps36
  go_wp2_with fail
  all_goals
    go_ret
    refine ⟨congrArg (fun z : Int => Ending.returned (Value.int .i64 z)) ?_, (Below.refl _ _).alloc (Nat.le_refl _) _⟩
    go_light
    have hn := HN.out
    clear HN
    unfold Mf.opts at hn
    try simp only [bne_iff_ne, bne_eq_false_iff_eq, ne_eq] at *
    (repeat' split at hn) <;> omega

set_option maxRecDepth 100000 in
set_option maxHeartbeats 1000000 in
theorem refOpts_any (w c m : Int) (hw : -9223372036854775808 ≤ w ∧ w ≤ 9223372036854775807) (n : Nat) (hn : Mf.opts w c m = n) (W : World) :
    Calls Tryd.prog 52 #[.agg #[.int .i64 w, .int .i64 c, .int .i64 m]] W fun e W' => e = .returned (.int .i64 n) ∧ Below W.heap.size W W' := by
  have HN := Lib.hid hn
  clear hn
  go_enter Tryd.func52, Tryd.ntmps52
  go_wp2_with fail
  all_goals
    go_ret
    refine ⟨congrArg (fun z : Int => Ending.returned (Value.int .i64 z)) ?_, (Below.refl _ _).alloc (Nat.le_refl _) _⟩
    go_light
    have hn := HN.out
    clear HN
    unfold Mf.opts at hn
    try simp only [bne_iff_ne, bne_eq_false_iff_eq, ne_eq] at *
    (repeat' split at hn) <;> omega
end Go.Proofs.YtffdplmnjlcmnaaDoor
