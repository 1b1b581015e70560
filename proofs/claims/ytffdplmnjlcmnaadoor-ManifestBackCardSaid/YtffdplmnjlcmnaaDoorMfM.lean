/- The law's helper same, of a manifest and its copy. Conditions: each theorem's own hypotheses. -/
import Derived.Test.YtffdplmnjlcmnaaDoorMfL
namespace Go.Proofs.YtffdplmnjlcmnaaDoor
open Go.RowKit Go.Maps
set_option linter.unusedVariables false

theorem num_any (e : Int) (w : World) : Calls Tryd.prog 16 #[.int .i64 e] w fun r w' => r = .returned (.int .i64 e) ∧ w' = w := by
  go_enter Tryd.func16, Tryd.ntmps16
  go_wp2_with fail
  go_ret
  exact ⟨rfl, rfl⟩

def SmRel (M : Man) (A A' : Option Addr) (cap cap' : Nat) (w : World) (i : Value) (wr : World) : Prop :=
  ∃ k : Nat, k ≤ M.runs.length ∧ i = .int .i64 k ∧ Blk wr w.heap.size 26 (manCells M A cap) ∧ Blk wr (w.heap.size + 1) 26 (manCells M A' cap') ∧ Below w.heap.size w wr

set_option maxRecDepth 100000 in
set_option maxHeartbeats 1000000 in
theorem same_any (M : Man) (A A' : Option Addr) (cap cap' : Nat) (w : World) (H : Rs w w.heap.size A M.runs) (H' : Rs w w.heap.size A' M.runs) (hm : M.runs.length ≤ 4398046511104) :
    Calls Tryd.prog 18 #[manV M A cap, manV M A' cap'] w fun e w' => e = .returned (.bool true) ∧ Below w.heap.size w w' := by
  unfold manV
  go_enter Tryd.func18, Tryd.ntmps18
  have hk1 : ∀ o : Obj, (w.alloc o).heap.size = w.heap.size + 1 := fun o => by simp
  have hb0 : Blk ((w.alloc (.cells (manCells M A cap) 26)).alloc (.cells (manCells M A' cap') 26)) w.heap.size 26 (manCells M A cap) := (Blk.new w _ _).alloc _
  have hb1 : Blk ((w.alloc (.cells (manCells M A cap) 26)).alloc (.cells (manCells M A' cap') 26)) (w.heap.size + 1) 26 (manCells M A' cap') := by rw [← hk1]; exact Blk.new _ _ _
  have BW : Below w.heap.size w ((w.alloc (.cells (manCells M A cap) 26)).alloc (.cells (manCells M A' cap') 26)) := ((Below.refl _ _).alloc (Nat.le_refl _) _).alloc (by simp) _
  have HB0 := Lib.hid hb0
  have HB1 := Lib.hid hb1
  clear hb0 hb1
  go_wp2_with fail
  go_loopw [5] (fun i wr => SmRel M A A' cap cap' w i wr) (fun i _ => M.runs.length - (intOf i).toNat)
  case atStart => exact ⟨0, Nat.zero_le _, rfl, HB0.out, HB1.out, BW⟩
  case round =>
    obtain ⟨k, hk, rfl, hb, hb', hB⟩ := hrel
    have c6 : wr.cell? ⟨w.heap.size, 6, none⟩ = some (.slice A M.runs.length cap) := hb.cell 6
    have c6' : wr.cell? ⟨w.heap.size + 1, 6, none⟩ = some (.slice A' M.runs.length cap') := hb'.cell 6
    by_cases hlt : k < M.runs.length
    · obtain ⟨b, off, r, rfl, hbb, hj, e0, e1, e2, e3⟩ := (H.below hB).at_ hlt
      obtain ⟨b', off', r', rfl, hbb', hj', f0, f1, f2, f3⟩ := (H'.below hB).at_ hlt
      obtain rfl := Option.some.inj (hj.symm.trans hj')
      have HJ := Lib.hid hj
      clear hj hj'
      have hj0 : (0 : Int) ≤ (k : Int) := by omega
      have hj1 : (k : Int) < (M.runs.length : Int) := by omega
      go_wp2_with fail
      go_quiet (fail)
      all_goals go_wp2_with fail
      go_roundw
      case rel => exact ⟨k + 1, by omega, by go_num, hb, hb', below_dn hB _⟩
      case measure => simp [intOf]; omega
    · obtain rfl : k = M.runs.length := by omega
      go_wp2_with fail
      go_ret
      exact ⟨rfl, hB⟩
end Go.Proofs.YtffdplmnjlcmnaaDoor
