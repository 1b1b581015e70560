/- Disks, plain: refused writes change nothing, writes are counted, a crash where all is durable. Conditions: each theorem's own hypotheses. -/
import Derived.Test.YtifkhjihgnnpfaaGreatDoorZDwE
namespace Go.Proofs.YtifkhjihgnnpfaaGreatDoor
open Go.RowKit Go.Maps Go.Sort
set_option linter.unusedVariables false

/-- What a write can be. -/
def Dw.Way (m m' : Dk.M) (e : Int) : Prop :=
  (m' = m ∧ e ≠ 0 ∧ (e = 45 → m.off = true)) ∨ (m.off = false ∧ m'.writes = IntKind.i64.wrap (m.writes + 1) ∧ (e = 0 ∨ e = 45))
theorem Dw.way_acc {m : Dk.M} (ho : m.off = false) (last : Bool) (fs : List Dk.F) : Dw.Way m (Dk.acc m last fs).1 (Dk.acc m last fs).2 := by
  refine .inr ⟨ho, ?_⟩
  unfold Dk.acc
  split
  · exact ⟨rfl, .inl rfl⟩
  split
  · exact ⟨rfl, .inl rfl⟩
  · exact ⟨rfl, .inr rfl⟩
theorem Dw.way_code {m : Dk.M} {nm : List UInt8} (h : Dk.code m nm ≠ 0) : Dw.Way m m (Dk.code m nm) := by
  refine .inl ⟨rfl, h, fun e => ?_⟩
  unfold Dk.code at e
  split at e
  · assumption
  · split at e
    · split at e <;> exact absurd e (by decide)
    · exact absurd e (by decide)
theorem Dw.way_of {m : Dk.M} (e : Int) (h : decide (e ≠ 0 ∧ e ≠ 45) = true) : Dw.Way m m e := .inl ⟨rfl, (of_decide_eq_true h).1, fun k => absurd k (of_decide_eq_true h).2⟩
theorem Dw.way_done (m : Dk.M) (s : Dw.S) : Dw.Way m (Dw.done m s).1 (Dw.done m s).2 := by
  unfold Dw.done
  split
  · unfold Dk.create
    split
    · exact Dw.way_of 41 rfl
    split
    · rename_i h0 _
      exact Dw.way_code h0
    rename_i _ h1
    obtain ⟨_, _, h2⟩ := Dk.code_none (Decidable.not_not.1 h1)
    split
    · exact Dw.way_of 43 rfl
    · exact Dw.way_acc h2 _ _
  split
  · unfold Dk.append
    split
    · rename_i h; exact Dw.way_code h
    rename_i h
    have h2 := (Dk.code_zero (Decidable.not_not.1 h)).1
    split
    · exact Dw.way_of 36 rfl
    split
    · exact Dw.way_of 44 rfl
    · exact Dw.way_acc h2 _ _
  split
  · unfold Dk.sync
    split
    · rename_i h; exact Dw.way_code h
    rename_i h
    exact Dw.way_acc (Dk.code_zero (Decidable.not_not.1 h)).1 _ _
  split
  · unfold Dk.cut
    split
    · rename_i h; exact Dw.way_code h
    rename_i h
    split
    · exact Dw.way_of 13 rfl
    · exact Dw.way_acc (Dk.code_zero (Decidable.not_not.1 h)).1 _ _
  split
  · unfold Dk.rename
    split
    · rename_i h
      exact h ▸ Dw.way_code (by rw [h]; decide)
    split
    · exact Dw.way_of 40 rfl
    split
    · rename_i h; exact Dw.way_code h
    rename_i h
    exact Dw.way_acc (Dk.code_zero (Decidable.not_not.1 h)).1 _ _
  · unfold Dk.delete
    split
    · rename_i h; exact Dw.way_code h
    rename_i h
    exact Dw.way_acc (Dk.code_zero (Decidable.not_not.1 h)).1 _ _

/-- A file that is durable whole. -/
theorem Dw.left_none {f : Dk.F} (h : f.sure ≤ f.data.length) : Dk.left [] f = ⟨f.name, f.data.take f.sure, f.sure⟩ := by
  have hk : Dk.kept (Dk.cutOf [] f.name) f = 0 := by
    show min (max (0 : Int) 0).toNat _ = 0
    simp
  unfold Dk.left Dk.leave
  rw [hk]
  simp
theorem Dw.left_whole (l : List Dk.Cut) {f : Dk.F} (h : f.sure = f.data.length) : Dk.left l f = f := by
  have hk : Dk.kept (Dk.cutOf l f.name) f = 0 := by
    unfold Dk.kept
    rw [h, Nat.sub_self, Nat.min_zero]
  unfold Dk.left Dk.leave
  rw [hk]
  obtain ⟨a, b, c⟩ := f
  simp only at h
  subst h
  simp
theorem Dw.left_sure (l : List Dk.Cut) {f : Dk.F} (h : f.sure ≤ f.data.length) : (Dk.left l f).sure = (Dk.left l f).data.length := (Dk.leave_len (Dk.cutOf l f.name) f h).symm
/-- A crash behind a crash changes the age alone. -/
theorem Dw.crash_again {m : Dk.M} (hG : Dk.Good m) (k l : List Dk.Cut) : (Dk.crash (Dk.crash m k) l).files = (Dk.crash m k).files := by
  show ((m.files.map (Dk.left k)).map (Dk.left l)) = m.files.map (Dk.left k)
  rw [List.map_map]
  refine List.map_congr_left fun f hf => ?_
  exact Dw.left_whole l (Dw.left_sure k (hG.file f hf).2.2)
#print axioms Dw.way_done
#print axioms Dw.crash_again
end Go.Proofs.YtifkhjihgnnpfaaGreatDoor
