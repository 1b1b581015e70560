/- Law DiskNew: whatever the image and the capacity: it returns true. Conditions: each theorem's own hypotheses. -/
import Derived.Test.YthhkebkpophkiaaDoorDwA
namespace Go.Proofs.YthhkebkpophkiaaDoor
open Go.RowKit Go.Maps Go.Sort
set_option linter.unusedVariables false

theorem Dk.code_at {m : Dk.M} (hG : Dk.Good m) (ho : m.off = false) {k : Nat} {f : Dk.F} (hf : m.files[k]? = some f) : Dk.code m f.name = 0 ∧ Dk.data m f.name = f.data := by
  have hg := Dk.get_at hG.up hf
  have hn := (hG.file f (List.mem_of_getElem? hf)).1
  unfold Dk.code Dk.data
  rw [ho, hn, hg]
  exact ⟨rfl, rfl⟩
theorem Dk.read_all {m : Dk.M} (hG : Dk.Good m) (ho : m.off = false) {k : Nat} {f : Dk.F} (hf : m.files[k]? = some f) : Dk.readV m f.name 0 (f.data.length : Nat) = .tuple #[Tx.v f.data, .int .i64 0] := by
  obtain ⟨h1, h2⟩ := Dk.code_at hG ho hf
  unfold Dk.readV
  rw [if_pos h1, h2, if_neg (by omega)]
  rw [Int.toNat_natCast, show (0 : Int).toNat = 0 from rfl, List.drop_zero, List.take_length]
theorem Dk.opened_off {l : List UInt8} {c : Int} {m : Dk.M} (h : Dk.opened l c = .ok m) : m.off = false ∧ m.cap = c.toNat ∧ 0 ≤ c ∧ c ≤ 1073741824 := by
  unfold Dk.opened at h
  split at h
  · cases h
  · rename_i hc
    cases l with
    | nil => cases h
    | cons x r =>
      simp only at h
      split at h
      · cases hs : Dk.scan (r.length + 1) [] r with
        | none => rw [hs] at h; cases h
        | some fs =>
          rw [hs] at h
          unfold Dk.verdict at h
          simp only at h
          split at h
          · cases h
          · injection h with h
            subst h
            exact ⟨rfl, rfl, by omega, by omega⟩
      · cases h
theorem Dk.opened_error {l : List UInt8} {c x : Int} (h : Dk.opened l c = .error x) : x = 13 ∨ x = 46 ∨ x = 44 := by
  unfold Dk.opened at h
  split at h
  · injection h with h; exact .inl h.symm
  · cases l with
    | nil => injection h with h; exact .inr (.inl h.symm)
    | cons y r =>
      simp only at h
      split at h
      · cases hs : Dk.scan (r.length + 1) [] r with
        | none => rw [hs] at h; injection h with h; exact .inr (.inl h.symm)
        | some fs =>
          rw [hs] at h
          unfold Dk.verdict at h
          simp only at h
          split at h
          · injection h with h; exact .inr (.inr h.symm)
          · cases h
      · injection h with h; exact .inr (.inl h.symm)
end Go.Proofs.YthhkebkpophkiaaDoor
