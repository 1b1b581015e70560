/- Disks: small laws for a crash. Conditions: each theorem's own hypotheses. -/
import Derived.Test.YtgbeeghdoilmkaaDkCC
import Derived.Laws.BitsAllLaws
namespace Go.Proofs.Ytgbeeghdoilmkaa
open Go.RowKit Go.Maps Go.Sort
set_option linter.unusedVariables false

theorem Dk.sumOf_le (l : List Dk.Cut) (lf : Lit → Bool) (L : List Dk.X) (h : ∀ x ∈ L, x.f.sure ≤ x.f.data.length) : Dk.sumOf l lf L ≤ Dk.used (L.map fun x => x.f) := by
  induction L with
  | nil => exact Nat.le_refl _
  | cons x r ih =>
    have h1 := ih fun y hy => h y (List.mem_cons_of_mem _ hy)
    have h2 := h x (List.mem_cons_self ..)
    have h3 : (Dk.left l x.f).data.length ≤ x.f.data.length := by
      unfold Dk.left
      rw [Dk.leave_len _ _ h2]
      exact Dk.kept_le _ _ h2
    unfold Dk.sumOf at h1 ⊢
    rw [List.map_cons, List.sum_cons, List.map_cons, Dk.used_cons]
    have h4 : (if lf (.string x.nm) = true then 0 else (Dk.left l x.f).data.length) ≤ x.f.data.length := by split <;> omega
    omega
theorem Dk.xor_u8 (a c : UInt8) : bits .xor .u8 (a.toNat : Int) (c.toNat : Int) = ((a ^^^ c).toNat : Int) := by
  rw [UInt8.toNat_xor]
  exact u8_xor_nat _ _ a.toNat_lt c.toNat_lt
end Go.Proofs.Ytgbeeghdoilmkaa
