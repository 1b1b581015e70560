/- Disks (the document's): images. Conditions: each theorem's own hypotheses. -/
import Derived.Test.YthhkebkpophkiaaDoorDrA
namespace Go.Proofs.YthhkebkpophkiaaDoor
open Go.RowKit Go.Maps Go.Sort
set_option linter.unusedVariables false

theorem Dr.not_own {w : World} {B : Nat} {v : Value} {l : List UInt8} (h : Dk.Own w B v l) {g : Nat} {t : TypeId} {cs : Array Value} (hb : Blk w g t cs) (ht : t ≠ 5) : some g ≠ v.ownBlock := by
  intro e
  rcases h.2 with ⟨rfl, _⟩ | ⟨g2, cap, cur, rfl, _, hg, _⟩
  · cases e
  · injection e with e
    subst e
    unfold Blk at hb
    rw [hb] at hg
    injection hg with hg
    injection hg with _ hg _
    exact ht hg
theorem Dr.be_cells (n : Nat) (hn : n ≤ 268435456) : (#[Value.int IntKind.u8 ((n : Int) / 16777216), Value.int IntKind.u8 ((n : Int) / 65536 % 256), Value.int IntKind.u8 ((n : Int) / 256 % 256), Value.int IntKind.u8 ((n : Int) % 256)] : Array Value) = ((Dk.be4 n).map Dk.bv).toArray := by
  have h : ∀ k : Nat, ((UInt8.ofNat (k % 256)).toNat : Int) = (k : Int) % 256 := fun k => by
    rw [UInt8.toNat_ofNat', Nat.mod_eq_of_lt (Nat.mod_lt _ (by decide))]
    omega
  unfold Dk.be4 Dk.bv
  simp only [List.map_cons, List.map_nil, h]
  congr 5
  · congr 1
    omega
section
variable {W : World} {r : Nat} {m : Dk.M} {F : Nat → Prop}
end
end Go.Proofs.YthhkebkpophkiaaDoor
