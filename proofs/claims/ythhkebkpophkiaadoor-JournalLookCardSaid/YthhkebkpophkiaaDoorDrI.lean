/- Disks in memory (the document's): Rename. Conditions: each theorem's own hypotheses. -/
import Derived.Test.YthhkebkpophkiaaDoorDrG
import Derived.Deep.RegionHeldLaw
namespace Go.Proofs.YthhkebkpophkiaaDoor
open Go.RowKit Go.Maps Go.Sort
set_option linter.unusedVariables false

/-- The load of the list of files, under a name (Rename). -/
def Dr.o44 : Op := Op.load 74 (Operand.tmp 43)
attribute [go_sem] Dr.o44
/-- A file's cells in a block. -/
def Dr.P3 (p : Nat) (nb db : ByteArray) (n : Nat) (W : World) : Prop := W.cell? ⟨p, 0, none⟩ = some (.string nb) ∧ W.cell? ⟨p, 1, none⟩ = some (.string db) ∧ W.cell? ⟨p, 2, none⟩ = some (.int .i64 n)
theorem Dr.P3.keep {p : Nat} {nb db : ByteArray} {n : Nat} {W W' : World} (h : Dr.P3 p nb db n W) (hk : W'.heap[p]? = W.heap[p]?) : Dr.P3 p nb db n W' :=
  ⟨(World.cell?_of_block hk).trans h.1, (World.cell?_of_block hk).trans h.2.1, (World.cell?_of_block hk).trans h.2.2⟩
theorem Dr.P3.blk {p : Nat} {nb db : ByteArray} {n : Nat} {W : World} {t : TypeId} (h : Blk W p t #[.string nb, .string db, .int .i64 n]) : Dr.P3 p nb db n W := ⟨h.cell 0, h.cell 1, h.cell 2⟩
section
variable {W : World} {r : Nat} {m : Dk.M} {F : Nat → Prop}
end
end Go.Proofs.YthhkebkpophkiaaDoor
