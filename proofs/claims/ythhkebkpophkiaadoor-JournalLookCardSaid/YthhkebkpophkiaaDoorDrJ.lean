/- Disks in memory (the document's): Cut. Conditions: each theorem's own hypotheses. -/
import Derived.Test.YthhkebkpophkiaaDoorDrI
namespace Go.Proofs.YthhkebkpophkiaaDoor
open Go.RowKit Go.Maps Go.Sort
set_option linter.unusedVariables false

/-- The load of the list of files, under a name (Cut). -/
def Dr.o50 : Op := Op.load 74 (Operand.tmp 49)
attribute [go_sem] Dr.o50
section
variable {W : World} {r : Nat} {m : Dk.M} {F : Nat → Prop}
end
end Go.Proofs.YthhkebkpophkiaaDoor
