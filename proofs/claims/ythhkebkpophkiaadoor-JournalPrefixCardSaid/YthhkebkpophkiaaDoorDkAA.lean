/- Disks: Rename, whole. Conditions: each theorem's own hypotheses. -/
import Derived.Test.YthhkebkpophkiaaDoorDkZ
namespace Go.Proofs.YthhkebkpophkiaaDoor
open Go.RowKit Go.Maps Go.Sort
set_option linter.unusedVariables false

end Go.Proofs.YthhkebkpophkiaaDoor
