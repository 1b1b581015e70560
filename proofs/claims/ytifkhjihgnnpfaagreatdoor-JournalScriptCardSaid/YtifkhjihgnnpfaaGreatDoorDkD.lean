/- Disks: one file of an image, as the document reads it. Conditions: each theorem's own hypotheses. -/
import Derived.Test.YtifkhjihgnnpfaaGreatDoorDkC
namespace Go.Proofs.YtifkhjihgnnpfaaGreatDoor
open Go.RowKit
set_option linter.unusedVariables false

/-- What the document's reading answers: the file and where it ends. -/
def Dk.refV (k : Nat) : Option (List UInt8 × List UInt8 × List UInt8) → Value
  | some (a, b, _) => .tuple #[.agg #[Tx.v a, Tx.v b, .int .i64 b.length], .int .i64 ((k + 1 + a.length + 4 + b.length : Nat) : Int)]
  | none => .tuple #[.agg #[.string ⟨#[]⟩, .string ⟨#[]⟩, .int .i64 0], .int .i64 (-1)]

theorem Dk.refV_some (k : Nat) (a b c : List UInt8) : Dk.refV k (some (a, b, c)) = .tuple #[.agg #[Tx.v a, Tx.v b, .int .i64 b.length], .int .i64 ((k + 1 + a.length + 4 + b.length : Nat) : Int)] := rfl
end Go.Proofs.YtifkhjihgnnpfaaGreatDoor
