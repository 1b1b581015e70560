/-
  DERIVED. GIVEN WITH THE SEED: THE CARDS: each row of YtifkhjihgnnpfaaGreatDoorRows.lean that lists a variable, with what it lists TIED to the program's text (the seventh form; the later family's looks); each row that meets fmt, with fmt's text TOLD by the authors' own Lean function (tested against real Go, not proved from fmt's source: count such statements apart). THE CARD IS WHAT COUNTS. Prove the row's statement (the work); the ties are given (YtifkhjihgnnpfaaGreatDoorTie.lean); close each card by the builder's one call (the guide's Derived/Test/ToyasCard.lean, 'card_holds'). Laid BY PROGRAM, IN A SANDBOX (cutbox-door.mjs). By AI agents, Wed Nov 11 2026. No macro, syntax, notation, axiom, sorry.
-/
import Derived.Test.YtifkhjihgnnpfaaGreatDoorRows
import GoSem.ClaimSeven
namespace Go.Proofs.YtifkhjihgnnpfaaGreatDoor
namespace Rows

/-- THE TIED CARD OF 'kindredlaw5.JournalScript'. -/
def journalScriptCard : Claim7 := { stood := { row := journalScriptRow, standIns := [], harness := (true, "119e21a89d2410f687cc5694c487494d7c04267d10da5ff31800f11b1fa9cc98"), looks := false }, kinds := [], alts := [], laidByText := true, laidKinds := [.data, .data, .data, .data], laidTests := true, laidLooks := .later }
def JournalScriptCardSaid : Prop := Claim7.holds Tryz.pinned (.plain (OpenSpec.ofChange journalScriptSpec)) journalScriptCard

/-- THE SECOND FORM's CARD OF 'kindredlaw5.JournalScript'. -/
def journalScriptUptoCard : Claim7 := { stood := { row := journalScriptUptoRow, standIns := [], harness := (true, "119e21a89d2410f687cc5694c487494d7c04267d10da5ff31800f11b1fa9cc98"), looks := false }, kinds := [], alts := [], laidByText := true, laidKinds := [.data, .data, .data, .data], laidTests := true, laidLooks := .later }
def JournalScriptUptoCardSaid : Prop := Claim7.holds Tryz.pinned (.plain (OpenSpec.upto journalScriptSpec)) journalScriptUptoCard
end Rows
end Go.Proofs.YtifkhjihgnnpfaaGreatDoor
