/-
  DERIVED. GIVEN WITH THE SEED: THE CARDS: each row of YtlfeibaghfcpaaaDoorRows.lean that lists a variable, with what it lists TIED to the program's text (the seventh form; the later family's looks); each row that meets fmt, with fmt's text TOLD by the authors' own Lean function (tested against real Go, not proved from fmt's source: count such statements apart). THE CARD IS WHAT COUNTS. Prove the row's statement (the work); the ties are given (YtlfeibaghfcpaaaDoorTie.lean); close each card by the builder's one call (the guide's Derived/Test/ToyasCard.lean, 'card_holds'). Laid BY PROGRAM, IN A SANDBOX (cutbox-door.mjs). By AI agents, Wed Nov 11 2026. No macro, syntax, notation, axiom, sorry.
-/
import Derived.Test.YtlfeibaghfcpaaaDoorRows
import GoSem.ClaimSeven
namespace Go.Proofs.YtlfeibaghfcpaaaDoor
namespace Rows

/-- THE TIED CARD OF 'kindredlaw11.ProbeNames'. -/
def probeNamesCard : Claim7 := { stood := { row := probeNamesRow, standIns := [], harness := (true, "8d03edbfa65ff7ff6db82450e625564199cc2d625943b67a3620069bf74ec8c1"), looks := false }, kinds := [], alts := [], laidByText := true, laidKinds := [.data], laidTests := true, laidLooks := .later }
def ProbeNamesCardSaid : Prop := Claim7.holds Tryd.pinned (.plain (OpenSpec.ofChange probeNamesSpec)) probeNamesCard

/-- THE SECOND FORM's CARD OF 'kindredlaw11.ProbeNames'. -/
def probeNamesUptoCard : Claim7 := { stood := { row := probeNamesUptoRow, standIns := [], harness := (true, "8d03edbfa65ff7ff6db82450e625564199cc2d625943b67a3620069bf74ec8c1"), looks := false }, kinds := [], alts := [], laidByText := true, laidKinds := [.data], laidTests := true, laidLooks := .later }
def ProbeNamesUptoCardSaid : Prop := Claim7.holds Tryd.pinned (.plain (OpenSpec.upto probeNamesSpec)) probeNamesUptoCard
end Rows
end Go.Proofs.YtlfeibaghfcpaaaDoor
