/-
  DERIVED. GIVEN WITH THE SEED: THE CARDS: each row of YtaljcdkgcbdceaaDoorRows.lean that lists a variable, with what it lists TIED to the program's text (the seventh form; the later family's looks); each row that meets fmt, with fmt's text TOLD by the authors' own Lean function (tested against real Go, not proved from fmt's source: count such statements apart). THE CARD IS WHAT COUNTS. Prove the row's statement (the work); the ties are given (YtaljcdkgcbdceaaDoorTie.lean); close each card by the builder's one call (the guide's Derived/Test/ToyasCard.lean, 'card_holds'). Laid BY PROGRAM, IN A SANDBOX (cutbox-door.mjs). By AI agents, Wed Nov 11 2026. No macro, syntax, notation, axiom, sorry.
-/
import Derived.Test.YtaljcdkgcbdceaaDoorRows
import GoSem.ClaimSeven
namespace Go.Proofs.YtaljcdkgcbdceaaDoor
namespace Rows

/-- THE TIED CARD OF 'kindredlaw8.ManifestKind'. -/
def manifestKindCard : Claim7 := { stood := { row := manifestKindRow, standIns := [], harness := (true, "db4a7bbb004f4e836800acf15bc5df07f9d56197935375e503e7ca2ad95c0d9e"), looks := true }, kinds := [], alts := [], laidByText := true, laidKinds := [.data, .data, .data, .sentinel, .sentinel], laidTests := true, laidLooks := .later }
def ManifestKindCardSaid : Prop := Claim7.holds Tryd.pinned (.plain (OpenSpec.ofChange manifestKindSpec)) manifestKindCard

/-- THE TIED CARD OF 'kindredlaw8.ManifestOurs'. -/
def manifestOursCard : Claim7 := { stood := { row := manifestOursRow, standIns := [], harness := (true, "db4a7bbb004f4e836800acf15bc5df07f9d56197935375e503e7ca2ad95c0d9e"), looks := true }, kinds := [], alts := [], laidByText := true, laidKinds := [.data, .data, .data, .sentinel, .sentinel], laidTests := true, laidLooks := .later }
def ManifestOursCardSaid : Prop := Claim7.holds Tryd.pinned (.plain (OpenSpec.ofChange manifestOursSpec)) manifestOursCard

/-- THE TIED CARD OF 'kindredlaw8.ManifestNames'. -/
def manifestNamesCard : Claim7 := { stood := { row := manifestNamesRow, standIns := [], harness := (true, "db4a7bbb004f4e836800acf15bc5df07f9d56197935375e503e7ca2ad95c0d9e"), looks := true }, kinds := [], alts := [], laidByText := true, laidKinds := [.data, .data, .data, .sentinel, .sentinel], laidTests := true, laidLooks := .later }
def ManifestNamesCardSaid : Prop := Claim7.holds Tryd.pinned (.plain (OpenSpec.ofChange manifestNamesSpec)) manifestNamesCard

/-- THE SECOND FORM's CARD OF 'kindredlaw8.ManifestKind'. -/
def manifestKindUptoCard : Claim7 := { stood := { row := manifestKindUptoRow, standIns := [], harness := (true, "db4a7bbb004f4e836800acf15bc5df07f9d56197935375e503e7ca2ad95c0d9e"), looks := true }, kinds := [], alts := [], laidByText := true, laidKinds := [.data, .data, .data, .sentinel, .sentinel], laidTests := true, laidLooks := .later }
def ManifestKindUptoCardSaid : Prop := Claim7.holds Tryd.pinned (.plain (OpenSpec.upto manifestKindSpec)) manifestKindUptoCard

/-- THE SECOND FORM's CARD OF 'kindredlaw8.ManifestOurs'. -/
def manifestOursUptoCard : Claim7 := { stood := { row := manifestOursUptoRow, standIns := [], harness := (true, "db4a7bbb004f4e836800acf15bc5df07f9d56197935375e503e7ca2ad95c0d9e"), looks := true }, kinds := [], alts := [], laidByText := true, laidKinds := [.data, .data, .data, .sentinel, .sentinel], laidTests := true, laidLooks := .later }
def ManifestOursUptoCardSaid : Prop := Claim7.holds Tryd.pinned (.plain (OpenSpec.upto manifestOursSpec)) manifestOursUptoCard

/-- THE SECOND FORM's CARD OF 'kindredlaw8.ManifestNames'. -/
def manifestNamesUptoCard : Claim7 := { stood := { row := manifestNamesUptoRow, standIns := [], harness := (true, "db4a7bbb004f4e836800acf15bc5df07f9d56197935375e503e7ca2ad95c0d9e"), looks := true }, kinds := [], alts := [], laidByText := true, laidKinds := [.data, .data, .data, .sentinel, .sentinel], laidTests := true, laidLooks := .later }
def ManifestNamesUptoCardSaid : Prop := Claim7.holds Tryd.pinned (.plain (OpenSpec.upto manifestNamesSpec)) manifestNamesUptoCard
end Rows
end Go.Proofs.YtaljcdkgcbdceaaDoor
