/-
  DERIVED. GIVEN WITH THE SEED: THE CARDS: each row of YtknemjnlcghafaaDoorRows.lean that lists a variable, with what it lists TIED to the program's text (the seventh form; the later family's looks); each row that meets fmt, with fmt's text TOLD by the authors' own Lean function (tested against real Go, not proved from fmt's source: count such statements apart). THE CARD IS WHAT COUNTS. Prove the row's statement (the work); the ties are given (YtknemjnlcghafaaDoorTie.lean); close each card by the builder's one call (the guide's Derived/Test/ToyasCard.lean, 'card_holds'). Laid BY PROGRAM, IN A SANDBOX (cutbox-door.mjs). By AI agents, Wed Nov 11 2026. No macro, syntax, notation, axiom, sorry.
-/
import Derived.Test.YtknemjnlcghafaaDoorRows
import GoSem.ClaimSeven
namespace Go.Proofs.YtknemjnlcghafaaDoor
namespace Rows

/-- THE TIED CARD OF 'kindredlaw8.ManifestFull'. -/
def manifestFullCard : Claim7 := { stood := { row := manifestFullRow, standIns := [], harness := (true, "f784b6f1a4b6be4f9a996bd7f2968b880c8206ba76b552f798515a55c3165cfa"), looks := false }, kinds := [], alts := [], laidByText := true, laidKinds := [.data], laidTests := true, laidLooks := .later }
def ManifestFullCardSaid : Prop := Claim7.holds Tryd.pinned (.plain (OpenSpec.ofChange manifestFullSpec)) manifestFullCard

/-- THE TIED CARD OF 'kindredlaw8.ManifestSwap'. -/
def manifestSwapCard : Claim7 := { stood := { row := manifestSwapRow, standIns := [], harness := (true, "f784b6f1a4b6be4f9a996bd7f2968b880c8206ba76b552f798515a55c3165cfa"), looks := false }, kinds := [], alts := [], laidByText := true, laidKinds := [.data], laidTests := true, laidLooks := .later }
def ManifestSwapCardSaid : Prop := Claim7.holds Tryd.pinned (.plain (OpenSpec.ofChange manifestSwapSpec)) manifestSwapCard

/-- THE SECOND FORM's CARD OF 'kindredlaw8.ManifestFull'. -/
def manifestFullUptoCard : Claim7 := { stood := { row := manifestFullUptoRow, standIns := [], harness := (true, "f784b6f1a4b6be4f9a996bd7f2968b880c8206ba76b552f798515a55c3165cfa"), looks := false }, kinds := [], alts := [], laidByText := true, laidKinds := [.data], laidTests := true, laidLooks := .later }
def ManifestFullUptoCardSaid : Prop := Claim7.holds Tryd.pinned (.plain (OpenSpec.upto manifestFullSpec)) manifestFullUptoCard

/-- THE SECOND FORM's CARD OF 'kindredlaw8.ManifestSwap'. -/
def manifestSwapUptoCard : Claim7 := { stood := { row := manifestSwapUptoRow, standIns := [], harness := (true, "f784b6f1a4b6be4f9a996bd7f2968b880c8206ba76b552f798515a55c3165cfa"), looks := false }, kinds := [], alts := [], laidByText := true, laidKinds := [.data], laidTests := true, laidLooks := .later }
def ManifestSwapUptoCardSaid : Prop := Claim7.holds Tryd.pinned (.plain (OpenSpec.upto manifestSwapSpec)) manifestSwapUptoCard
end Rows
end Go.Proofs.YtknemjnlcghafaaDoor
