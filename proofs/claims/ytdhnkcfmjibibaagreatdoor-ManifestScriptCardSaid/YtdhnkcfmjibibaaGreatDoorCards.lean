/-
  DERIVED. GIVEN WITH THE SEED: THE CARDS: each row of YtdhnkcfmjibibaaGreatDoorRows.lean that lists a variable, with what it lists TIED to the program's text (the seventh form; the later family's looks); each row that meets fmt, with fmt's text TOLD by the authors' own Lean function (tested against real Go, not proved from fmt's source: count such statements apart). THE CARD IS WHAT COUNTS. Prove the row's statement (the work); the ties are given (YtdhnkcfmjibibaaGreatDoorTie.lean); close each card by the builder's one call (the guide's Derived/Test/ToyasCard.lean, 'card_holds'). Laid BY PROGRAM, IN A SANDBOX (cutbox-door.mjs). By AI agents, Wed Nov 11 2026. No macro, syntax, notation, axiom, sorry.
-/
import Derived.Test.YtdhnkcfmjibibaaGreatDoorRows
import GoSem.ClaimSeven
namespace Go.Proofs.YtdhnkcfmjibibaaGreatDoor
namespace Rows

/-- THE TIED CARD OF 'kindredlaw8.ManifestScript'. -/
def manifestScriptCard : Claim7 := { stood := { row := manifestScriptRow, standIns := [], harness := (true, "3a9add0e5adb335d457d7c97553619cd70573a6369af97352c265499e893204c"), looks := false }, kinds := [], alts := [], laidByText := true, laidKinds := [.data], laidTests := true, laidLooks := .later }
def ManifestScriptCardSaid : Prop := Claim7.holds Tryz.pinned (.plain (OpenSpec.ofChange manifestScriptSpec)) manifestScriptCard

/-- THE SECOND FORM's CARD OF 'kindredlaw8.ManifestScript'. -/
def manifestScriptUptoCard : Claim7 := { stood := { row := manifestScriptUptoRow, standIns := [], harness := (true, "3a9add0e5adb335d457d7c97553619cd70573a6369af97352c265499e893204c"), looks := false }, kinds := [], alts := [], laidByText := true, laidKinds := [.data], laidTests := true, laidLooks := .later }
def ManifestScriptUptoCardSaid : Prop := Claim7.holds Tryz.pinned (.plain (OpenSpec.upto manifestScriptSpec)) manifestScriptUptoCard
end Rows
end Go.Proofs.YtdhnkcfmjibibaaGreatDoor
