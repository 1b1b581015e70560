/-
  DERIVED. GIVEN WITH THE SEED: THE CARDS: each row of YtikhahkmebkccaaDoorRows.lean that lists a variable, with what it lists TIED to the program's text (the seventh form; the later family's looks); each row that meets fmt, with fmt's text TOLD by the authors' own Lean function (tested against real Go, not proved from fmt's source: count such statements apart). THE CARD IS WHAT COUNTS. Prove the row's statement (the work); the ties are given (YtikhahkmebkccaaDoorTie.lean); close each card by the builder's one call (the guide's Derived/Test/ToyasCard.lean, 'card_holds'). Laid BY PROGRAM, IN A SANDBOX (cutbox-door.mjs). By AI agents, Wed Nov 11 2026. No macro, syntax, notation, axiom, sorry.
-/
import Derived.Test.YtikhahkmebkccaaDoorRows
import GoSem.ClaimSeven
namespace Go.Proofs.YtikhahkmebkccaaDoor
namespace Rows

/-- THE TIED CARD OF 'kindredlaw12.TreeChain'. -/
def treeChainCard : Claim7 := { stood := { row := treeChainRow, standIns := [], harness := (true, "d399fb91dd271971b86a80998fdf469d78a5ce162ce2ea3f0b2284f004bfef8c"), looks := false }, kinds := [], alts := [], laidByText := true, laidKinds := [.data], laidTests := true, laidLooks := .later }
def TreeChainCardSaid : Prop := Claim7.holds Tryd.pinned (.plain (OpenSpec.ofChange treeChainSpec)) treeChainCard

/-- THE TIED CARD OF 'kindredlaw12.TreeScan'. -/
def treeScanCard : Claim7 := { stood := { row := treeScanRow, standIns := [], harness := (true, "d399fb91dd271971b86a80998fdf469d78a5ce162ce2ea3f0b2284f004bfef8c"), looks := false }, kinds := [], alts := [], laidByText := true, laidKinds := [.data], laidTests := true, laidLooks := .later }
def TreeScanCardSaid : Prop := Claim7.holds Tryd.pinned (.plain (OpenSpec.ofChange treeScanSpec)) treeScanCard

/-- THE TIED CARD OF 'kindredlaw12.TreeWork'. -/
def treeWorkCard : Claim7 := { stood := { row := treeWorkRow, standIns := [], harness := (true, "d399fb91dd271971b86a80998fdf469d78a5ce162ce2ea3f0b2284f004bfef8c"), looks := false }, kinds := [], alts := [], laidByText := true, laidKinds := [.data], laidTests := true, laidLooks := .later }
def TreeWorkCardSaid : Prop := Claim7.holds Tryd.pinned (.plain (OpenSpec.ofChange treeWorkSpec)) treeWorkCard

/-- THE SECOND FORM's CARD OF 'kindredlaw12.TreeChain'. -/
def treeChainUptoCard : Claim7 := { stood := { row := treeChainUptoRow, standIns := [], harness := (true, "d399fb91dd271971b86a80998fdf469d78a5ce162ce2ea3f0b2284f004bfef8c"), looks := false }, kinds := [], alts := [], laidByText := true, laidKinds := [.data], laidTests := true, laidLooks := .later }
def TreeChainUptoCardSaid : Prop := Claim7.holds Tryd.pinned (.plain (OpenSpec.upto treeChainSpec)) treeChainUptoCard

/-- THE SECOND FORM's CARD OF 'kindredlaw12.TreeScan'. -/
def treeScanUptoCard : Claim7 := { stood := { row := treeScanUptoRow, standIns := [], harness := (true, "d399fb91dd271971b86a80998fdf469d78a5ce162ce2ea3f0b2284f004bfef8c"), looks := false }, kinds := [], alts := [], laidByText := true, laidKinds := [.data], laidTests := true, laidLooks := .later }
def TreeScanUptoCardSaid : Prop := Claim7.holds Tryd.pinned (.plain (OpenSpec.upto treeScanSpec)) treeScanUptoCard

/-- THE SECOND FORM's CARD OF 'kindredlaw12.TreeWork'. -/
def treeWorkUptoCard : Claim7 := { stood := { row := treeWorkUptoRow, standIns := [], harness := (true, "d399fb91dd271971b86a80998fdf469d78a5ce162ce2ea3f0b2284f004bfef8c"), looks := false }, kinds := [], alts := [], laidByText := true, laidKinds := [.data], laidTests := true, laidLooks := .later }
def TreeWorkUptoCardSaid : Prop := Claim7.holds Tryd.pinned (.plain (OpenSpec.upto treeWorkSpec)) treeWorkUptoCard
end Rows
end Go.Proofs.YtikhahkmebkccaaDoor
