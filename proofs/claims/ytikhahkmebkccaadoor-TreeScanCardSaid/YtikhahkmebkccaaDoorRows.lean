/-
  NARROWER THAN 'FOR EVERY INPUT', by the rows' own cells (each row's printed sentence says how): TreeChain: laid · TreeScan: laid · TreeWork: laid.
  DERIVED. THE GIVEN ROWS OF THIS SEAT. 3 by the template 'for every input the law returns true; each argument reads behind the call as it read before'; 0 by the template 'total and deterministic' (their statements: YtikhahkmebkccaaDoorTotals.lean).
  GIVEN WITH THE SEED: the statements are not yours to turn. If you find one false, say at which input.
  Laid BY PROGRAM, IN A SANDBOX (cutbox-rows.mjs): the forced cells as the released guide's own fill.sh prints them over the translation c58d69af7dcee4cd… (all of the seat's roots in one cut). By AI agents, Wed Nov 11 2026. No macro, syntax, notation, axiom, sorry.
-/
import Derived.Test.YtikhahkmebkccaaDoorChecked
import GoSem.Claim
import GoSem.ClaimJoined
import GoSem.ClaimMapViews
import Derived.JoinedTies
import Derived.KernelRfl
namespace Go.Proofs.YtikhahkmebkccaaDoor
/- THE CELL 'sum', in the pinned program and in every row, IS THE sha256 OF THE DUMP (.gsa) THAT YtikhahkmebkccaaDoorProg.lean LOADS. Nothing in Lean hashes anything: it is a label: what it is worth is what the hold of that sum in a sandbox is worth. -/
noncomputable def Tryd.pinned : Pinned := { name := "ytikhahkmebkccaadoor", sum := "c58d69af7dcee4cd190a75bac94e60c2be747deb31afebea4d38d761975c2b6b", checked := Tryd.checked }
namespace Rows
def none {H : Type} : Left H := { results := [], args := [] }

/- WHAT THE LISTED PACKAGE-LEVEL VARIABLES READ AS WHEN THE CALL BEGINS. Each datum BY PROGRAM (the guide's laid-datum.mjs) off the statement by which the dump's own 'gosem.cut.vars' lays the variable. In a bare row this is a premise. The card (YtikhahkmebkccaaDoorCards.lean) ties it to the program's text. -/
def laid_kindred_bits_ones {H : Type} : DataW H := .agg [.lit (.int .i64 0), .lit (.int .i64 1), .lit (.int .i64 1), .lit (.int .i64 2), .lit (.int .i64 1), .lit (.int .i64 2), .lit (.int .i64 2), .lit (.int .i64 3), .lit (.int .i64 1), .lit (.int .i64 2), .lit (.int .i64 2), .lit (.int .i64 3), .lit (.int .i64 2), .lit (.int .i64 3), .lit (.int .i64 3), .lit (.int .i64 4)]

/-- 'kindredlaw12.TreeChain': WHATEVER THE INPUT: true; the input reads as it did. -/
def treeChainSpec : ChangeSpec := { name := "treeChain", fn := fun _ => fun
  | [d1, d2, d3, d4] => { results := [.lit (.bool true)], args := [d1, d2, d3, d4] }
  | _ => none }
def treeChainRow : OpenClaim := { program := "ytikhahkmebkccaadoor", sum := "c58d69af7dcee4cd190a75bac94e60c2be747deb31afebea4d38d761975c2b6b", func := "kindred/kindredlaw12.TreeChain", spec := "treeChain", inPlace := ["internal/bytealg.abigen_runtime_cmpstring"], unfollowed := true, recurses := true, named := ["kindred/bits.ones"], apart := false, laid := [("kindred/bits.ones", laid_kindred_bits_ones)] }
def TreeChainSaid : Prop := treeChainRow.holds Tryd.pinned (OpenSpec.ofChange treeChainSpec)

/-- ITS FALSE NEIGHBOUR: 'it returns false'. Refute it at one input. -/
def treeChainWrong : ChangeSpec := { name := "treeChain", fn := fun _ => fun
  | [d1, d2, d3, d4] => { results := [.lit (.bool false)], args := [d1, d2, d3, d4] }
  | _ => none }
def TreeChainWrongFalsely : Prop := treeChainRow.holds Tryd.pinned (OpenSpec.ofChange treeChainWrong)

/-- 'kindredlaw12.TreeScan': WHATEVER THE INPUT: true; the input reads as it did. -/
def treeScanSpec : ChangeSpec := { name := "treeScan", fn := fun _ => fun
  | [d1, d2] => { results := [.lit (.bool true)], args := [d1, d2] }
  | _ => none }
def treeScanRow : OpenClaim := { program := "ytikhahkmebkccaadoor", sum := "c58d69af7dcee4cd190a75bac94e60c2be747deb31afebea4d38d761975c2b6b", func := "kindred/kindredlaw12.TreeScan", spec := "treeScan", inPlace := ["internal/bytealg.abigen_runtime_cmpstring"], unfollowed := true, recurses := true, named := ["kindred/bits.ones"], apart := false, laid := [("kindred/bits.ones", laid_kindred_bits_ones)] }
def TreeScanSaid : Prop := treeScanRow.holds Tryd.pinned (OpenSpec.ofChange treeScanSpec)

/-- ITS FALSE NEIGHBOUR: 'it returns false'. Refute it at one input. -/
def treeScanWrong : ChangeSpec := { name := "treeScan", fn := fun _ => fun
  | [d1, d2] => { results := [.lit (.bool false)], args := [d1, d2] }
  | _ => none }
def TreeScanWrongFalsely : Prop := treeScanRow.holds Tryd.pinned (OpenSpec.ofChange treeScanWrong)

/-- 'kindredlaw12.TreeWork': WHATEVER THE INPUT: true; the input reads as it did. -/
def treeWorkSpec : ChangeSpec := { name := "treeWork", fn := fun _ => fun
  | [d1, d2] => { results := [.lit (.bool true)], args := [d1, d2] }
  | _ => none }
def treeWorkRow : OpenClaim := { program := "ytikhahkmebkccaadoor", sum := "c58d69af7dcee4cd190a75bac94e60c2be747deb31afebea4d38d761975c2b6b", func := "kindred/kindredlaw12.TreeWork", spec := "treeWork", inPlace := ["internal/bytealg.abigen_runtime_cmpstring"], unfollowed := true, recurses := true, named := ["kindred/bits.ones"], apart := false, laid := [("kindred/bits.ones", laid_kindred_bits_ones)] }
def TreeWorkSaid : Prop := treeWorkRow.holds Tryd.pinned (OpenSpec.ofChange treeWorkSpec)

/-- ITS FALSE NEIGHBOUR: 'it returns false'. Refute it at one input. -/
def treeWorkWrong : ChangeSpec := { name := "treeWork", fn := fun _ => fun
  | [d1, d2] => { results := [.lit (.bool false)], args := [d1, d2] }
  | _ => none }
def TreeWorkWrongFalsely : Prop := treeWorkRow.holds Tryd.pinned (OpenSpec.ofChange treeWorkWrong)

/- THE SECOND FORM. 'bulk': how many values and letters a reading holds, each counted each time it is reached (what is shared counts as often as it is met; a slice's spare places count too). A statement '..UptoSaid' is the law's where the arguments, and the package variables that the reading takes, are together of bulk at most 1048576: NARROWER than '..Said'. Prove '..Said' where nothing that the law and all that it calls make is longer than what came in: it says more and counts as full. Else prove '..UptoSaid'. A law counts once. -/
mutual
def uptoBulk {H : Type} : DataW H → Nat
  | .lit (.string bytes) => bytes.length + 1
  | .lit _ => 1
  | .nil => 1
  | .ptr d => uptoBulk d + 1
  | .slice elems spare => uptoBulkAll elems + uptoBulkAll spare + 1
  | .agg parts => uptoBulkAll parts + 1
  | .iface _ d => uptoBulk d + 1
  | .map entries => uptoBulkEntries entries + 1
  | .held _ => 1
def uptoBulkAll {H : Type} : List (DataW H) → Nat
  | [] => 0
  | d :: r => uptoBulk d + uptoBulkAll r
def uptoBulkEntries {H : Type} : List (Lit × DataW H) → Nat
  | [] => 0
  | x :: r => uptoBulkEntry x + uptoBulkEntries r
def uptoBulkEntry {H : Type} : Lit × DataW H → Nat
  | (.string bytes, d) => bytes.length + uptoBulk d + 1
  | (_, d) => uptoBulk d + 1
 end
def uptoSmall : (H : Type) → List (DataW H) → Bool := fun _ ds => decide (uptoBulkAll ds ≤ 1048576)
def OpenSpec.upto (s : _root_.Go.ChangeSpec) : _root_.Go.OpenSpec := { _root_.Go.OpenSpec.ofChange s with cond := some uptoSmall }

/-- 'kindredlaw12.TreeChain', WHERE WHAT IT READS IS OF BULK AT MOST 1048576: true; the input reads as it did. -/
def treeChainUptoRow : OpenClaim := { program := "ytikhahkmebkccaadoor", sum := "c58d69af7dcee4cd190a75bac94e60c2be747deb31afebea4d38d761975c2b6b", func := "kindred/kindredlaw12.TreeChain", spec := "treeChain", inPlace := ["internal/bytealg.abigen_runtime_cmpstring"], unfollowed := true, recurses := true, named := ["kindred/bits.ones"], apart := false, laid := [("kindred/bits.ones", laid_kindred_bits_ones)], narrowed := true }
def TreeChainUptoSaid : Prop := treeChainUptoRow.holds Tryd.pinned (OpenSpec.upto treeChainSpec)

/-- 'kindredlaw12.TreeScan', WHERE WHAT IT READS IS OF BULK AT MOST 1048576: true; the input reads as it did. -/
def treeScanUptoRow : OpenClaim := { program := "ytikhahkmebkccaadoor", sum := "c58d69af7dcee4cd190a75bac94e60c2be747deb31afebea4d38d761975c2b6b", func := "kindred/kindredlaw12.TreeScan", spec := "treeScan", inPlace := ["internal/bytealg.abigen_runtime_cmpstring"], unfollowed := true, recurses := true, named := ["kindred/bits.ones"], apart := false, laid := [("kindred/bits.ones", laid_kindred_bits_ones)], narrowed := true }
def TreeScanUptoSaid : Prop := treeScanUptoRow.holds Tryd.pinned (OpenSpec.upto treeScanSpec)

/-- 'kindredlaw12.TreeWork', WHERE WHAT IT READS IS OF BULK AT MOST 1048576: true; the input reads as it did. -/
def treeWorkUptoRow : OpenClaim := { program := "ytikhahkmebkccaadoor", sum := "c58d69af7dcee4cd190a75bac94e60c2be747deb31afebea4d38d761975c2b6b", func := "kindred/kindredlaw12.TreeWork", spec := "treeWork", inPlace := ["internal/bytealg.abigen_runtime_cmpstring"], unfollowed := true, recurses := true, named := ["kindred/bits.ones"], apart := false, laid := [("kindred/bits.ones", laid_kindred_bits_ones)], narrowed := true }
def TreeWorkUptoSaid : Prop := treeWorkUptoRow.holds Tryd.pinned (OpenSpec.upto treeWorkSpec)

end Rows
end Go.Proofs.YtikhahkmebkccaaDoor
