/-
  No cell of these rows narrows 'for every input' (looked for: loops, veiled, ifaces, maps, wideKeys, modest, calm, conditions, laid).
  DERIVED. THE GIVEN ROWS OF THIS SEAT. 8 by the template 'for every input the law returns true; each argument reads behind the call as it read before'; 0 by the template 'total and deterministic' (their statements: YtpldjhlhkjmneaaTotals.lean).
  GIVEN WITH THE SEED: the statements are not yours to turn. If you find one false, say at which input.
  Laid BY PROGRAM, IN A SANDBOX (cutbox-rows.mjs): the forced cells as the released guide's own fill.sh prints them over the translation d108d46f1558ce94… (all of the seat's roots in one cut). By AI agents, Wed Nov 11 2026. No macro, syntax, notation, axiom, sorry.
-/
import Derived.Test.YtpldjhlhkjmneaaChecked
import GoSem.Claim
import GoSem.ClaimJoined
import GoSem.ClaimMapViews
import Derived.JoinedTies
import Derived.KernelRfl
namespace Go.Proofs.Ytpldjhlhkjmneaa
/- THE CELL 'sum', in the pinned program and in every row, IS THE sha256 OF THE DUMP (.gsa) THAT YtpldjhlhkjmneaaProg.lean LOADS. Nothing in Lean hashes anything: it is a label: what it is worth is what the hold of that sum in a sandbox is worth. -/
noncomputable def Try.pinned : Pinned := { name := "ytpldjhlhkjmneaa", sum := "d108d46f1558ce9435cf655be6d69116087af1692a306629780627d8be1afc62", checked := Try.checked }
namespace Rows
def none {H : Type} : Left H := { results := [], args := [] }

/-- 'kindredlaw4.DiskNames': WHATEVER THE INPUT: true; the input reads as it did. -/
def diskNamesSpec : ChangeSpec := { name := "diskNames", fn := fun _ => fun
  | [] => { results := [.lit (.bool true)], args := [] }
  | _ => none }
def diskNamesRow : OpenClaim := { program := "ytpldjhlhkjmneaa", sum := "d108d46f1558ce9435cf655be6d69116087af1692a306629780627d8be1afc62", func := "kindred/kindredlaw4.DiskNames", spec := "diskNames", apart := false }
def DiskNamesSaid : Prop := diskNamesRow.holds Try.pinned (OpenSpec.ofChange diskNamesSpec)

/-- ITS FALSE NEIGHBOUR: 'it returns false'. Refute it at one input. -/
def diskNamesWrong : ChangeSpec := { name := "diskNames", fn := fun _ => fun
  | [] => { results := [.lit (.bool false)], args := [] }
  | _ => none }
def DiskNamesWrongFalsely : Prop := diskNamesRow.holds Try.pinned (OpenSpec.ofChange diskNamesWrong)

/-- 'kindredlaw12.TreeNames': WHATEVER THE INPUT: true; the input reads as it did. -/
def treeNamesSpec : ChangeSpec := { name := "treeNames", fn := fun _ => fun
  | [] => { results := [.lit (.bool true)], args := [] }
  | _ => none }
def treeNamesRow : OpenClaim := { program := "ytpldjhlhkjmneaa", sum := "d108d46f1558ce9435cf655be6d69116087af1692a306629780627d8be1afc62", func := "kindred/kindredlaw12.TreeNames", spec := "treeNames", apart := false }
def TreeNamesSaid : Prop := treeNamesRow.holds Try.pinned (OpenSpec.ofChange treeNamesSpec)

/-- ITS FALSE NEIGHBOUR: 'it returns false'. Refute it at one input. -/
def treeNamesWrong : ChangeSpec := { name := "treeNames", fn := fun _ => fun
  | [] => { results := [.lit (.bool false)], args := [] }
  | _ => none }
def TreeNamesWrongFalsely : Prop := treeNamesRow.holds Try.pinned (OpenSpec.ofChange treeNamesWrong)

/-- 'kindredlaw24.RecallOf': WHATEVER THE INPUT: true; the input reads as it did. -/
def recallOfSpec : ChangeSpec := { name := "recallOf", fn := fun _ => fun
  | [d1, d2] => { results := [.lit (.bool true)], args := [d1, d2] }
  | _ => none }
def recallOfRow : OpenClaim := { program := "ytpldjhlhkjmneaa", sum := "d108d46f1558ce9435cf655be6d69116087af1692a306629780627d8be1afc62", func := "kindred/kindredlaw24.RecallOf", spec := "recallOf", apart := false }
def RecallOfSaid : Prop := recallOfRow.holds Try.pinned (OpenSpec.ofChange recallOfSpec)

/-- ITS FALSE NEIGHBOUR: 'it returns false'. Refute it at one input. -/
def recallOfWrong : ChangeSpec := { name := "recallOf", fn := fun _ => fun
  | [d1, d2] => { results := [.lit (.bool false)], args := [d1, d2] }
  | _ => none }
def RecallOfWrongFalsely : Prop := recallOfRow.holds Try.pinned (OpenSpec.ofChange recallOfWrong)

/-- 'kindredlaw2.MasksNames': WHATEVER THE INPUT: true; the input reads as it did. -/
def masksNamesSpec : ChangeSpec := { name := "masksNames", fn := fun _ => fun
  | [] => { results := [.lit (.bool true)], args := [] }
  | _ => none }
def masksNamesRow : OpenClaim := { program := "ytpldjhlhkjmneaa", sum := "d108d46f1558ce9435cf655be6d69116087af1692a306629780627d8be1afc62", func := "kindred/kindredlaw2.MasksNames", spec := "masksNames", apart := false }
def MasksNamesSaid : Prop := masksNamesRow.holds Try.pinned (OpenSpec.ofChange masksNamesSpec)

/-- ITS FALSE NEIGHBOUR: 'it returns false'. Refute it at one input. -/
def masksNamesWrong : ChangeSpec := { name := "masksNames", fn := fun _ => fun
  | [] => { results := [.lit (.bool false)], args := [] }
  | _ => none }
def MasksNamesWrongFalsely : Prop := masksNamesRow.holds Try.pinned (OpenSpec.ofChange masksNamesWrong)

/-- 'kindredlaw2.MasksCount': WHATEVER THE INPUT: true; the input reads as it did. -/
def masksCountSpec : ChangeSpec := { name := "masksCount", fn := fun _ => fun
  | [d1, d2] => { results := [.lit (.bool true)], args := [d1, d2] }
  | _ => none }
def masksCountRow : OpenClaim := { program := "ytpldjhlhkjmneaa", sum := "d108d46f1558ce9435cf655be6d69116087af1692a306629780627d8be1afc62", func := "kindred/kindredlaw2.MasksCount", spec := "masksCount", apart := false }
def MasksCountSaid : Prop := masksCountRow.holds Try.pinned (OpenSpec.ofChange masksCountSpec)

/-- ITS FALSE NEIGHBOUR: 'it returns false'. Refute it at one input. -/
def masksCountWrong : ChangeSpec := { name := "masksCount", fn := fun _ => fun
  | [d1, d2] => { results := [.lit (.bool false)], args := [d1, d2] }
  | _ => none }
def MasksCountWrongFalsely : Prop := masksCountRow.holds Try.pinned (OpenSpec.ofChange masksCountWrong)

/-- 'kindredlaw2.MasksUpto': WHATEVER THE INPUT: true; the input reads as it did. -/
def masksUptoSpec : ChangeSpec := { name := "masksUpto", fn := fun _ => fun
  | [d1, d2, d3] => { results := [.lit (.bool true)], args := [d1, d2, d3] }
  | _ => none }
def masksUptoRow : OpenClaim := { program := "ytpldjhlhkjmneaa", sum := "d108d46f1558ce9435cf655be6d69116087af1692a306629780627d8be1afc62", func := "kindred/kindredlaw2.MasksUpto", spec := "masksUpto", apart := false }
def MasksUptoSaid : Prop := masksUptoRow.holds Try.pinned (OpenSpec.ofChange masksUptoSpec)

/-- ITS FALSE NEIGHBOUR: 'it returns false'. Refute it at one input. -/
def masksUptoWrong : ChangeSpec := { name := "masksUpto", fn := fun _ => fun
  | [d1, d2, d3] => { results := [.lit (.bool false)], args := [d1, d2, d3] }
  | _ => none }
def MasksUptoWrongFalsely : Prop := masksUptoRow.holds Try.pinned (OpenSpec.ofChange masksUptoWrong)

/-- 'kindredlaw2.MasksSum': WHATEVER THE INPUT: true; the input reads as it did. -/
def masksSumSpec : ChangeSpec := { name := "masksSum", fn := fun _ => fun
  | [d1, d2, d3] => { results := [.lit (.bool true)], args := [d1, d2, d3] }
  | _ => none }
def masksSumRow : OpenClaim := { program := "ytpldjhlhkjmneaa", sum := "d108d46f1558ce9435cf655be6d69116087af1692a306629780627d8be1afc62", func := "kindred/kindredlaw2.MasksSum", spec := "masksSum", apart := false }
def MasksSumSaid : Prop := masksSumRow.holds Try.pinned (OpenSpec.ofChange masksSumSpec)

/-- ITS FALSE NEIGHBOUR: 'it returns false'. Refute it at one input. -/
def masksSumWrong : ChangeSpec := { name := "masksSum", fn := fun _ => fun
  | [d1, d2, d3] => { results := [.lit (.bool false)], args := [d1, d2, d3] }
  | _ => none }
def MasksSumWrongFalsely : Prop := masksSumRow.holds Try.pinned (OpenSpec.ofChange masksSumWrong)

/-- 'kindredlaw2.MasksWalk': WHATEVER THE INPUT: true; the input reads as it did. -/
def masksWalkSpec : ChangeSpec := { name := "masksWalk", fn := fun _ => fun
  | [d1, d2, d3] => { results := [.lit (.bool true)], args := [d1, d2, d3] }
  | _ => none }
def masksWalkRow : OpenClaim := { program := "ytpldjhlhkjmneaa", sum := "d108d46f1558ce9435cf655be6d69116087af1692a306629780627d8be1afc62", func := "kindred/kindredlaw2.MasksWalk", spec := "masksWalk", apart := false }
def MasksWalkSaid : Prop := masksWalkRow.holds Try.pinned (OpenSpec.ofChange masksWalkSpec)

/-- ITS FALSE NEIGHBOUR: 'it returns false'. Refute it at one input. -/
def masksWalkWrong : ChangeSpec := { name := "masksWalk", fn := fun _ => fun
  | [d1, d2, d3] => { results := [.lit (.bool false)], args := [d1, d2, d3] }
  | _ => none }
def MasksWalkWrongFalsely : Prop := masksWalkRow.holds Try.pinned (OpenSpec.ofChange masksWalkWrong)

/- THE SECOND FORM. 'bulk': how many values and letters a reading holds, each counted each time it is reached (what is shared counts as often as it is met; a slice's spare places count too). A statement '..UptoSaid' is the law's where the arguments, and the package variables that the reading takes, are together of bulk at most 1048576: NARROWER than '..Said'. Prove '..Said' where nothing that the law and all that it calls make is longer than what came in: it says more and counts as full. Else prove '..UptoSaid'. A law counts once. -/
mutual
def uptoBulk {H : Type} : DataW H → Nat
  | .lit (.string bytes) => bytes.length + 1
  | .lit _ => 1
  | .nil => 1
  | .ptr d => uptoBulk d + 1
  | .slice elems spare => uptoBulkAll elems + uptoBulkAll spare + 1
  | .agg parts => uptoBulkAll parts + 1
  | .iface _ d => uptoBulk d + 1
  | .map entries => uptoBulkEntries entries + 1
  | .held _ => 1
def uptoBulkAll {H : Type} : List (DataW H) → Nat
  | [] => 0
  | d :: r => uptoBulk d + uptoBulkAll r
def uptoBulkEntries {H : Type} : List (Lit × DataW H) → Nat
  | [] => 0
  | x :: r => uptoBulkEntry x + uptoBulkEntries r
def uptoBulkEntry {H : Type} : Lit × DataW H → Nat
  | (.string bytes, d) => bytes.length + uptoBulk d + 1
  | (_, d) => uptoBulk d + 1
 end
def uptoSmall : (H : Type) → List (DataW H) → Bool := fun _ ds => decide (uptoBulkAll ds ≤ 1048576)
def OpenSpec.upto (s : _root_.Go.ChangeSpec) : _root_.Go.OpenSpec := { _root_.Go.OpenSpec.ofChange s with cond := some uptoSmall }

/-- 'kindredlaw4.DiskNames', WHERE WHAT IT READS IS OF BULK AT MOST 1048576: true; the input reads as it did. -/
def diskNamesUptoRow : OpenClaim := { program := "ytpldjhlhkjmneaa", sum := "d108d46f1558ce9435cf655be6d69116087af1692a306629780627d8be1afc62", func := "kindred/kindredlaw4.DiskNames", spec := "diskNames", apart := false, narrowed := true }
def DiskNamesUptoSaid : Prop := diskNamesUptoRow.holds Try.pinned (OpenSpec.upto diskNamesSpec)

/-- 'kindredlaw12.TreeNames', WHERE WHAT IT READS IS OF BULK AT MOST 1048576: true; the input reads as it did. -/
def treeNamesUptoRow : OpenClaim := { program := "ytpldjhlhkjmneaa", sum := "d108d46f1558ce9435cf655be6d69116087af1692a306629780627d8be1afc62", func := "kindred/kindredlaw12.TreeNames", spec := "treeNames", apart := false, narrowed := true }
def TreeNamesUptoSaid : Prop := treeNamesUptoRow.holds Try.pinned (OpenSpec.upto treeNamesSpec)

/-- 'kindredlaw24.RecallOf', WHERE WHAT IT READS IS OF BULK AT MOST 1048576: true; the input reads as it did. -/
def recallOfUptoRow : OpenClaim := { program := "ytpldjhlhkjmneaa", sum := "d108d46f1558ce9435cf655be6d69116087af1692a306629780627d8be1afc62", func := "kindred/kindredlaw24.RecallOf", spec := "recallOf", apart := false, narrowed := true }
def RecallOfUptoSaid : Prop := recallOfUptoRow.holds Try.pinned (OpenSpec.upto recallOfSpec)

/-- 'kindredlaw2.MasksNames', WHERE WHAT IT READS IS OF BULK AT MOST 1048576: true; the input reads as it did. -/
def masksNamesUptoRow : OpenClaim := { program := "ytpldjhlhkjmneaa", sum := "d108d46f1558ce9435cf655be6d69116087af1692a306629780627d8be1afc62", func := "kindred/kindredlaw2.MasksNames", spec := "masksNames", apart := false, narrowed := true }
def MasksNamesUptoSaid : Prop := masksNamesUptoRow.holds Try.pinned (OpenSpec.upto masksNamesSpec)

/-- 'kindredlaw2.MasksCount', WHERE WHAT IT READS IS OF BULK AT MOST 1048576: true; the input reads as it did. -/
def masksCountUptoRow : OpenClaim := { program := "ytpldjhlhkjmneaa", sum := "d108d46f1558ce9435cf655be6d69116087af1692a306629780627d8be1afc62", func := "kindred/kindredlaw2.MasksCount", spec := "masksCount", apart := false, narrowed := true }
def MasksCountUptoSaid : Prop := masksCountUptoRow.holds Try.pinned (OpenSpec.upto masksCountSpec)

/-- 'kindredlaw2.MasksUpto', WHERE WHAT IT READS IS OF BULK AT MOST 1048576: true; the input reads as it did. -/
def masksUptoUptoRow : OpenClaim := { program := "ytpldjhlhkjmneaa", sum := "d108d46f1558ce9435cf655be6d69116087af1692a306629780627d8be1afc62", func := "kindred/kindredlaw2.MasksUpto", spec := "masksUpto", apart := false, narrowed := true }
def MasksUptoUptoSaid : Prop := masksUptoUptoRow.holds Try.pinned (OpenSpec.upto masksUptoSpec)

/-- 'kindredlaw2.MasksSum', WHERE WHAT IT READS IS OF BULK AT MOST 1048576: true; the input reads as it did. -/
def masksSumUptoRow : OpenClaim := { program := "ytpldjhlhkjmneaa", sum := "d108d46f1558ce9435cf655be6d69116087af1692a306629780627d8be1afc62", func := "kindred/kindredlaw2.MasksSum", spec := "masksSum", apart := false, narrowed := true }
def MasksSumUptoSaid : Prop := masksSumUptoRow.holds Try.pinned (OpenSpec.upto masksSumSpec)

/-- 'kindredlaw2.MasksWalk', WHERE WHAT IT READS IS OF BULK AT MOST 1048576: true; the input reads as it did. -/
def masksWalkUptoRow : OpenClaim := { program := "ytpldjhlhkjmneaa", sum := "d108d46f1558ce9435cf655be6d69116087af1692a306629780627d8be1afc62", func := "kindred/kindredlaw2.MasksWalk", spec := "masksWalk", apart := false, narrowed := true }
def MasksWalkUptoSaid : Prop := masksWalkUptoRow.holds Try.pinned (OpenSpec.upto masksWalkSpec)

end Rows
end Go.Proofs.Ytpldjhlhkjmneaa
