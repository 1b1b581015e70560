/-
  NARROWER THAN 'FOR EVERY INPUT', by the rows' own cells (each row's printed sentence says how): ManifestCheck: laid · JournalRead: laid · JournalBack: laid · ManifestDecode: laid · ManifestBack: laid · JournalNames: laid · JournalWrite: laid · RunFiles: laid.
  DERIVED. THE GIVEN ROWS OF THIS SEAT. 8 by the template 'for every input the law returns true; each argument reads behind the call as it read before'; 0 by the template 'total and deterministic' (their statements: YtffdplmnjlcmnaaDoorTotals.lean).
  GIVEN WITH THE SEED: the statements are not yours to turn. If you find one false, say at which input.
  Laid BY PROGRAM, IN A SANDBOX (cutbox-rows.mjs): the forced cells as the released guide's own fill.sh prints them over the translation 4279ab2fa921d220… (all of the seat's roots in one cut). By AI agents, Wed Nov 11 2026. No macro, syntax, notation, axiom, sorry.
-/
import Derived.Test.YtffdplmnjlcmnaaDoorChecked
import GoSem.Claim
import GoSem.ClaimJoined
import GoSem.ClaimMapViews
import Derived.JoinedTies
import Derived.KernelRfl
namespace Go.Proofs.YtffdplmnjlcmnaaDoor
/- THE CELL 'sum', in the pinned program and in every row, IS THE sha256 OF THE DUMP (.gsa) THAT YtffdplmnjlcmnaaDoorProg.lean LOADS. Nothing in Lean hashes anything: it is a label: what it is worth is what the hold of that sum in a sandbox is worth. -/
noncomputable def Tryd.pinned : Pinned := { name := "ytffdplmnjlcmnaadoor", sum := "4279ab2fa921d2200a9502c7acb77deb290a76342f1a7f47583c7043369f7c0c", checked := Tryd.checked }
namespace Rows
def none {H : Type} : Left H := { results := [], args := [] }

/- WHAT THE LISTED PACKAGE-LEVEL VARIABLES READ AS WHEN THE CALL BEGINS. Each datum BY PROGRAM (the guide's laid-datum.mjs) off the statement by which the dump's own 'gosem.cut.vars' lays the variable. In a bare row this is a premise. The card (YtffdplmnjlcmnaaDoorCards.lean) ties it to the program's text. -/
def laid_kindred_seal_table {H : Type} : DataW H := .agg [.lit (.int .u32 0), .lit (.int .u32 274646895), .lit (.int .u32 549293790), .lit (.int .u32 820201905), .lit (.int .u32 1098587580), .lit (.int .u32 1361435347), .lit (.int .u32 1640403810), .lit (.int .u32 1905808397), .lit (.int .u32 2197175160), .lit (.int .u32 2460548119), .lit (.int .u32 2722870694), .lit (.int .u32 2987750089), .lit (.int .u32 3280807620), .lit (.int .u32 3553878443), .lit (.int .u32 3811616794), .lit (.int .u32 4084100981)]
def laid_math_bits_deBruijn32tab {H : Type} : DataW H := .agg [.lit (.int .u8 0), .lit (.int .u8 1), .lit (.int .u8 28), .lit (.int .u8 2), .lit (.int .u8 29), .lit (.int .u8 14), .lit (.int .u8 24), .lit (.int .u8 3), .lit (.int .u8 30), .lit (.int .u8 22), .lit (.int .u8 20), .lit (.int .u8 15), .lit (.int .u8 25), .lit (.int .u8 17), .lit (.int .u8 4), .lit (.int .u8 8), .lit (.int .u8 31), .lit (.int .u8 27), .lit (.int .u8 13), .lit (.int .u8 23), .lit (.int .u8 21), .lit (.int .u8 19), .lit (.int .u8 16), .lit (.int .u8 7), .lit (.int .u8 26), .lit (.int .u8 12), .lit (.int .u8 18), .lit (.int .u8 6), .lit (.int .u8 11), .lit (.int .u8 5), .lit (.int .u8 10), .lit (.int .u8 9)]
def laid_math_bits_deBruijn64tab {H : Type} : DataW H := .agg [.lit (.int .u8 0), .lit (.int .u8 1), .lit (.int .u8 56), .lit (.int .u8 2), .lit (.int .u8 57), .lit (.int .u8 49), .lit (.int .u8 28), .lit (.int .u8 3), .lit (.int .u8 61), .lit (.int .u8 58), .lit (.int .u8 42), .lit (.int .u8 50), .lit (.int .u8 38), .lit (.int .u8 29), .lit (.int .u8 17), .lit (.int .u8 4), .lit (.int .u8 62), .lit (.int .u8 47), .lit (.int .u8 59), .lit (.int .u8 36), .lit (.int .u8 45), .lit (.int .u8 43), .lit (.int .u8 51), .lit (.int .u8 22), .lit (.int .u8 53), .lit (.int .u8 39), .lit (.int .u8 33), .lit (.int .u8 30), .lit (.int .u8 24), .lit (.int .u8 18), .lit (.int .u8 12), .lit (.int .u8 5), .lit (.int .u8 63), .lit (.int .u8 55), .lit (.int .u8 48), .lit (.int .u8 27), .lit (.int .u8 60), .lit (.int .u8 41), .lit (.int .u8 37), .lit (.int .u8 16), .lit (.int .u8 46), .lit (.int .u8 35), .lit (.int .u8 44), .lit (.int .u8 21), .lit (.int .u8 52), .lit (.int .u8 32), .lit (.int .u8 23), .lit (.int .u8 11), .lit (.int .u8 54), .lit (.int .u8 26), .lit (.int .u8 40), .lit (.int .u8 15), .lit (.int .u8 34), .lit (.int .u8 20), .lit (.int .u8 31), .lit (.int .u8 10), .lit (.int .u8 25), .lit (.int .u8 14), .lit (.int .u8 19), .lit (.int .u8 9), .lit (.int .u8 13), .lit (.int .u8 8), .lit (.int .u8 7), .lit (.int .u8 6)]
def laid_internal_strconv_uint64pow10 {H : Type} : DataW H := .agg [.lit (.int .u64 1), .lit (.int .u64 10), .lit (.int .u64 100), .lit (.int .u64 1000), .lit (.int .u64 10000), .lit (.int .u64 100000), .lit (.int .u64 1000000), .lit (.int .u64 10000000), .lit (.int .u64 100000000), .lit (.int .u64 1000000000), .lit (.int .u64 10000000000), .lit (.int .u64 100000000000), .lit (.int .u64 1000000000000), .lit (.int .u64 10000000000000), .lit (.int .u64 100000000000000), .lit (.int .u64 1000000000000000), .lit (.int .u64 10000000000000000), .lit (.int .u64 100000000000000000), .lit (.int .u64 1000000000000000000), .lit (.int .u64 10000000000000000000)]

/-- 'kindredlaw8.ManifestCheck': WHATEVER THE INPUT: true; the input reads as it did. -/
def manifestCheckSpec : ChangeSpec := { name := "manifestCheck", fn := fun _ => fun
  | [d] => { results := [.lit (.bool true)], args := [d] }
  | _ => none }
def manifestCheckRow : OpenClaim := { program := "ytffdplmnjlcmnaadoor", sum := "4279ab2fa921d2200a9502c7acb77deb290a76342f1a7f47583c7043369f7c0c", func := "kindred/kindredlaw8.ManifestCheck", spec := "manifestCheck", inPlace := ["internal/abi.NoEscape"], unfollowed := true, recurses := true, named := ["kindred/seal.table"], apart := false, laid := [("kindred/seal.table", laid_kindred_seal_table)] }
def ManifestCheckSaid : Prop := manifestCheckRow.holds Tryd.pinned (OpenSpec.ofChange manifestCheckSpec)

/-- ITS FALSE NEIGHBOUR: 'it returns false'. Refute it at one input. -/
def manifestCheckWrong : ChangeSpec := { name := "manifestCheck", fn := fun _ => fun
  | [d] => { results := [.lit (.bool false)], args := [d] }
  | _ => none }
def ManifestCheckWrongFalsely : Prop := manifestCheckRow.holds Tryd.pinned (OpenSpec.ofChange manifestCheckWrong)

/-- 'kindredlaw5.JournalRead': WHATEVER THE INPUT: true; the input reads as it did. -/
def journalReadSpec : ChangeSpec := { name := "journalRead", fn := fun _ => fun
  | [d1, d2] => { results := [.lit (.bool true)], args := [d1, d2] }
  | _ => none }
def journalReadRow : OpenClaim := { program := "ytffdplmnjlcmnaadoor", sum := "4279ab2fa921d2200a9502c7acb77deb290a76342f1a7f47583c7043369f7c0c", func := "kindred/kindredlaw5.JournalRead", spec := "journalRead", unfollowed := true, recurses := true, named := ["kindred/seal.table"], apart := false, laid := [("kindred/seal.table", laid_kindred_seal_table)] }
def JournalReadSaid : Prop := journalReadRow.holds Tryd.pinned (OpenSpec.ofChange journalReadSpec)

/-- ITS FALSE NEIGHBOUR: 'it returns false'. Refute it at one input. -/
def journalReadWrong : ChangeSpec := { name := "journalRead", fn := fun _ => fun
  | [d1, d2] => { results := [.lit (.bool false)], args := [d1, d2] }
  | _ => none }
def JournalReadWrongFalsely : Prop := journalReadRow.holds Tryd.pinned (OpenSpec.ofChange journalReadWrong)

/-- 'kindredlaw5.JournalBack': WHATEVER THE INPUT: true; the input reads as it did. -/
def journalBackSpec : ChangeSpec := { name := "journalBack", fn := fun _ => fun
  | [d1, d2, d3, d4] => { results := [.lit (.bool true)], args := [d1, d2, d3, d4] }
  | _ => none }
def journalBackRow : OpenClaim := { program := "ytffdplmnjlcmnaadoor", sum := "4279ab2fa921d2200a9502c7acb77deb290a76342f1a7f47583c7043369f7c0c", func := "kindred/kindredlaw5.JournalBack", spec := "journalBack", unfollowed := true, recurses := true, named := ["kindred/seal.table"], apart := false, laid := [("kindred/seal.table", laid_kindred_seal_table)] }
def JournalBackSaid : Prop := journalBackRow.holds Tryd.pinned (OpenSpec.ofChange journalBackSpec)

/-- ITS FALSE NEIGHBOUR: 'it returns false'. Refute it at one input. -/
def journalBackWrong : ChangeSpec := { name := "journalBack", fn := fun _ => fun
  | [d1, d2, d3, d4] => { results := [.lit (.bool false)], args := [d1, d2, d3, d4] }
  | _ => none }
def JournalBackWrongFalsely : Prop := journalBackRow.holds Tryd.pinned (OpenSpec.ofChange journalBackWrong)

/-- 'kindredlaw8.ManifestDecode': WHATEVER THE INPUT: true; the input reads as it did. -/
def manifestDecodeSpec : ChangeSpec := { name := "manifestDecode", fn := fun _ => fun
  | [d] => { results := [.lit (.bool true)], args := [d] }
  | _ => none }
def manifestDecodeRow : OpenClaim := { program := "ytffdplmnjlcmnaadoor", sum := "4279ab2fa921d2200a9502c7acb77deb290a76342f1a7f47583c7043369f7c0c", func := "kindred/kindredlaw8.ManifestDecode", spec := "manifestDecode", unfollowed := true, recurses := true, named := ["kindred/seal.table"], apart := false, laid := [("kindred/seal.table", laid_kindred_seal_table)] }
def ManifestDecodeSaid : Prop := manifestDecodeRow.holds Tryd.pinned (OpenSpec.ofChange manifestDecodeSpec)

/-- ITS FALSE NEIGHBOUR: 'it returns false'. Refute it at one input. -/
def manifestDecodeWrong : ChangeSpec := { name := "manifestDecode", fn := fun _ => fun
  | [d] => { results := [.lit (.bool false)], args := [d] }
  | _ => none }
def ManifestDecodeWrongFalsely : Prop := manifestDecodeRow.holds Tryd.pinned (OpenSpec.ofChange manifestDecodeWrong)

/-- 'kindredlaw8.ManifestBack': WHATEVER THE INPUT: true; the input reads as it did. -/
def manifestBackSpec : ChangeSpec := { name := "manifestBack", fn := fun _ => fun
  | [d1, d2, d3, d4] => { results := [.lit (.bool true)], args := [d1, d2, d3, d4] }
  | _ => none }
def manifestBackRow : OpenClaim := { program := "ytffdplmnjlcmnaadoor", sum := "4279ab2fa921d2200a9502c7acb77deb290a76342f1a7f47583c7043369f7c0c", func := "kindred/kindredlaw8.ManifestBack", spec := "manifestBack", inPlace := ["internal/abi.NoEscape"], unfollowed := true, recurses := true, named := ["kindred/seal.table"], apart := false, laid := [("kindred/seal.table", laid_kindred_seal_table)] }
def ManifestBackSaid : Prop := manifestBackRow.holds Tryd.pinned (OpenSpec.ofChange manifestBackSpec)

/-- ITS FALSE NEIGHBOUR: 'it returns false'. Refute it at one input. -/
def manifestBackWrong : ChangeSpec := { name := "manifestBack", fn := fun _ => fun
  | [d1, d2, d3, d4] => { results := [.lit (.bool false)], args := [d1, d2, d3, d4] }
  | _ => none }
def ManifestBackWrongFalsely : Prop := manifestBackRow.holds Tryd.pinned (OpenSpec.ofChange manifestBackWrong)

/-- 'kindredlaw5.JournalNames': WHATEVER THE INPUT: true; the input reads as it did. -/
def journalNamesSpec : ChangeSpec := { name := "journalNames", fn := fun _ => fun
  | [] => { results := [.lit (.bool true)], args := [] }
  | _ => none }
def journalNamesRow : OpenClaim := { program := "ytffdplmnjlcmnaadoor", sum := "4279ab2fa921d2200a9502c7acb77deb290a76342f1a7f47583c7043369f7c0c", func := "kindred/kindredlaw5.JournalNames", spec := "journalNames", named := ["kindred/seal.table", "internal/strconv.uint64pow10", "math/bits.deBruijn32tab", "math/bits.deBruijn64tab"], apart := false, laid := [("kindred/seal.table", laid_kindred_seal_table), ("math/bits.deBruijn32tab", laid_math_bits_deBruijn32tab), ("math/bits.deBruijn64tab", laid_math_bits_deBruijn64tab), ("internal/strconv.uint64pow10", laid_internal_strconv_uint64pow10)] }
def JournalNamesSaid : Prop := journalNamesRow.holds Tryd.pinned (OpenSpec.ofChange journalNamesSpec)

/-- ITS FALSE NEIGHBOUR: 'it returns false'. Refute it at one input. -/
def journalNamesWrong : ChangeSpec := { name := "journalNames", fn := fun _ => fun
  | [] => { results := [.lit (.bool false)], args := [] }
  | _ => none }
def JournalNamesWrongFalsely : Prop := journalNamesRow.holds Tryd.pinned (OpenSpec.ofChange journalNamesWrong)

/-- 'kindredlaw5.JournalWrite': WHATEVER THE INPUT: true; the input reads as it did. -/
def journalWriteSpec : ChangeSpec := { name := "journalWrite", fn := fun _ => fun
  | [d1, d2] => { results := [.lit (.bool true)], args := [d1, d2] }
  | _ => none }
def journalWriteRow : OpenClaim := { program := "ytffdplmnjlcmnaadoor", sum := "4279ab2fa921d2200a9502c7acb77deb290a76342f1a7f47583c7043369f7c0c", func := "kindred/kindredlaw5.JournalWrite", spec := "journalWrite", named := ["kindred/seal.table", "internal/strconv.uint64pow10", "math/bits.deBruijn32tab", "math/bits.deBruijn64tab"], apart := false, laid := [("kindred/seal.table", laid_kindred_seal_table), ("math/bits.deBruijn32tab", laid_math_bits_deBruijn32tab), ("math/bits.deBruijn64tab", laid_math_bits_deBruijn64tab), ("internal/strconv.uint64pow10", laid_internal_strconv_uint64pow10)] }
def JournalWriteSaid : Prop := journalWriteRow.holds Tryd.pinned (OpenSpec.ofChange journalWriteSpec)

/-- ITS FALSE NEIGHBOUR: 'it returns false'. Refute it at one input. -/
def journalWriteWrong : ChangeSpec := { name := "journalWrite", fn := fun _ => fun
  | [d1, d2] => { results := [.lit (.bool false)], args := [d1, d2] }
  | _ => none }
def JournalWriteWrongFalsely : Prop := journalWriteRow.holds Tryd.pinned (OpenSpec.ofChange journalWriteWrong)

/-- 'kindredlaw14.RunFiles': WHATEVER THE INPUT: true; the input reads as it did. -/
def runFilesSpec : ChangeSpec := { name := "runFiles", fn := fun _ => fun
  | [d1, d2] => { results := [.lit (.bool true)], args := [d1, d2] }
  | _ => none }
def runFilesRow : OpenClaim := { program := "ytffdplmnjlcmnaadoor", sum := "4279ab2fa921d2200a9502c7acb77deb290a76342f1a7f47583c7043369f7c0c", func := "kindred/kindredlaw14.RunFiles", spec := "runFiles", unfollowed := true, recurses := true, named := ["internal/strconv.uint64pow10", "math/bits.deBruijn32tab", "math/bits.deBruijn64tab"], apart := false, laid := [("math/bits.deBruijn32tab", laid_math_bits_deBruijn32tab), ("math/bits.deBruijn64tab", laid_math_bits_deBruijn64tab), ("internal/strconv.uint64pow10", laid_internal_strconv_uint64pow10)] }
def RunFilesSaid : Prop := runFilesRow.holds Tryd.pinned (OpenSpec.ofChange runFilesSpec)

/-- ITS FALSE NEIGHBOUR: 'it returns false'. Refute it at one input. -/
def runFilesWrong : ChangeSpec := { name := "runFiles", fn := fun _ => fun
  | [d1, d2] => { results := [.lit (.bool false)], args := [d1, d2] }
  | _ => none }
def RunFilesWrongFalsely : Prop := runFilesRow.holds Tryd.pinned (OpenSpec.ofChange runFilesWrong)

/- THE SECOND FORM. 'bulk': how many values and letters a reading holds, each counted each time it is reached (what is shared counts as often as it is met; a slice's spare places count too). A statement '..UptoSaid' is the law's where the arguments, and the package variables that the reading takes, are together of bulk at most 1048576: NARROWER than '..Said'. Prove '..Said' where nothing that the law and all that it calls make is longer than what came in: it says more and counts as full. Else prove '..UptoSaid'. A law counts once. -/
mutual
def uptoBulk {H : Type} : DataW H → Nat
  | .lit (.string bytes) => bytes.length + 1
  | .lit _ => 1
  | .nil => 1
  | .ptr d => uptoBulk d + 1
  | .slice elems spare => uptoBulkAll elems + uptoBulkAll spare + 1
  | .agg parts => uptoBulkAll parts + 1
  | .iface _ d => uptoBulk d + 1
  | .map entries => uptoBulkEntries entries + 1
  | .held _ => 1
def uptoBulkAll {H : Type} : List (DataW H) → Nat
  | [] => 0
  | d :: r => uptoBulk d + uptoBulkAll r
def uptoBulkEntries {H : Type} : List (Lit × DataW H) → Nat
  | [] => 0
  | x :: r => uptoBulkEntry x + uptoBulkEntries r
def uptoBulkEntry {H : Type} : Lit × DataW H → Nat
  | (.string bytes, d) => bytes.length + uptoBulk d + 1
  | (_, d) => uptoBulk d + 1
 end
def uptoSmall : (H : Type) → List (DataW H) → Bool := fun _ ds => decide (uptoBulkAll ds ≤ 1048576)
def OpenSpec.upto (s : _root_.Go.ChangeSpec) : _root_.Go.OpenSpec := { _root_.Go.OpenSpec.ofChange s with cond := some uptoSmall }

/-- 'kindredlaw8.ManifestCheck', WHERE WHAT IT READS IS OF BULK AT MOST 1048576: true; the input reads as it did. -/
def manifestCheckUptoRow : OpenClaim := { program := "ytffdplmnjlcmnaadoor", sum := "4279ab2fa921d2200a9502c7acb77deb290a76342f1a7f47583c7043369f7c0c", func := "kindred/kindredlaw8.ManifestCheck", spec := "manifestCheck", inPlace := ["internal/abi.NoEscape"], unfollowed := true, recurses := true, named := ["kindred/seal.table"], apart := false, laid := [("kindred/seal.table", laid_kindred_seal_table)], narrowed := true }
def ManifestCheckUptoSaid : Prop := manifestCheckUptoRow.holds Tryd.pinned (OpenSpec.upto manifestCheckSpec)

/-- 'kindredlaw5.JournalRead', WHERE WHAT IT READS IS OF BULK AT MOST 1048576: true; the input reads as it did. -/
def journalReadUptoRow : OpenClaim := { program := "ytffdplmnjlcmnaadoor", sum := "4279ab2fa921d2200a9502c7acb77deb290a76342f1a7f47583c7043369f7c0c", func := "kindred/kindredlaw5.JournalRead", spec := "journalRead", unfollowed := true, recurses := true, named := ["kindred/seal.table"], apart := false, laid := [("kindred/seal.table", laid_kindred_seal_table)], narrowed := true }
def JournalReadUptoSaid : Prop := journalReadUptoRow.holds Tryd.pinned (OpenSpec.upto journalReadSpec)

/-- 'kindredlaw5.JournalBack', WHERE WHAT IT READS IS OF BULK AT MOST 1048576: true; the input reads as it did. -/
def journalBackUptoRow : OpenClaim := { program := "ytffdplmnjlcmnaadoor", sum := "4279ab2fa921d2200a9502c7acb77deb290a76342f1a7f47583c7043369f7c0c", func := "kindred/kindredlaw5.JournalBack", spec := "journalBack", unfollowed := true, recurses := true, named := ["kindred/seal.table"], apart := false, laid := [("kindred/seal.table", laid_kindred_seal_table)], narrowed := true }
def JournalBackUptoSaid : Prop := journalBackUptoRow.holds Tryd.pinned (OpenSpec.upto journalBackSpec)

/-- 'kindredlaw8.ManifestDecode', WHERE WHAT IT READS IS OF BULK AT MOST 1048576: true; the input reads as it did. -/
def manifestDecodeUptoRow : OpenClaim := { program := "ytffdplmnjlcmnaadoor", sum := "4279ab2fa921d2200a9502c7acb77deb290a76342f1a7f47583c7043369f7c0c", func := "kindred/kindredlaw8.ManifestDecode", spec := "manifestDecode", unfollowed := true, recurses := true, named := ["kindred/seal.table"], apart := false, laid := [("kindred/seal.table", laid_kindred_seal_table)], narrowed := true }
def ManifestDecodeUptoSaid : Prop := manifestDecodeUptoRow.holds Tryd.pinned (OpenSpec.upto manifestDecodeSpec)

/-- 'kindredlaw8.ManifestBack', WHERE WHAT IT READS IS OF BULK AT MOST 1048576: true; the input reads as it did. -/
def manifestBackUptoRow : OpenClaim := { program := "ytffdplmnjlcmnaadoor", sum := "4279ab2fa921d2200a9502c7acb77deb290a76342f1a7f47583c7043369f7c0c", func := "kindred/kindredlaw8.ManifestBack", spec := "manifestBack", inPlace := ["internal/abi.NoEscape"], unfollowed := true, recurses := true, named := ["kindred/seal.table"], apart := false, laid := [("kindred/seal.table", laid_kindred_seal_table)], narrowed := true }
def ManifestBackUptoSaid : Prop := manifestBackUptoRow.holds Tryd.pinned (OpenSpec.upto manifestBackSpec)

/-- 'kindredlaw5.JournalNames', WHERE WHAT IT READS IS OF BULK AT MOST 1048576: true; the input reads as it did. -/
def journalNamesUptoRow : OpenClaim := { program := "ytffdplmnjlcmnaadoor", sum := "4279ab2fa921d2200a9502c7acb77deb290a76342f1a7f47583c7043369f7c0c", func := "kindred/kindredlaw5.JournalNames", spec := "journalNames", named := ["kindred/seal.table", "internal/strconv.uint64pow10", "math/bits.deBruijn32tab", "math/bits.deBruijn64tab"], apart := false, laid := [("kindred/seal.table", laid_kindred_seal_table), ("math/bits.deBruijn32tab", laid_math_bits_deBruijn32tab), ("math/bits.deBruijn64tab", laid_math_bits_deBruijn64tab), ("internal/strconv.uint64pow10", laid_internal_strconv_uint64pow10)], narrowed := true }
def JournalNamesUptoSaid : Prop := journalNamesUptoRow.holds Tryd.pinned (OpenSpec.upto journalNamesSpec)

/-- 'kindredlaw5.JournalWrite', WHERE WHAT IT READS IS OF BULK AT MOST 1048576: true; the input reads as it did. -/
def journalWriteUptoRow : OpenClaim := { program := "ytffdplmnjlcmnaadoor", sum := "4279ab2fa921d2200a9502c7acb77deb290a76342f1a7f47583c7043369f7c0c", func := "kindred/kindredlaw5.JournalWrite", spec := "journalWrite", named := ["kindred/seal.table", "internal/strconv.uint64pow10", "math/bits.deBruijn32tab", "math/bits.deBruijn64tab"], apart := false, laid := [("kindred/seal.table", laid_kindred_seal_table), ("math/bits.deBruijn32tab", laid_math_bits_deBruijn32tab), ("math/bits.deBruijn64tab", laid_math_bits_deBruijn64tab), ("internal/strconv.uint64pow10", laid_internal_strconv_uint64pow10)], narrowed := true }
def JournalWriteUptoSaid : Prop := journalWriteUptoRow.holds Tryd.pinned (OpenSpec.upto journalWriteSpec)

/-- 'kindredlaw14.RunFiles', WHERE WHAT IT READS IS OF BULK AT MOST 1048576: true; the input reads as it did. -/
def runFilesUptoRow : OpenClaim := { program := "ytffdplmnjlcmnaadoor", sum := "4279ab2fa921d2200a9502c7acb77deb290a76342f1a7f47583c7043369f7c0c", func := "kindred/kindredlaw14.RunFiles", spec := "runFiles", unfollowed := true, recurses := true, named := ["internal/strconv.uint64pow10", "math/bits.deBruijn32tab", "math/bits.deBruijn64tab"], apart := false, laid := [("math/bits.deBruijn32tab", laid_math_bits_deBruijn32tab), ("math/bits.deBruijn64tab", laid_math_bits_deBruijn64tab), ("internal/strconv.uint64pow10", laid_internal_strconv_uint64pow10)], narrowed := true }
def RunFilesUptoSaid : Prop := runFilesUptoRow.holds Tryd.pinned (OpenSpec.upto runFilesSpec)

end Rows
end Go.Proofs.YtffdplmnjlcmnaaDoor
