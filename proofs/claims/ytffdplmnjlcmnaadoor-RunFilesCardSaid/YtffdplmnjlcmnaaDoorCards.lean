/-
  DERIVED. GIVEN WITH THE SEED: THE CARDS: each row of YtffdplmnjlcmnaaDoorRows.lean that lists a variable, with what it lists TIED to the program's text (the seventh form; the later family's looks); each row that meets fmt, with fmt's text TOLD by the authors' own Lean function (tested against real Go, not proved from fmt's source: count such statements apart). THE CARD IS WHAT COUNTS. Prove the row's statement (the work); the ties are given (YtffdplmnjlcmnaaDoorTie.lean); close each card by the builder's one call (the guide's Derived/Test/ToyasCard.lean, 'card_holds'). Laid BY PROGRAM, IN A SANDBOX (cutbox-door.mjs). By AI agents, Wed Nov 11 2026. No macro, syntax, notation, axiom, sorry.
-/
import Derived.Test.YtffdplmnjlcmnaaDoorRows
import GoSem.ClaimSeven
namespace Go.Proofs.YtffdplmnjlcmnaaDoor
namespace Rows

/-- THE TIED CARD OF 'kindredlaw8.ManifestCheck'. -/
def manifestCheckCard : Claim7 := { stood := { row := manifestCheckRow, standIns := [], harness := (true, "3542a3c7130f7570292ee184fe27c2f3bcf14d50d5cf8a02a91b99a1920d8b8d"), looks := false }, kinds := [], alts := [], laidByText := true, laidKinds := [.data], laidTests := true, laidLooks := .later }
def ManifestCheckCardSaid : Prop := Claim7.holds Tryd.pinned (.plain (OpenSpec.ofChange manifestCheckSpec)) manifestCheckCard

/-- THE TIED CARD OF 'kindredlaw5.JournalRead'. -/
def journalReadCard : Claim7 := { stood := { row := journalReadRow, standIns := [], harness := (true, "3542a3c7130f7570292ee184fe27c2f3bcf14d50d5cf8a02a91b99a1920d8b8d"), looks := false }, kinds := [], alts := [], laidByText := true, laidKinds := [.data], laidTests := true, laidLooks := .later }
def JournalReadCardSaid : Prop := Claim7.holds Tryd.pinned (.plain (OpenSpec.ofChange journalReadSpec)) journalReadCard

/-- THE TIED CARD OF 'kindredlaw5.JournalBack'. -/
def journalBackCard : Claim7 := { stood := { row := journalBackRow, standIns := [], harness := (true, "3542a3c7130f7570292ee184fe27c2f3bcf14d50d5cf8a02a91b99a1920d8b8d"), looks := false }, kinds := [], alts := [], laidByText := true, laidKinds := [.data], laidTests := true, laidLooks := .later }
def JournalBackCardSaid : Prop := Claim7.holds Tryd.pinned (.plain (OpenSpec.ofChange journalBackSpec)) journalBackCard

/-- THE TIED CARD OF 'kindredlaw8.ManifestDecode'. -/
def manifestDecodeCard : Claim7 := { stood := { row := manifestDecodeRow, standIns := [], harness := (true, "3542a3c7130f7570292ee184fe27c2f3bcf14d50d5cf8a02a91b99a1920d8b8d"), looks := false }, kinds := [], alts := [], laidByText := true, laidKinds := [.data], laidTests := true, laidLooks := .later }
def ManifestDecodeCardSaid : Prop := Claim7.holds Tryd.pinned (.plain (OpenSpec.ofChange manifestDecodeSpec)) manifestDecodeCard

/-- THE TIED CARD OF 'kindredlaw8.ManifestBack'. -/
def manifestBackCard : Claim7 := { stood := { row := manifestBackRow, standIns := [], harness := (true, "3542a3c7130f7570292ee184fe27c2f3bcf14d50d5cf8a02a91b99a1920d8b8d"), looks := false }, kinds := [], alts := [], laidByText := true, laidKinds := [.data], laidTests := true, laidLooks := .later }
def ManifestBackCardSaid : Prop := Claim7.holds Tryd.pinned (.plain (OpenSpec.ofChange manifestBackSpec)) manifestBackCard

/-- THE TIED CARD OF 'kindredlaw5.JournalNames'. -/
def journalNamesCard : Claim7 := { stood := { row := journalNamesRow, standIns := [], harness := (true, "3542a3c7130f7570292ee184fe27c2f3bcf14d50d5cf8a02a91b99a1920d8b8d"), looks := false }, kinds := [], alts := [], laidByText := true, laidKinds := [.data, .data, .data, .data], laidTests := true, laidLooks := .later }
def JournalNamesCardSaid : Prop := Claim7.holds Tryd.pinned (.plain (OpenSpec.ofChange journalNamesSpec)) journalNamesCard

/-- THE TIED CARD OF 'kindredlaw5.JournalWrite'. -/
def journalWriteCard : Claim7 := { stood := { row := journalWriteRow, standIns := [], harness := (true, "3542a3c7130f7570292ee184fe27c2f3bcf14d50d5cf8a02a91b99a1920d8b8d"), looks := false }, kinds := [], alts := [], laidByText := true, laidKinds := [.data, .data, .data, .data], laidTests := true, laidLooks := .later }
def JournalWriteCardSaid : Prop := Claim7.holds Tryd.pinned (.plain (OpenSpec.ofChange journalWriteSpec)) journalWriteCard

/-- THE TIED CARD OF 'kindredlaw14.RunFiles'. -/
def runFilesCard : Claim7 := { stood := { row := runFilesRow, standIns := [], harness := (true, "3542a3c7130f7570292ee184fe27c2f3bcf14d50d5cf8a02a91b99a1920d8b8d"), looks := false }, kinds := [], alts := [], laidByText := true, laidKinds := [.data, .data, .data], laidTests := true, laidLooks := .later }
def RunFilesCardSaid : Prop := Claim7.holds Tryd.pinned (.plain (OpenSpec.ofChange runFilesSpec)) runFilesCard

/-- THE SECOND FORM's CARD OF 'kindredlaw8.ManifestCheck'. -/
def manifestCheckUptoCard : Claim7 := { stood := { row := manifestCheckUptoRow, standIns := [], harness := (true, "3542a3c7130f7570292ee184fe27c2f3bcf14d50d5cf8a02a91b99a1920d8b8d"), looks := false }, kinds := [], alts := [], laidByText := true, laidKinds := [.data], laidTests := true, laidLooks := .later }
def ManifestCheckUptoCardSaid : Prop := Claim7.holds Tryd.pinned (.plain (OpenSpec.upto manifestCheckSpec)) manifestCheckUptoCard

/-- THE SECOND FORM's CARD OF 'kindredlaw5.JournalRead'. -/
def journalReadUptoCard : Claim7 := { stood := { row := journalReadUptoRow, standIns := [], harness := (true, "3542a3c7130f7570292ee184fe27c2f3bcf14d50d5cf8a02a91b99a1920d8b8d"), looks := false }, kinds := [], alts := [], laidByText := true, laidKinds := [.data], laidTests := true, laidLooks := .later }
def JournalReadUptoCardSaid : Prop := Claim7.holds Tryd.pinned (.plain (OpenSpec.upto journalReadSpec)) journalReadUptoCard

/-- THE SECOND FORM's CARD OF 'kindredlaw5.JournalBack'. -/
def journalBackUptoCard : Claim7 := { stood := { row := journalBackUptoRow, standIns := [], harness := (true, "3542a3c7130f7570292ee184fe27c2f3bcf14d50d5cf8a02a91b99a1920d8b8d"), looks := false }, kinds := [], alts := [], laidByText := true, laidKinds := [.data], laidTests := true, laidLooks := .later }
def JournalBackUptoCardSaid : Prop := Claim7.holds Tryd.pinned (.plain (OpenSpec.upto journalBackSpec)) journalBackUptoCard

/-- THE SECOND FORM's CARD OF 'kindredlaw8.ManifestDecode'. -/
def manifestDecodeUptoCard : Claim7 := { stood := { row := manifestDecodeUptoRow, standIns := [], harness := (true, "3542a3c7130f7570292ee184fe27c2f3bcf14d50d5cf8a02a91b99a1920d8b8d"), looks := false }, kinds := [], alts := [], laidByText := true, laidKinds := [.data], laidTests := true, laidLooks := .later }
def ManifestDecodeUptoCardSaid : Prop := Claim7.holds Tryd.pinned (.plain (OpenSpec.upto manifestDecodeSpec)) manifestDecodeUptoCard

/-- THE SECOND FORM's CARD OF 'kindredlaw8.ManifestBack'. -/
def manifestBackUptoCard : Claim7 := { stood := { row := manifestBackUptoRow, standIns := [], harness := (true, "3542a3c7130f7570292ee184fe27c2f3bcf14d50d5cf8a02a91b99a1920d8b8d"), looks := false }, kinds := [], alts := [], laidByText := true, laidKinds := [.data], laidTests := true, laidLooks := .later }
def ManifestBackUptoCardSaid : Prop := Claim7.holds Tryd.pinned (.plain (OpenSpec.upto manifestBackSpec)) manifestBackUptoCard

/-- THE SECOND FORM's CARD OF 'kindredlaw5.JournalNames'. -/
def journalNamesUptoCard : Claim7 := { stood := { row := journalNamesUptoRow, standIns := [], harness := (true, "3542a3c7130f7570292ee184fe27c2f3bcf14d50d5cf8a02a91b99a1920d8b8d"), looks := false }, kinds := [], alts := [], laidByText := true, laidKinds := [.data, .data, .data, .data], laidTests := true, laidLooks := .later }
def JournalNamesUptoCardSaid : Prop := Claim7.holds Tryd.pinned (.plain (OpenSpec.upto journalNamesSpec)) journalNamesUptoCard

/-- THE SECOND FORM's CARD OF 'kindredlaw5.JournalWrite'. -/
def journalWriteUptoCard : Claim7 := { stood := { row := journalWriteUptoRow, standIns := [], harness := (true, "3542a3c7130f7570292ee184fe27c2f3bcf14d50d5cf8a02a91b99a1920d8b8d"), looks := false }, kinds := [], alts := [], laidByText := true, laidKinds := [.data, .data, .data, .data], laidTests := true, laidLooks := .later }
def JournalWriteUptoCardSaid : Prop := Claim7.holds Tryd.pinned (.plain (OpenSpec.upto journalWriteSpec)) journalWriteUptoCard

/-- THE SECOND FORM's CARD OF 'kindredlaw14.RunFiles'. -/
def runFilesUptoCard : Claim7 := { stood := { row := runFilesUptoRow, standIns := [], harness := (true, "3542a3c7130f7570292ee184fe27c2f3bcf14d50d5cf8a02a91b99a1920d8b8d"), looks := false }, kinds := [], alts := [], laidByText := true, laidKinds := [.data, .data, .data], laidTests := true, laidLooks := .later }
def RunFilesUptoCardSaid : Prop := Claim7.holds Tryd.pinned (.plain (OpenSpec.upto runFilesSpec)) runFilesUptoCard
end Rows
end Go.Proofs.YtffdplmnjlcmnaaDoor
