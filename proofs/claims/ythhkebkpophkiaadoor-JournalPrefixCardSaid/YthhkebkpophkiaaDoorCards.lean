/-
  DERIVED. GIVEN WITH THE SEED: THE CARDS: each row of YthhkebkpophkiaaDoorRows.lean that lists a variable, with what it lists TIED to the program's text (the seventh form; the later family's looks); each row that meets fmt, with fmt's text TOLD by the authors' own Lean function (tested against real Go, not proved from fmt's source: count such statements apart). THE CARD IS WHAT COUNTS. Prove the row's statement (the work); the ties are given (YthhkebkpophkiaaDoorTie.lean); close each card by the builder's one call (the guide's Derived/Test/ToyasCard.lean, 'card_holds'). Laid BY PROGRAM, IN A SANDBOX (cutbox-door.mjs). By AI agents, Wed Nov 11 2026. No macro, syntax, notation, axiom, sorry.
-/
import Derived.Test.YthhkebkpophkiaaDoorRows
import GoSem.ClaimSeven
namespace Go.Proofs.YthhkebkpophkiaaDoor
namespace Rows

/-- THE TIED CARD OF 'kindredlaw5.JournalLook'. -/
def journalLookCard : Claim7 := { stood := { row := journalLookRow, standIns := [], harness := (true, "8872f020c5c8faad8ff78104b9532ab49ce7d8068af78346027fbb0b55c9e4b6"), looks := false }, kinds := [], alts := [], laidByText := true, laidKinds := [.data, .data, .data, .data], laidTests := true, laidLooks := .later }
def JournalLookCardSaid : Prop := Claim7.holds Tryd.pinned (.plain (OpenSpec.ofChange journalLookSpec)) journalLookCard

/-- THE TIED CARD OF 'kindredlaw5.JournalForged'. -/
def journalForgedCard : Claim7 := { stood := { row := journalForgedRow, standIns := [], harness := (true, "8872f020c5c8faad8ff78104b9532ab49ce7d8068af78346027fbb0b55c9e4b6"), looks := false }, kinds := [], alts := [], laidByText := true, laidKinds := [.data, .data, .data, .data], laidTests := true, laidLooks := .later }
def JournalForgedCardSaid : Prop := Claim7.holds Tryd.pinned (.plain (OpenSpec.ofChange journalForgedSpec)) journalForgedCard

/-- THE TIED CARD OF 'kindredlaw5.JournalPrefix'. -/
def journalPrefixCard : Claim7 := { stood := { row := journalPrefixRow, standIns := [], harness := (true, "8872f020c5c8faad8ff78104b9532ab49ce7d8068af78346027fbb0b55c9e4b6"), looks := false }, kinds := [], alts := [], laidByText := true, laidKinds := [.data, .data, .data, .data], laidTests := true, laidLooks := .later }
def JournalPrefixCardSaid : Prop := Claim7.holds Tryd.pinned (.plain (OpenSpec.ofChange journalPrefixSpec)) journalPrefixCard

/-- THE SECOND FORM's CARD OF 'kindredlaw5.JournalLook'. -/
def journalLookUptoCard : Claim7 := { stood := { row := journalLookUptoRow, standIns := [], harness := (true, "8872f020c5c8faad8ff78104b9532ab49ce7d8068af78346027fbb0b55c9e4b6"), looks := false }, kinds := [], alts := [], laidByText := true, laidKinds := [.data, .data, .data, .data], laidTests := true, laidLooks := .later }
def JournalLookUptoCardSaid : Prop := Claim7.holds Tryd.pinned (.plain (OpenSpec.upto journalLookSpec)) journalLookUptoCard

/-- THE SECOND FORM's CARD OF 'kindredlaw5.JournalForged'. -/
def journalForgedUptoCard : Claim7 := { stood := { row := journalForgedUptoRow, standIns := [], harness := (true, "8872f020c5c8faad8ff78104b9532ab49ce7d8068af78346027fbb0b55c9e4b6"), looks := false }, kinds := [], alts := [], laidByText := true, laidKinds := [.data, .data, .data, .data], laidTests := true, laidLooks := .later }
def JournalForgedUptoCardSaid : Prop := Claim7.holds Tryd.pinned (.plain (OpenSpec.upto journalForgedSpec)) journalForgedUptoCard

/-- THE SECOND FORM's CARD OF 'kindredlaw5.JournalPrefix'. -/
def journalPrefixUptoCard : Claim7 := { stood := { row := journalPrefixUptoRow, standIns := [], harness := (true, "8872f020c5c8faad8ff78104b9532ab49ce7d8068af78346027fbb0b55c9e4b6"), looks := false }, kinds := [], alts := [], laidByText := true, laidKinds := [.data, .data, .data, .data], laidTests := true, laidLooks := .later }
def JournalPrefixUptoCardSaid : Prop := Claim7.holds Tryd.pinned (.plain (OpenSpec.upto journalPrefixSpec)) journalPrefixUptoCard
end Rows
end Go.Proofs.YthhkebkpophkiaaDoor
