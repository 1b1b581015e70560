/-
  DERIVED. GIVEN WITH THE SEED: THE CARDS: each row of YtpldjhlhkjmneaaDoorRows.lean that lists a variable, with what it lists TIED to the program's text (the seventh form; the later family's looks); each row that meets fmt, with fmt's text TOLD by the authors' own Lean function (tested against real Go, not proved from fmt's source: count such statements apart). THE CARD IS WHAT COUNTS. Prove the row's statement (the work); the ties are given (YtpldjhlhkjmneaaDoorTie.lean); close each card by the builder's one call (the guide's Derived/Test/ToyasCard.lean, 'card_holds'). Laid BY PROGRAM, IN A SANDBOX (cutbox-door.mjs). By AI agents, Wed Nov 11 2026. No macro, syntax, notation, axiom, sorry.
-/
import Derived.Test.YtpldjhlhkjmneaaDoorRows
import GoSem.ClaimSeven
namespace Go.Proofs.YtpldjhlhkjmneaaDoor
namespace Rows

/-- THE TIED CARD OF 'kindredlaw2.MasksRank'. -/
def masksRankCard : Claim7 := { stood := { row := masksRankRow, standIns := [], harness := (true, "be242a4ccf7828289bd6d2654a697eb1a99c9b5c2db9528ec6ffd7575ff810d4"), looks := false }, kinds := [], alts := [], laidByText := true, laidKinds := [.data], laidTests := true, laidLooks := .later }
def MasksRankCardSaid : Prop := Claim7.holds Tryd.pinned (.plain (OpenSpec.ofChange masksRankSpec)) masksRankCard

/-- THE TIED CARD OF 'kindredlaw2.MasksPlace'. -/
def masksPlaceCard : Claim7 := { stood := { row := masksPlaceRow, standIns := [], harness := (true, "be242a4ccf7828289bd6d2654a697eb1a99c9b5c2db9528ec6ffd7575ff810d4"), looks := false }, kinds := [], alts := [], laidByText := true, laidKinds := [.data], laidTests := true, laidLooks := .later }
def MasksPlaceCardSaid : Prop := Claim7.holds Tryd.pinned (.plain (OpenSpec.ofChange masksPlaceSpec)) masksPlaceCard

/-- THE TIED CARD OF 'kindredlaw2.MasksShell'. -/
def masksShellCard : Claim7 := { stood := { row := masksShellRow, standIns := [], harness := (true, "be242a4ccf7828289bd6d2654a697eb1a99c9b5c2db9528ec6ffd7575ff810d4"), looks := false }, kinds := [], alts := [], laidByText := true, laidKinds := [.data], laidTests := true, laidLooks := .later }
def MasksShellCardSaid : Prop := Claim7.holds Tryd.pinned (.plain (OpenSpec.ofChange masksShellSpec)) masksShellCard

/-- THE TIED CARD OF 'kindredlaw2.MasksBetween'. -/
def masksBetweenCard : Claim7 := { stood := { row := masksBetweenRow, standIns := [], harness := (true, "be242a4ccf7828289bd6d2654a697eb1a99c9b5c2db9528ec6ffd7575ff810d4"), looks := false }, kinds := [], alts := [], laidByText := true, laidKinds := [.data], laidTests := true, laidLooks := .later }
def MasksBetweenCardSaid : Prop := Claim7.holds Tryd.pinned (.plain (OpenSpec.ofChange masksBetweenSpec)) masksBetweenCard

/-- THE SECOND FORM's CARD OF 'kindredlaw2.MasksRank'. -/
def masksRankUptoCard : Claim7 := { stood := { row := masksRankUptoRow, standIns := [], harness := (true, "be242a4ccf7828289bd6d2654a697eb1a99c9b5c2db9528ec6ffd7575ff810d4"), looks := false }, kinds := [], alts := [], laidByText := true, laidKinds := [.data], laidTests := true, laidLooks := .later }
def MasksRankUptoCardSaid : Prop := Claim7.holds Tryd.pinned (.plain (OpenSpec.upto masksRankSpec)) masksRankUptoCard

/-- THE SECOND FORM's CARD OF 'kindredlaw2.MasksPlace'. -/
def masksPlaceUptoCard : Claim7 := { stood := { row := masksPlaceUptoRow, standIns := [], harness := (true, "be242a4ccf7828289bd6d2654a697eb1a99c9b5c2db9528ec6ffd7575ff810d4"), looks := false }, kinds := [], alts := [], laidByText := true, laidKinds := [.data], laidTests := true, laidLooks := .later }
def MasksPlaceUptoCardSaid : Prop := Claim7.holds Tryd.pinned (.plain (OpenSpec.upto masksPlaceSpec)) masksPlaceUptoCard

/-- THE SECOND FORM's CARD OF 'kindredlaw2.MasksShell'. -/
def masksShellUptoCard : Claim7 := { stood := { row := masksShellUptoRow, standIns := [], harness := (true, "be242a4ccf7828289bd6d2654a697eb1a99c9b5c2db9528ec6ffd7575ff810d4"), looks := false }, kinds := [], alts := [], laidByText := true, laidKinds := [.data], laidTests := true, laidLooks := .later }
def MasksShellUptoCardSaid : Prop := Claim7.holds Tryd.pinned (.plain (OpenSpec.upto masksShellSpec)) masksShellUptoCard

/-- THE SECOND FORM's CARD OF 'kindredlaw2.MasksBetween'. -/
def masksBetweenUptoCard : Claim7 := { stood := { row := masksBetweenUptoRow, standIns := [], harness := (true, "be242a4ccf7828289bd6d2654a697eb1a99c9b5c2db9528ec6ffd7575ff810d4"), looks := false }, kinds := [], alts := [], laidByText := true, laidKinds := [.data], laidTests := true, laidLooks := .later }
def MasksBetweenUptoCardSaid : Prop := Claim7.holds Tryd.pinned (.plain (OpenSpec.upto masksBetweenSpec)) masksBetweenUptoCard
end Rows
end Go.Proofs.YtpldjhlhkjmneaaDoor
