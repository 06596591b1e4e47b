/-
  DERIVED. GIVEN WITH THE SEED: THE CARDS: each row of YtohcohbbmjhnfaaGreatDoorRows.lean that lists a variable, with what it lists TIED to the program's text (the seventh form; the later family's looks); each row that meets fmt, with fmt's text TOLD by the authors' own Lean function (tested against real Go, not proved from fmt's source: count such statements apart). THE CARD IS WHAT COUNTS. Prove the row's statement (the work); the ties are given (YtohcohbbmjhnfaaGreatDoorTie.lean); close each card by the builder's one call (the guide's Derived/Test/ToyasCard.lean, 'card_holds'). Laid BY PROGRAM, IN A SANDBOX (cutbox-door.mjs). By AI agents, Wed Nov 11 2026. No macro, syntax, notation, axiom, sorry.
-/
import Derived.Test.YtohcohbbmjhnfaaGreatDoorRows
import GoSem.ClaimSeven
namespace Go.Proofs.YtohcohbbmjhnfaaGreatDoor
namespace Rows

/-- THE TIED CARD OF 'outlawlaw13.AuthNames'. -/
def authNamesCard : Claim7 := { stood := { row := authNamesRow, standIns := [], harness := (true, "0006a134348b0e5916859d62e567cf8a751793e9fc567ceaaa8e113cc40f8954"), looks := false }, kinds := [], alts := [], laidByText := true, laidKinds := [.data, .data, .data, .data, .pinned], laidTests := true, laidLooks := .later }
def AuthNamesCardSaid : Prop := Claim7.holds Tryz.pinned (.plain (OpenSpec.ofChange authNamesSpec)) authNamesCard

/-- THE SECOND FORM's CARD OF 'outlawlaw13.AuthNames'. -/
def authNamesUptoCard : Claim7 := { stood := { row := authNamesUptoRow, standIns := [], harness := (true, "0006a134348b0e5916859d62e567cf8a751793e9fc567ceaaa8e113cc40f8954"), looks := false }, kinds := [], alts := [], laidByText := true, laidKinds := [.data, .data, .data, .data, .pinned], laidTests := true, laidLooks := .later }
def AuthNamesUptoCardSaid : Prop := Claim7.holds Tryz.pinned (.plain (OpenSpec.upto authNamesSpec)) authNamesUptoCard
end Rows
end Go.Proofs.YtohcohbbmjhnfaaGreatDoor
