/-
  DERIVED. GIVEN WITH THE SEED: THE CARDS: each row of YtdddopnepbmllaaGreatDoorRows.lean that lists a variable, with what it lists TIED to the program's text (the seventh form; the later family's looks); each row that meets fmt, with fmt's text TOLD by the authors' own Lean function (tested against real Go, not proved from fmt's source: count such statements apart). THE CARD IS WHAT COUNTS. Prove the row's statement (the work); the ties are given (YtdddopnepbmllaaGreatDoorTie.lean); close each card by the builder's one call (the guide's Derived/Test/ToyasCard.lean, 'card_holds'). Laid BY PROGRAM, IN A SANDBOX (cutbox-door.mjs). By AI agents, Wed Nov 11 2026. No macro, syntax, notation, axiom, sorry.
-/
import Derived.Test.YtdddopnepbmllaaGreatDoorRows
import GoSem.ClaimSeven
namespace Go.Proofs.YtdddopnepbmllaaGreatDoor
namespace Rows

/-- THE TIED CARD OF 'outlawlaw12.DagNames'. -/
def dagNamesCard : Claim7 := { stood := { row := dagNamesRow, standIns := [], harness := (true, "e082a36557cde7ab17a1264ddc4a7a6636e1c1e93d8fa2bbb047a990b31b4d7f"), looks := true }, kinds := [], alts := [], laidByText := true, laidKinds := [.data, .data, .data, .data, .pinned], laidTests := true, laidLooks := .later }
def DagNamesCardSaid : Prop := Claim7.holds Tryz.pinned (.plain (OpenSpec.ofChange dagNamesSpec)) dagNamesCard

/-- THE SECOND FORM's CARD OF 'outlawlaw12.DagNames'. -/
def dagNamesUptoCard : Claim7 := { stood := { row := dagNamesUptoRow, standIns := [], harness := (true, "e082a36557cde7ab17a1264ddc4a7a6636e1c1e93d8fa2bbb047a990b31b4d7f"), looks := true }, kinds := [], alts := [], laidByText := true, laidKinds := [.data, .data, .data, .data, .pinned], laidTests := true, laidLooks := .later }
def DagNamesUptoCardSaid : Prop := Claim7.holds Tryz.pinned (.plain (OpenSpec.upto dagNamesSpec)) dagNamesUptoCard
end Rows
end Go.Proofs.YtdddopnepbmllaaGreatDoor
