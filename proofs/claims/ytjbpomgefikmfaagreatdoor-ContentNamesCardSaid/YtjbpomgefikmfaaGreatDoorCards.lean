/-
  DERIVED. GIVEN WITH THE SEED: THE CARDS: each row of YtjbpomgefikmfaaGreatDoorRows.lean that lists a variable, with what it lists TIED to the program's text (the seventh form; the later family's looks); each row that meets fmt, with fmt's text TOLD by the authors' own Lean function (tested against real Go, not proved from fmt's source: count such statements apart). THE CARD IS WHAT COUNTS. Prove the row's statement (the work); the ties are given (YtjbpomgefikmfaaGreatDoorTie.lean); close each card by the builder's one call (the guide's Derived/Test/ToyasCard.lean, 'card_holds'). Laid BY PROGRAM, IN A SANDBOX (cutbox-door.mjs). By AI agents, Wed Nov 11 2026. No macro, syntax, notation, axiom, sorry.
-/
import Derived.Test.YtjbpomgefikmfaaGreatDoorRows
import GoSem.ClaimSeven
namespace Go.Proofs.YtjbpomgefikmfaaGreatDoor
namespace Rows

/-- THE TIED CARD OF 'outlawlaw16.RulesNames'. -/
def rulesNamesCard : Claim7 := { stood := { row := rulesNamesRow, standIns := [], harness := (true, "b43e0886de80cee72ffe3414fa968e8dcc202b2c332b70b2e3d85cf2cc823bae"), looks := false }, kinds := [], alts := [], laidByText := true, laidKinds := [.data, .pinned], laidTests := true, laidLooks := .later }
def RulesNamesCardSaid : Prop := Claim7.holds Tryz.pinned (.plain (OpenSpec.ofChange rulesNamesSpec)) rulesNamesCard

/-- THE TIED CARD OF 'outlawlaw15.RoomNames'. -/
def roomNamesCard : Claim7 := { stood := { row := roomNamesRow, standIns := [], harness := (true, "b43e0886de80cee72ffe3414fa968e8dcc202b2c332b70b2e3d85cf2cc823bae"), looks := false }, kinds := [], alts := [], laidByText := true, laidKinds := [.data, .data, .data, .data, .pinned], laidTests := true, laidLooks := .later }
def RoomNamesCardSaid : Prop := Claim7.holds Tryz.pinned (.plain (OpenSpec.ofChange roomNamesSpec)) roomNamesCard

/-- THE TIED CARD OF 'outlawlaw03.CanonNames'. -/
def canonNamesCard : Claim7 := { stood := { row := canonNamesRow, standIns := [], harness := (true, "b43e0886de80cee72ffe3414fa968e8dcc202b2c332b70b2e3d85cf2cc823bae"), looks := false }, kinds := [], alts := [], laidByText := true, laidKinds := [.data, .data, .data, .data, .pinned], laidTests := true, laidLooks := .later }
def CanonNamesCardSaid : Prop := Claim7.holds Tryz.pinned (.plain (OpenSpec.ofChange canonNamesSpec)) canonNamesCard

/-- THE TIED CARD OF 'outlawlaw24.PlanNames'. -/
def planNamesCard : Claim7 := { stood := { row := planNamesRow, standIns := [], harness := (true, "b43e0886de80cee72ffe3414fa968e8dcc202b2c332b70b2e3d85cf2cc823bae"), looks := false }, kinds := [], alts := [], laidByText := true, laidKinds := [.data, .data, .data, .data, .pinned], laidTests := true, laidLooks := .later }
def PlanNamesCardSaid : Prop := Claim7.holds Tryz.pinned (.plain (OpenSpec.ofChange planNamesSpec)) planNamesCard

/-- THE TIED CARD OF 'outlawlaw06.ContentNames'. -/
def contentNamesCard : Claim7 := { stood := { row := contentNamesRow, standIns := [], harness := (true, "b43e0886de80cee72ffe3414fa968e8dcc202b2c332b70b2e3d85cf2cc823bae"), looks := false }, kinds := [], alts := [], laidByText := true, laidKinds := [.data, .pinned], laidTests := true, laidLooks := .later }
def ContentNamesCardSaid : Prop := Claim7.holds Tryz.pinned (.plain (OpenSpec.ofChange contentNamesSpec)) contentNamesCard

/-- THE TIED CARD OF 'outlawlaw05.EventNames'. -/
def eventNamesCard : Claim7 := { stood := { row := eventNamesRow, standIns := [], harness := (true, "b43e0886de80cee72ffe3414fa968e8dcc202b2c332b70b2e3d85cf2cc823bae"), looks := false }, kinds := [], alts := [], laidByText := true, laidKinds := [.data, .data, .data, .data, .pinned], laidTests := true, laidLooks := .later }
def EventNamesCardSaid : Prop := Claim7.holds Tryz.pinned (.plain (OpenSpec.ofChange eventNamesSpec)) eventNamesCard

/-- THE SECOND FORM's CARD OF 'outlawlaw16.RulesNames'. -/
def rulesNamesUptoCard : Claim7 := { stood := { row := rulesNamesUptoRow, standIns := [], harness := (true, "b43e0886de80cee72ffe3414fa968e8dcc202b2c332b70b2e3d85cf2cc823bae"), looks := false }, kinds := [], alts := [], laidByText := true, laidKinds := [.data, .pinned], laidTests := true, laidLooks := .later }
def RulesNamesUptoCardSaid : Prop := Claim7.holds Tryz.pinned (.plain (OpenSpec.upto rulesNamesSpec)) rulesNamesUptoCard

/-- THE SECOND FORM's CARD OF 'outlawlaw15.RoomNames'. -/
def roomNamesUptoCard : Claim7 := { stood := { row := roomNamesUptoRow, standIns := [], harness := (true, "b43e0886de80cee72ffe3414fa968e8dcc202b2c332b70b2e3d85cf2cc823bae"), looks := false }, kinds := [], alts := [], laidByText := true, laidKinds := [.data, .data, .data, .data, .pinned], laidTests := true, laidLooks := .later }
def RoomNamesUptoCardSaid : Prop := Claim7.holds Tryz.pinned (.plain (OpenSpec.upto roomNamesSpec)) roomNamesUptoCard

/-- THE SECOND FORM's CARD OF 'outlawlaw03.CanonNames'. -/
def canonNamesUptoCard : Claim7 := { stood := { row := canonNamesUptoRow, standIns := [], harness := (true, "b43e0886de80cee72ffe3414fa968e8dcc202b2c332b70b2e3d85cf2cc823bae"), looks := false }, kinds := [], alts := [], laidByText := true, laidKinds := [.data, .data, .data, .data, .pinned], laidTests := true, laidLooks := .later }
def CanonNamesUptoCardSaid : Prop := Claim7.holds Tryz.pinned (.plain (OpenSpec.upto canonNamesSpec)) canonNamesUptoCard

/-- THE SECOND FORM's CARD OF 'outlawlaw24.PlanNames'. -/
def planNamesUptoCard : Claim7 := { stood := { row := planNamesUptoRow, standIns := [], harness := (true, "b43e0886de80cee72ffe3414fa968e8dcc202b2c332b70b2e3d85cf2cc823bae"), looks := false }, kinds := [], alts := [], laidByText := true, laidKinds := [.data, .data, .data, .data, .pinned], laidTests := true, laidLooks := .later }
def PlanNamesUptoCardSaid : Prop := Claim7.holds Tryz.pinned (.plain (OpenSpec.upto planNamesSpec)) planNamesUptoCard

/-- THE SECOND FORM's CARD OF 'outlawlaw06.ContentNames'. -/
def contentNamesUptoCard : Claim7 := { stood := { row := contentNamesUptoRow, standIns := [], harness := (true, "b43e0886de80cee72ffe3414fa968e8dcc202b2c332b70b2e3d85cf2cc823bae"), looks := false }, kinds := [], alts := [], laidByText := true, laidKinds := [.data, .pinned], laidTests := true, laidLooks := .later }
def ContentNamesUptoCardSaid : Prop := Claim7.holds Tryz.pinned (.plain (OpenSpec.upto contentNamesSpec)) contentNamesUptoCard

/-- THE SECOND FORM's CARD OF 'outlawlaw05.EventNames'. -/
def eventNamesUptoCard : Claim7 := { stood := { row := eventNamesUptoRow, standIns := [], harness := (true, "b43e0886de80cee72ffe3414fa968e8dcc202b2c332b70b2e3d85cf2cc823bae"), looks := false }, kinds := [], alts := [], laidByText := true, laidKinds := [.data, .data, .data, .data, .pinned], laidTests := true, laidLooks := .later }
def EventNamesUptoCardSaid : Prop := Claim7.holds Tryz.pinned (.plain (OpenSpec.upto eventNamesSpec)) eventNamesUptoCard
end Rows
end Go.Proofs.YtjbpomgefikmfaaGreatDoor
