/-
  DERIVED. GIVEN WITH THE SEED: THE CARDS: each row of YtkppcahnbifkgaaGreatDoorRows.lean that lists a variable, with what it lists TIED to the program's text (the seventh form; the later family's looks); each row that meets fmt, with fmt's text TOLD by the authors' own Lean function (tested against real Go, not proved from fmt's source: count such statements apart). THE CARD IS WHAT COUNTS. Prove the row's statement (the work); the ties are given (YtkppcahnbifkgaaGreatDoorTie.lean); close each card by the builder's one call (the guide's Derived/Test/ToyasCard.lean, 'card_holds'). Laid BY PROGRAM, IN A SANDBOX (cutbox-door.mjs). By AI agents, Wed Nov 11 2026. No macro, syntax, notation, axiom, sorry.
-/
import Derived.Test.YtkppcahnbifkgaaGreatDoorRows
import GoSem.ClaimSeven
namespace Go.Proofs.YtkppcahnbifkgaaGreatDoor
namespace Rows

/-- THE TIED CARD OF 'outlawlaw16.RulesOnce'. -/
def rulesOnceCard : Claim7 := { stood := { row := rulesOnceRow, standIns := [], harness := (true, "b368eca97d8ffb201267f03570afaadb99bae29e2cbe1b063b6d4697f25aaced"), looks := false }, kinds := [], alts := [], laidByText := true, laidKinds := [.data, .pinned], laidTests := true, laidLooks := .later }
def RulesOnceCardSaid : Prop := Claim7.holds Tryz.pinned (.plain (OpenSpec.ofChange rulesOnceSpec)) rulesOnceCard

/-- THE TIED CARD OF 'outlawlaw16.RulesAlias'. -/
def rulesAliasCard : Claim7 := { stood := { row := rulesAliasRow, standIns := [], harness := (true, "b368eca97d8ffb201267f03570afaadb99bae29e2cbe1b063b6d4697f25aaced"), looks := false }, kinds := [], alts := [], laidByText := true, laidKinds := [.data, .pinned], laidTests := true, laidLooks := .later }
def RulesAliasCardSaid : Prop := Claim7.holds Tryz.pinned (.plain (OpenSpec.ofChange rulesAliasSpec)) rulesAliasCard

/-- THE TIED CARD OF 'outlawlaw16.RulesSorts'. -/
def rulesSortsCard : Claim7 := { stood := { row := rulesSortsRow, standIns := [], harness := (true, "b368eca97d8ffb201267f03570afaadb99bae29e2cbe1b063b6d4697f25aaced"), looks := false }, kinds := [], alts := [], laidByText := true, laidKinds := [.data, .pinned], laidTests := true, laidLooks := .later }
def RulesSortsCardSaid : Prop := Claim7.holds Tryz.pinned (.plain (OpenSpec.ofChange rulesSortsSpec)) rulesSortsCard

/-- THE TIED CARD OF 'outlawlaw16.RulesNames'. -/
def rulesNamesCard : Claim7 := { stood := { row := rulesNamesRow, standIns := [], harness := (true, "b368eca97d8ffb201267f03570afaadb99bae29e2cbe1b063b6d4697f25aaced"), looks := false }, kinds := [], alts := [], laidByText := true, laidKinds := [.data, .pinned], laidTests := true, laidLooks := .later }
def RulesNamesCardSaid : Prop := Claim7.holds Tryz.pinned (.plain (OpenSpec.ofChange rulesNamesSpec)) rulesNamesCard

/-- THE TIED CARD OF 'outlawlaw16.RulesCalls'. -/
def rulesCallsCard : Claim7 := { stood := { row := rulesCallsRow, standIns := [], harness := (true, "b368eca97d8ffb201267f03570afaadb99bae29e2cbe1b063b6d4697f25aaced"), looks := false }, kinds := [], alts := [], laidByText := true, laidKinds := [.data, .pinned], laidTests := true, laidLooks := .later }
def RulesCallsCardSaid : Prop := Claim7.holds Tryz.pinned (.plain (OpenSpec.ofChange rulesCallsSpec)) rulesCallsCard

/-- THE TIED CARD OF 'outlawlaw06.ContentMakes'. -/
def contentMakesCard : Claim7 := { stood := { row := contentMakesRow, standIns := [], harness := (true, "b368eca97d8ffb201267f03570afaadb99bae29e2cbe1b063b6d4697f25aaced"), looks := false }, kinds := [], alts := [], laidByText := true, laidKinds := [.data, .pinned], laidTests := true, laidLooks := .later }
def ContentMakesCardSaid : Prop := Claim7.holds Tryz.pinned (.plain (OpenSpec.ofChange contentMakesSpec)) contentMakesCard

/-- THE TIED CARD OF 'outlawlaw06.ContentCalls'. -/
def contentCallsCard : Claim7 := { stood := { row := contentCallsRow, standIns := [], harness := (true, "b368eca97d8ffb201267f03570afaadb99bae29e2cbe1b063b6d4697f25aaced"), looks := false }, kinds := [], alts := [], laidByText := true, laidKinds := [.data, .pinned], laidTests := true, laidLooks := .later }
def ContentCallsCardSaid : Prop := Claim7.holds Tryz.pinned (.plain (OpenSpec.ofChange contentCallsSpec)) contentCallsCard

/-- THE TIED CARD OF 'outlawlaw06.ContentOrder'. -/
def contentOrderCard : Claim7 := { stood := { row := contentOrderRow, standIns := [], harness := (true, "b368eca97d8ffb201267f03570afaadb99bae29e2cbe1b063b6d4697f25aaced"), looks := false }, kinds := [], alts := [], laidByText := true, laidKinds := [.data, .pinned], laidTests := true, laidLooks := .later }
def ContentOrderCardSaid : Prop := Claim7.holds Tryz.pinned (.plain (OpenSpec.ofChange contentOrderSpec)) contentOrderCard

/-- THE TIED CARD OF 'outlawlaw06.ContentBack'. -/
def contentBackCard : Claim7 := { stood := { row := contentBackRow, standIns := [], harness := (true, "b368eca97d8ffb201267f03570afaadb99bae29e2cbe1b063b6d4697f25aaced"), looks := false }, kinds := [], alts := [], laidByText := true, laidKinds := [.data, .pinned], laidTests := true, laidLooks := .later }
def ContentBackCardSaid : Prop := Claim7.holds Tryz.pinned (.plain (OpenSpec.ofChange contentBackSpec)) contentBackCard

/-- THE TIED CARD OF 'outlawlaw06.ContentNames'. -/
def contentNamesCard : Claim7 := { stood := { row := contentNamesRow, standIns := [], harness := (true, "b368eca97d8ffb201267f03570afaadb99bae29e2cbe1b063b6d4697f25aaced"), looks := false }, kinds := [], alts := [], laidByText := true, laidKinds := [.data, .pinned], laidTests := true, laidLooks := .later }
def ContentNamesCardSaid : Prop := Claim7.holds Tryz.pinned (.plain (OpenSpec.ofChange contentNamesSpec)) contentNamesCard

/-- THE TIED CARD OF 'outlawlaw11.PowerBodies'. -/
def powerBodiesCard : Claim7 := { stood := { row := powerBodiesRow, standIns := [], harness := (true, "b368eca97d8ffb201267f03570afaadb99bae29e2cbe1b063b6d4697f25aaced"), looks := false }, kinds := [], alts := [], laidByText := true, laidKinds := [.data, .pinned], laidTests := true, laidLooks := .later }
def PowerBodiesCardSaid : Prop := Claim7.holds Tryz.pinned (.plain (OpenSpec.ofChange powerBodiesSpec)) powerBodiesCard

/-- THE SECOND FORM's CARD OF 'outlawlaw16.RulesOnce'. -/
def rulesOnceUptoCard : Claim7 := { stood := { row := rulesOnceUptoRow, standIns := [], harness := (true, "b368eca97d8ffb201267f03570afaadb99bae29e2cbe1b063b6d4697f25aaced"), looks := false }, kinds := [], alts := [], laidByText := true, laidKinds := [.data, .pinned], laidTests := true, laidLooks := .later }
def RulesOnceUptoCardSaid : Prop := Claim7.holds Tryz.pinned (.plain (OpenSpec.upto rulesOnceSpec)) rulesOnceUptoCard

/-- THE SECOND FORM's CARD OF 'outlawlaw16.RulesAlias'. -/
def rulesAliasUptoCard : Claim7 := { stood := { row := rulesAliasUptoRow, standIns := [], harness := (true, "b368eca97d8ffb201267f03570afaadb99bae29e2cbe1b063b6d4697f25aaced"), looks := false }, kinds := [], alts := [], laidByText := true, laidKinds := [.data, .pinned], laidTests := true, laidLooks := .later }
def RulesAliasUptoCardSaid : Prop := Claim7.holds Tryz.pinned (.plain (OpenSpec.upto rulesAliasSpec)) rulesAliasUptoCard

/-- THE SECOND FORM's CARD OF 'outlawlaw16.RulesSorts'. -/
def rulesSortsUptoCard : Claim7 := { stood := { row := rulesSortsUptoRow, standIns := [], harness := (true, "b368eca97d8ffb201267f03570afaadb99bae29e2cbe1b063b6d4697f25aaced"), looks := false }, kinds := [], alts := [], laidByText := true, laidKinds := [.data, .pinned], laidTests := true, laidLooks := .later }
def RulesSortsUptoCardSaid : Prop := Claim7.holds Tryz.pinned (.plain (OpenSpec.upto rulesSortsSpec)) rulesSortsUptoCard

/-- THE SECOND FORM's CARD OF 'outlawlaw16.RulesNames'. -/
def rulesNamesUptoCard : Claim7 := { stood := { row := rulesNamesUptoRow, standIns := [], harness := (true, "b368eca97d8ffb201267f03570afaadb99bae29e2cbe1b063b6d4697f25aaced"), looks := false }, kinds := [], alts := [], laidByText := true, laidKinds := [.data, .pinned], laidTests := true, laidLooks := .later }
def RulesNamesUptoCardSaid : Prop := Claim7.holds Tryz.pinned (.plain (OpenSpec.upto rulesNamesSpec)) rulesNamesUptoCard

/-- THE SECOND FORM's CARD OF 'outlawlaw16.RulesCalls'. -/
def rulesCallsUptoCard : Claim7 := { stood := { row := rulesCallsUptoRow, standIns := [], harness := (true, "b368eca97d8ffb201267f03570afaadb99bae29e2cbe1b063b6d4697f25aaced"), looks := false }, kinds := [], alts := [], laidByText := true, laidKinds := [.data, .pinned], laidTests := true, laidLooks := .later }
def RulesCallsUptoCardSaid : Prop := Claim7.holds Tryz.pinned (.plain (OpenSpec.upto rulesCallsSpec)) rulesCallsUptoCard

/-- THE SECOND FORM's CARD OF 'outlawlaw06.ContentMakes'. -/
def contentMakesUptoCard : Claim7 := { stood := { row := contentMakesUptoRow, standIns := [], harness := (true, "b368eca97d8ffb201267f03570afaadb99bae29e2cbe1b063b6d4697f25aaced"), looks := false }, kinds := [], alts := [], laidByText := true, laidKinds := [.data, .pinned], laidTests := true, laidLooks := .later }
def ContentMakesUptoCardSaid : Prop := Claim7.holds Tryz.pinned (.plain (OpenSpec.upto contentMakesSpec)) contentMakesUptoCard

/-- THE SECOND FORM's CARD OF 'outlawlaw06.ContentCalls'. -/
def contentCallsUptoCard : Claim7 := { stood := { row := contentCallsUptoRow, standIns := [], harness := (true, "b368eca97d8ffb201267f03570afaadb99bae29e2cbe1b063b6d4697f25aaced"), looks := false }, kinds := [], alts := [], laidByText := true, laidKinds := [.data, .pinned], laidTests := true, laidLooks := .later }
def ContentCallsUptoCardSaid : Prop := Claim7.holds Tryz.pinned (.plain (OpenSpec.upto contentCallsSpec)) contentCallsUptoCard

/-- THE SECOND FORM's CARD OF 'outlawlaw06.ContentOrder'. -/
def contentOrderUptoCard : Claim7 := { stood := { row := contentOrderUptoRow, standIns := [], harness := (true, "b368eca97d8ffb201267f03570afaadb99bae29e2cbe1b063b6d4697f25aaced"), looks := false }, kinds := [], alts := [], laidByText := true, laidKinds := [.data, .pinned], laidTests := true, laidLooks := .later }
def ContentOrderUptoCardSaid : Prop := Claim7.holds Tryz.pinned (.plain (OpenSpec.upto contentOrderSpec)) contentOrderUptoCard

/-- THE SECOND FORM's CARD OF 'outlawlaw06.ContentBack'. -/
def contentBackUptoCard : Claim7 := { stood := { row := contentBackUptoRow, standIns := [], harness := (true, "b368eca97d8ffb201267f03570afaadb99bae29e2cbe1b063b6d4697f25aaced"), looks := false }, kinds := [], alts := [], laidByText := true, laidKinds := [.data, .pinned], laidTests := true, laidLooks := .later }
def ContentBackUptoCardSaid : Prop := Claim7.holds Tryz.pinned (.plain (OpenSpec.upto contentBackSpec)) contentBackUptoCard

/-- THE SECOND FORM's CARD OF 'outlawlaw06.ContentNames'. -/
def contentNamesUptoCard : Claim7 := { stood := { row := contentNamesUptoRow, standIns := [], harness := (true, "b368eca97d8ffb201267f03570afaadb99bae29e2cbe1b063b6d4697f25aaced"), looks := false }, kinds := [], alts := [], laidByText := true, laidKinds := [.data, .pinned], laidTests := true, laidLooks := .later }
def ContentNamesUptoCardSaid : Prop := Claim7.holds Tryz.pinned (.plain (OpenSpec.upto contentNamesSpec)) contentNamesUptoCard

/-- THE SECOND FORM's CARD OF 'outlawlaw11.PowerBodies'. -/
def powerBodiesUptoCard : Claim7 := { stood := { row := powerBodiesUptoRow, standIns := [], harness := (true, "b368eca97d8ffb201267f03570afaadb99bae29e2cbe1b063b6d4697f25aaced"), looks := false }, kinds := [], alts := [], laidByText := true, laidKinds := [.data, .pinned], laidTests := true, laidLooks := .later }
def PowerBodiesUptoCardSaid : Prop := Claim7.holds Tryz.pinned (.plain (OpenSpec.upto powerBodiesSpec)) powerBodiesUptoCard
end Rows
end Go.Proofs.YtkppcahnbifkgaaGreatDoor
