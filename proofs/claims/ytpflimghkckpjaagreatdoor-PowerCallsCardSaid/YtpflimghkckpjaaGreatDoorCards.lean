/-
  DERIVED. GIVEN WITH THE SEED: THE CARDS: each row of YtpflimghkckpjaaGreatDoorRows.lean that lists a variable, with what it lists TIED to the program's text (the seventh form; the later family's looks); each row that meets fmt, with fmt's text TOLD by the authors' own Lean function (tested against real Go, not proved from fmt's source: count such statements apart). THE CARD IS WHAT COUNTS. Prove the row's statement (the work); the ties are given (YtpflimghkckpjaaGreatDoorTie.lean); close each card by the builder's one call (the guide's Derived/Test/ToyasCard.lean, 'card_holds'). Laid BY PROGRAM, IN A SANDBOX (cutbox-door.mjs). By AI agents, Wed Nov 11 2026. No macro, syntax, notation, axiom, sorry.
-/
import Derived.Test.YtpflimghkckpjaaGreatDoorRows
import GoSem.ClaimSeven
namespace Go.Proofs.YtpflimghkckpjaaGreatDoor
namespace Rows

/-- THE TIED CARD OF 'outlawlaw11.PowerCalls'. -/
def powerCallsCard : Claim7 := { stood := { row := powerCallsRow, standIns := [], harness := (true, "5f51be5e168d85dd85b213a5a852146affb911f2b28716b3cec83f1b492d9624"), looks := false }, kinds := [], alts := [], laidByText := true, laidKinds := [.data, .pinned], laidTests := true, laidLooks := .later }
def PowerCallsCardSaid : Prop := Claim7.holds Tryz.pinned (.plain (OpenSpec.ofChange powerCallsSpec)) powerCallsCard

/-- THE TIED CARD OF 'outlawlaw16.RulesOnce'. -/
def rulesOnceCard : Claim7 := { stood := { row := rulesOnceRow, standIns := [], harness := (true, "5f51be5e168d85dd85b213a5a852146affb911f2b28716b3cec83f1b492d9624"), looks := false }, kinds := [], alts := [], laidByText := true, laidKinds := [.data, .pinned], laidTests := true, laidLooks := .later }
def RulesOnceCardSaid : Prop := Claim7.holds Tryz.pinned (.plain (OpenSpec.ofChange rulesOnceSpec)) rulesOnceCard

/-- THE TIED CARD OF 'outlawlaw16.RulesAlias'. -/
def rulesAliasCard : Claim7 := { stood := { row := rulesAliasRow, standIns := [], harness := (true, "5f51be5e168d85dd85b213a5a852146affb911f2b28716b3cec83f1b492d9624"), looks := false }, kinds := [], alts := [], laidByText := true, laidKinds := [.data, .pinned], laidTests := true, laidLooks := .later }
def RulesAliasCardSaid : Prop := Claim7.holds Tryz.pinned (.plain (OpenSpec.ofChange rulesAliasSpec)) rulesAliasCard

/-- THE TIED CARD OF 'outlawlaw16.RulesSorts'. -/
def rulesSortsCard : Claim7 := { stood := { row := rulesSortsRow, standIns := [], harness := (true, "5f51be5e168d85dd85b213a5a852146affb911f2b28716b3cec83f1b492d9624"), looks := false }, kinds := [], alts := [], laidByText := true, laidKinds := [.data, .pinned], laidTests := true, laidLooks := .later }
def RulesSortsCardSaid : Prop := Claim7.holds Tryz.pinned (.plain (OpenSpec.ofChange rulesSortsSpec)) rulesSortsCard

/-- THE TIED CARD OF 'outlawlaw16.RulesNames'. -/
def rulesNamesCard : Claim7 := { stood := { row := rulesNamesRow, standIns := [], harness := (true, "5f51be5e168d85dd85b213a5a852146affb911f2b28716b3cec83f1b492d9624"), looks := false }, kinds := [], alts := [], laidByText := true, laidKinds := [.data, .pinned], laidTests := true, laidLooks := .later }
def RulesNamesCardSaid : Prop := Claim7.holds Tryz.pinned (.plain (OpenSpec.ofChange rulesNamesSpec)) rulesNamesCard

/-- THE TIED CARD OF 'outlawlaw16.RulesCalls'. -/
def rulesCallsCard : Claim7 := { stood := { row := rulesCallsRow, standIns := [], harness := (true, "5f51be5e168d85dd85b213a5a852146affb911f2b28716b3cec83f1b492d9624"), looks := false }, kinds := [], alts := [], laidByText := true, laidKinds := [.data, .pinned], laidTests := true, laidLooks := .later }
def RulesCallsCardSaid : Prop := Claim7.holds Tryz.pinned (.plain (OpenSpec.ofChange rulesCallsSpec)) rulesCallsCard

/-- THE SECOND FORM's CARD OF 'outlawlaw11.PowerCalls'. -/
def powerCallsUptoCard : Claim7 := { stood := { row := powerCallsUptoRow, standIns := [], harness := (true, "5f51be5e168d85dd85b213a5a852146affb911f2b28716b3cec83f1b492d9624"), looks := false }, kinds := [], alts := [], laidByText := true, laidKinds := [.data, .pinned], laidTests := true, laidLooks := .later }
def PowerCallsUptoCardSaid : Prop := Claim7.holds Tryz.pinned (.plain (OpenSpec.upto powerCallsSpec)) powerCallsUptoCard

/-- THE SECOND FORM's CARD OF 'outlawlaw16.RulesOnce'. -/
def rulesOnceUptoCard : Claim7 := { stood := { row := rulesOnceUptoRow, standIns := [], harness := (true, "5f51be5e168d85dd85b213a5a852146affb911f2b28716b3cec83f1b492d9624"), looks := false }, kinds := [], alts := [], laidByText := true, laidKinds := [.data, .pinned], laidTests := true, laidLooks := .later }
def RulesOnceUptoCardSaid : Prop := Claim7.holds Tryz.pinned (.plain (OpenSpec.upto rulesOnceSpec)) rulesOnceUptoCard

/-- THE SECOND FORM's CARD OF 'outlawlaw16.RulesAlias'. -/
def rulesAliasUptoCard : Claim7 := { stood := { row := rulesAliasUptoRow, standIns := [], harness := (true, "5f51be5e168d85dd85b213a5a852146affb911f2b28716b3cec83f1b492d9624"), looks := false }, kinds := [], alts := [], laidByText := true, laidKinds := [.data, .pinned], laidTests := true, laidLooks := .later }
def RulesAliasUptoCardSaid : Prop := Claim7.holds Tryz.pinned (.plain (OpenSpec.upto rulesAliasSpec)) rulesAliasUptoCard

/-- THE SECOND FORM's CARD OF 'outlawlaw16.RulesSorts'. -/
def rulesSortsUptoCard : Claim7 := { stood := { row := rulesSortsUptoRow, standIns := [], harness := (true, "5f51be5e168d85dd85b213a5a852146affb911f2b28716b3cec83f1b492d9624"), looks := false }, kinds := [], alts := [], laidByText := true, laidKinds := [.data, .pinned], laidTests := true, laidLooks := .later }
def RulesSortsUptoCardSaid : Prop := Claim7.holds Tryz.pinned (.plain (OpenSpec.upto rulesSortsSpec)) rulesSortsUptoCard

/-- THE SECOND FORM's CARD OF 'outlawlaw16.RulesNames'. -/
def rulesNamesUptoCard : Claim7 := { stood := { row := rulesNamesUptoRow, standIns := [], harness := (true, "5f51be5e168d85dd85b213a5a852146affb911f2b28716b3cec83f1b492d9624"), looks := false }, kinds := [], alts := [], laidByText := true, laidKinds := [.data, .pinned], laidTests := true, laidLooks := .later }
def RulesNamesUptoCardSaid : Prop := Claim7.holds Tryz.pinned (.plain (OpenSpec.upto rulesNamesSpec)) rulesNamesUptoCard

/-- THE SECOND FORM's CARD OF 'outlawlaw16.RulesCalls'. -/
def rulesCallsUptoCard : Claim7 := { stood := { row := rulesCallsUptoRow, standIns := [], harness := (true, "5f51be5e168d85dd85b213a5a852146affb911f2b28716b3cec83f1b492d9624"), looks := false }, kinds := [], alts := [], laidByText := true, laidKinds := [.data, .pinned], laidTests := true, laidLooks := .later }
def RulesCallsUptoCardSaid : Prop := Claim7.holds Tryz.pinned (.plain (OpenSpec.upto rulesCallsSpec)) rulesCallsUptoCard
end Rows
end Go.Proofs.YtpflimghkckpjaaGreatDoor
