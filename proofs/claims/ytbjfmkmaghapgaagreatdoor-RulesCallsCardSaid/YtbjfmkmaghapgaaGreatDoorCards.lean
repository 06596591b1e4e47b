/-
  DERIVED. GIVEN WITH THE SEED: THE CARDS: each row of YtbjfmkmaghapgaaGreatDoorRows.lean that lists a variable, with what it lists TIED to the program's text (the seventh form; the later family's looks); each row that meets fmt, with fmt's text TOLD by the authors' own Lean function (tested against real Go, not proved from fmt's source: count such statements apart). THE CARD IS WHAT COUNTS. Prove the row's statement (the work); the ties are given (YtbjfmkmaghapgaaGreatDoorTie.lean); close each card by the builder's one call (the guide's Derived/Test/ToyasCard.lean, 'card_holds'). Laid BY PROGRAM, IN A SANDBOX (cutbox-door.mjs). By AI agents, Wed Nov 11 2026. No macro, syntax, notation, axiom, sorry.
-/
import Derived.Test.YtbjfmkmaghapgaaGreatDoorRows
import GoSem.ClaimSeven
namespace Go.Proofs.YtbjfmkmaghapgaaGreatDoor
namespace Rows

/-- THE TIED CARD OF 'outlawlaw16.RulesOnce'. -/
def rulesOnceCard : Claim7 := { stood := { row := rulesOnceRow, standIns := [], harness := (true, "a1887ae9f3f1e83d4dcdf6209d8a3ce94b5b6329158ffc81fe0711dd4f65d9e5"), looks := false }, kinds := [], alts := [], laidByText := true, laidKinds := [.data, .pinned], laidTests := true, laidLooks := .later }
def RulesOnceCardSaid : Prop := Claim7.holds Tryz.pinned (.plain (OpenSpec.ofChange rulesOnceSpec)) rulesOnceCard

/-- THE TIED CARD OF 'outlawlaw16.RulesAlias'. -/
def rulesAliasCard : Claim7 := { stood := { row := rulesAliasRow, standIns := [], harness := (true, "a1887ae9f3f1e83d4dcdf6209d8a3ce94b5b6329158ffc81fe0711dd4f65d9e5"), looks := false }, kinds := [], alts := [], laidByText := true, laidKinds := [.data, .pinned], laidTests := true, laidLooks := .later }
def RulesAliasCardSaid : Prop := Claim7.holds Tryz.pinned (.plain (OpenSpec.ofChange rulesAliasSpec)) rulesAliasCard

/-- THE TIED CARD OF 'outlawlaw16.RulesCalls'. -/
def rulesCallsCard : Claim7 := { stood := { row := rulesCallsRow, standIns := [], harness := (true, "a1887ae9f3f1e83d4dcdf6209d8a3ce94b5b6329158ffc81fe0711dd4f65d9e5"), looks := false }, kinds := [], alts := [], laidByText := true, laidKinds := [.data, .pinned], laidTests := true, laidLooks := .later }
def RulesCallsCardSaid : Prop := Claim7.holds Tryz.pinned (.plain (OpenSpec.ofChange rulesCallsSpec)) rulesCallsCard

/-- THE SECOND FORM's CARD OF 'outlawlaw16.RulesOnce'. -/
def rulesOnceUptoCard : Claim7 := { stood := { row := rulesOnceUptoRow, standIns := [], harness := (true, "a1887ae9f3f1e83d4dcdf6209d8a3ce94b5b6329158ffc81fe0711dd4f65d9e5"), looks := false }, kinds := [], alts := [], laidByText := true, laidKinds := [.data, .pinned], laidTests := true, laidLooks := .later }
def RulesOnceUptoCardSaid : Prop := Claim7.holds Tryz.pinned (.plain (OpenSpec.upto rulesOnceSpec)) rulesOnceUptoCard

/-- THE SECOND FORM's CARD OF 'outlawlaw16.RulesAlias'. -/
def rulesAliasUptoCard : Claim7 := { stood := { row := rulesAliasUptoRow, standIns := [], harness := (true, "a1887ae9f3f1e83d4dcdf6209d8a3ce94b5b6329158ffc81fe0711dd4f65d9e5"), looks := false }, kinds := [], alts := [], laidByText := true, laidKinds := [.data, .pinned], laidTests := true, laidLooks := .later }
def RulesAliasUptoCardSaid : Prop := Claim7.holds Tryz.pinned (.plain (OpenSpec.upto rulesAliasSpec)) rulesAliasUptoCard

/-- THE SECOND FORM's CARD OF 'outlawlaw16.RulesCalls'. -/
def rulesCallsUptoCard : Claim7 := { stood := { row := rulesCallsUptoRow, standIns := [], harness := (true, "a1887ae9f3f1e83d4dcdf6209d8a3ce94b5b6329158ffc81fe0711dd4f65d9e5"), looks := false }, kinds := [], alts := [], laidByText := true, laidKinds := [.data, .pinned], laidTests := true, laidLooks := .later }
def RulesCallsUptoCardSaid : Prop := Claim7.holds Tryz.pinned (.plain (OpenSpec.upto rulesCallsSpec)) rulesCallsUptoCard
end Rows
end Go.Proofs.YtbjfmkmaghapgaaGreatDoor
