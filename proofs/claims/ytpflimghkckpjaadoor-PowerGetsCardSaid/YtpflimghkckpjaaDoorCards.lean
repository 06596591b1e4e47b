/-
  DERIVED. GIVEN WITH THE SEED: THE CARDS: each row of YtpflimghkckpjaaDoorRows.lean that lists a variable, with what it lists TIED to the program's text (the seventh form; the later family's looks); each row that meets fmt, with fmt's text TOLD by the authors' own Lean function (tested against real Go, not proved from fmt's source: count such statements apart). THE CARD IS WHAT COUNTS. Prove the row's statement (the work); the ties are given (YtpflimghkckpjaaDoorTie.lean); close each card by the builder's one call (the guide's Derived/Test/ToyasCard.lean, 'card_holds'). Laid BY PROGRAM, IN A SANDBOX (cutbox-door.mjs). By AI agents, Wed Nov 11 2026. No macro, syntax, notation, axiom, sorry.
-/
import Derived.Test.YtpflimghkckpjaaDoorRows
import GoSem.ClaimSeven
namespace Go.Proofs.YtpflimghkckpjaaDoor
namespace Rows

/-- THE TIED CARD OF 'outlawlaw11.PowerGets'. -/
def powerGetsCard : Claim7 := { stood := { row := powerGetsRow, standIns := [], harness := (true, "22a6c9585fc8c12fa85f8b660b3069c992eb1475f8007c061773a65ad47f2027"), looks := false }, kinds := [], alts := [], laidByText := true, laidKinds := [.data, .pinned], laidTests := true, laidLooks := .later }
def PowerGetsCardSaid : Prop := Claim7.holds Tryd.pinned (.plain (OpenSpec.ofChange powerGetsSpec)) powerGetsCard

/-- THE TIED CARD OF 'outlawlaw11.PowerNames'. -/
def powerNamesCard : Claim7 := { stood := { row := powerNamesRow, standIns := [], harness := (true, "22a6c9585fc8c12fa85f8b660b3069c992eb1475f8007c061773a65ad47f2027"), looks := false }, kinds := [], alts := [], laidByText := true, laidKinds := [.data, .pinned], laidTests := true, laidLooks := .later }
def PowerNamesCardSaid : Prop := Claim7.holds Tryd.pinned (.plain (OpenSpec.ofChange powerNamesSpec)) powerNamesCard

/-- THE TIED CARD OF 'outlawlaw11.PowerStays'. -/
def powerStaysCard : Claim7 := { stood := { row := powerStaysRow, standIns := [], harness := (true, "22a6c9585fc8c12fa85f8b660b3069c992eb1475f8007c061773a65ad47f2027"), looks := false }, kinds := [], alts := [], laidByText := true, laidKinds := [.data, .pinned], laidTests := true, laidLooks := .later }
def PowerStaysCardSaid : Prop := Claim7.holds Tryd.pinned (.plain (OpenSpec.ofChange powerStaysSpec)) powerStaysCard

/-- THE SECOND FORM's CARD OF 'outlawlaw11.PowerGets'. -/
def powerGetsUptoCard : Claim7 := { stood := { row := powerGetsUptoRow, standIns := [], harness := (true, "22a6c9585fc8c12fa85f8b660b3069c992eb1475f8007c061773a65ad47f2027"), looks := false }, kinds := [], alts := [], laidByText := true, laidKinds := [.data, .pinned], laidTests := true, laidLooks := .later }
def PowerGetsUptoCardSaid : Prop := Claim7.holds Tryd.pinned (.plain (OpenSpec.upto powerGetsSpec)) powerGetsUptoCard

/-- THE SECOND FORM's CARD OF 'outlawlaw11.PowerNames'. -/
def powerNamesUptoCard : Claim7 := { stood := { row := powerNamesUptoRow, standIns := [], harness := (true, "22a6c9585fc8c12fa85f8b660b3069c992eb1475f8007c061773a65ad47f2027"), looks := false }, kinds := [], alts := [], laidByText := true, laidKinds := [.data, .pinned], laidTests := true, laidLooks := .later }
def PowerNamesUptoCardSaid : Prop := Claim7.holds Tryd.pinned (.plain (OpenSpec.upto powerNamesSpec)) powerNamesUptoCard

/-- THE SECOND FORM's CARD OF 'outlawlaw11.PowerStays'. -/
def powerStaysUptoCard : Claim7 := { stood := { row := powerStaysUptoRow, standIns := [], harness := (true, "22a6c9585fc8c12fa85f8b660b3069c992eb1475f8007c061773a65ad47f2027"), looks := false }, kinds := [], alts := [], laidByText := true, laidKinds := [.data, .pinned], laidTests := true, laidLooks := .later }
def PowerStaysUptoCardSaid : Prop := Claim7.holds Tryd.pinned (.plain (OpenSpec.upto powerStaysSpec)) powerStaysUptoCard
end Rows
end Go.Proofs.YtpflimghkckpjaaDoor
