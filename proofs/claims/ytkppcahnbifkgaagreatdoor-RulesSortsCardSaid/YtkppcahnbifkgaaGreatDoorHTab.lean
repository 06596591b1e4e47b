/-
The fact on utf8's tables, and scan.Valid's contract.
-/
import Derived.Test.YtkppcahnbifkgaaGreatDoorHId2
import Derived.Lib.LaidU8
set_option linter.unusedVariables false
set_option linter.unusedSimpArgs false
namespace Go.Proofs.YtkppcahnbifkgaaGreatDoor.H
open Go.RowKit Go.Shelf

/-- utf8's tables lie in memory. -/
def Tab (w : World) : Prop := Lib.Utf8Tabs 0 1 w
theorem Tab.below {w w1 : World} (h : Tab w) (hb : Below w.heap.size w w1) : Tab w1 := Utf8Tabs_below h hb

def validB (s : ByteArray) : Bool := Lib.validD s.data.toList
set_option maxHeartbeats 400000 in
theorem valid_any (s : ByteArray) (w : World) (hs : s.size ≤ 9223372036854775807) (hT : Tab w) :
    Calls Tryz.prog 134 #[.string s] w fun e w' => e = .returned (.bool (validB s)) ∧ Below w.heap.size w w' := by
  have cV := Lib.hid (Tryz.utf8_ValidString s w hs hT)
  unfold validB
  generalize Lib.validD s.data.toList = y at cV ⊢
  clear hT
  go_enter Tryz.func134, Tryz.ntmps134
  go_wp2_with fail
  refine cV.out.mono ?_
  rintro e w1 ⟨rfl, hb⟩
  have HB := Lib.hid hb
  clear hb
  go_wp2
  go_ret
  exact ⟨rfl, HB.out⟩

end Go.Proofs.YtkppcahnbifkgaaGreatDoor.H
