/-
PlanNames answers true: a closed run. Condition: none.
-/
import Derived.Test.YtjbpomgefikmfaaGreatDoorXJn
set_option linter.unusedVariables false
namespace Go.Proofs.YtjbpomgefikmfaaGreatDoor.X
open Go Go.RowKit
theorem planNames_run (w : World) : Callable Tryz.prog 6 ∧ Calls Tryz.prog 6 #[] w fun e w' => e = .returned (.bool true) ∧ Below w.heap.size w w' := closedJ (by kernel_rfl) w
end Go.Proofs.YtjbpomgefikmfaaGreatDoor.X
