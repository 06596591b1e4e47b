/-
RoomNames answers true: a closed run. Condition: none.
-/
import Derived.Test.YtjbpomgefikmfaaGreatDoorXExt
set_option linter.unusedVariables false
namespace Go.Proofs.YtjbpomgefikmfaaGreatDoor.X
open Go Go.RowKit
theorem roomNames_run (w : World) : Callable Tryz.prog 4 ∧ Calls Tryz.prog 4 #[] w fun e w' => e = .returned (.bool true) ∧ Below w.heap.size w w' := closed (by kernel_rfl) w
end Go.Proofs.YtjbpomgefikmfaaGreatDoor.X
