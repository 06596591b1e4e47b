/-
DagNames answers true: a closed run. Condition: none.
-/
import Derived.Test.YtdddopnepbmllaaGreatDoorXDd1
import Derived.Test.YtdddopnepbmllaaGreatDoorXDd2
import Derived.Test.YtdddopnepbmllaaGreatDoorXDd3
set_option linter.unusedVariables false
namespace Go.Proofs.YtdddopnepbmllaaGreatDoor.X
open Go Go.RowKit
noncomputable section
theorem entsD_ok : letI := noTabs; ∀ e, e ∈ [entDd1, entDd2, entDd3] → e.OK Tryz.prog := by
  intro e he
  rcases List.mem_cons.1 he with rfl | he
  · exact entDd1_ok
  rcases List.mem_cons.1 he with rfl | he
  · exact entDd2_ok
  rw [List.mem_singleton.1 he]
  exact entDd3_ok
theorem dagNames_run (w : World) : Callable Tryz.prog 3 ∧ Calls Tryz.prog 3 #[] w fun e w' => e = .returned (.bool true) ∧ Below w.heap.size w w' :=
  letI := noTabs
  closed_bool (prim := memoX [entDd1, entDd2, entDd3] prim3) (F := 10000) (n := 60) mixedX ext_ok num_free (memoX_ok entsD_ok prim3_ok) (by kernel_rfl) w trivial
end
end Go.Proofs.YtdddopnepbmllaaGreatDoor.X
