/-
AuthNames answers true: a closed run. Condition: none.
-/
import Derived.Test.YtohcohbbmjhnfaaGreatDoorXAe1
import Derived.Test.YtohcohbbmjhnfaaGreatDoorXAe2
import Derived.Test.YtohcohbbmjhnfaaGreatDoorXAe3
import Derived.Test.YtohcohbbmjhnfaaGreatDoorXAe4
import Derived.Test.YtohcohbbmjhnfaaGreatDoorXAe5
import Derived.Test.YtohcohbbmjhnfaaGreatDoorXAe6
import Derived.Test.YtohcohbbmjhnfaaGreatDoorXAe7
import Derived.Test.YtohcohbbmjhnfaaGreatDoorXAe8
set_option linter.unusedVariables false
namespace Go.Proofs.YtohcohbbmjhnfaaGreatDoor.X
open Go Go.RowKit
noncomputable section
theorem entsA_ok : letI := noTabs; ∀ e, e ∈ [entAe1, entAe2, entAe3, entAe4, entAe5, entAe6, entAe7, entAe8] → e.OK Tryz.prog := by
  intro e he
  rcases List.mem_cons.1 he with rfl | he
  · exact entAe1_ok
  rcases List.mem_cons.1 he with rfl | he
  · exact entAe2_ok
  rcases List.mem_cons.1 he with rfl | he
  · exact entAe3_ok
  rcases List.mem_cons.1 he with rfl | he
  · exact entAe4_ok
  rcases List.mem_cons.1 he with rfl | he
  · exact entAe5_ok
  rcases List.mem_cons.1 he with rfl | he
  · exact entAe6_ok
  rcases List.mem_cons.1 he with rfl | he
  · exact entAe7_ok
  rw [List.mem_singleton.1 he]
  exact entAe8_ok
theorem authNames_run (w : World) : Callable Tryz.prog 3 ∧ Calls Tryz.prog 3 #[] w fun e w' => e = .returned (.bool true) ∧ Below w.heap.size w w' :=
  letI := noTabs
  closed_bool (prim := memoX [entAe1, entAe2, entAe3, entAe4, entAe5, entAe6, entAe7, entAe8] prim3) (F := 10000) (n := 60) mixedX ext_ok num_free (memoX_ok entsA_ok prim3_ok) (by kernel_rfl) w trivial
end
end Go.Proofs.YtohcohbbmjhnfaaGreatDoor.X
