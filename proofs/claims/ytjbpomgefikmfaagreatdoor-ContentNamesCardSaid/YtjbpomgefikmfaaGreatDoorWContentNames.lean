/-
ContentNames answers true: a closed run. Condition: none.
-/
import Derived.Test.YtjbpomgefikmfaaGreatDoorXCn1
import Derived.Test.YtjbpomgefikmfaaGreatDoorXCn2
import Derived.Test.YtjbpomgefikmfaaGreatDoorXCn3
set_option linter.unusedVariables false
namespace Go.Proofs.YtjbpomgefikmfaaGreatDoor.X
open Go Go.RowKit
noncomputable section
theorem entsC_ok : letI := noTabs; ∀ e, e ∈ [entC1, entC2, entC3] → e.OK Tryz.prog := by
  intro e he
  rcases List.mem_cons.1 he with rfl | he
  · exact entC1_ok
  rcases List.mem_cons.1 he with rfl | he
  · exact entC2_ok
  rw [List.mem_singleton.1 he]
  exact entC3_ok
theorem contentNames_run (w : World) : Callable Tryz.prog 7 ∧ Calls Tryz.prog 7 #[] w fun e w' => e = .returned (.bool true) ∧ Below w.heap.size w w' :=
  letI := noTabs
  closed_bool (prim := memoX [entC1, entC2, entC3] prim3) (F := 10000) (n := 60) mixedX ext_ok num_free (memoX_ok entsC_ok prim3_ok) (by kernel_rfl) w trivial
end
end Go.Proofs.YtjbpomgefikmfaaGreatDoor.X
