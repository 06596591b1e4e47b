/-
The same levels are the same: found once by a closed run. Condition: none.
-/
import Derived.Test.YtjbpomgefikmfaaGreatDoorXExt
set_option linter.unusedVariables false
namespace Go.Proofs.YtjbpomgefikmfaaGreatDoor.X
open Go Go.RowKit
noncomputable section
def entC3 : Ent := ⟨45, [(.agg [.nils, .nils, (.int .i64 (.ofNat 0)), (.int .i64 (.ofNat 0)), (.int .i64 (.ofNat 50)), (.int .i64 (.ofNat 50)), (.int .i64 (.ofNat 50)), (.int .i64 (.ofNat 50)), (.int .i64 (.ofNat 0))]), (.agg [.nils, .nils, (.int .i64 (.ofNat 0)), (.int .i64 (.ofNat 0)), (.int .i64 (.ofNat 50)), (.int .i64 (.ofNat 50)), (.int .i64 (.ofNat 50)), (.int .i64 (.ofNat 50)), (.int .i64 (.ofNat 0))])], mkH [], 0, [(.bool true, mkH [], 0)]⟩
theorem entC3_ok : letI := noTabs; entC3.OK Tryz.prog :=
  letI := noTabs
  Ent.of_run (F := 10000) (m := 60) mixedX ext_ok num_free prim3_ok (by kernel_rfl)
end
end Go.Proofs.YtjbpomgefikmfaaGreatDoor.X
