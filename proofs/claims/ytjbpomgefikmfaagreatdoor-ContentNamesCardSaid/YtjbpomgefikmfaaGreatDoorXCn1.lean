/-
What levels an empty body declares: found once by a closed run. Condition: none.
-/
import Derived.Test.YtjbpomgefikmfaaGreatDoorXExt
set_option linter.unusedVariables false
namespace Go.Proofs.YtjbpomgefikmfaaGreatDoor.X
open Go Go.RowKit
noncomputable section
def entC1 : Ent := ⟨43, [.agg [.int .i64 (.ofNat 6), .int .i64 (.ofNat 0), .str 0 0, .nils, .nils]], mkH [], 0, [(.tup [(.agg [.nils, .nils, (.int .i64 (.ofNat 0)), (.int .i64 (.ofNat 0)), (.int .i64 (.ofNat 50)), (.int .i64 (.ofNat 50)), (.int .i64 (.ofNat 50)), (.int .i64 (.ofNat 50)), (.int .i64 (.ofNat 0))]), .bool true], mkH [], 0)]⟩
theorem entC1_ok : letI := noTabs; entC1.OK Tryz.prog :=
  letI := noTabs
  Ent.of_run (F := 10000) (m := 60) mixedX ext_ok num_free prim3_ok (by kernel_rfl)
end
end Go.Proofs.YtjbpomgefikmfaaGreatDoor.X
