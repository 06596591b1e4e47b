/-
What levels the chapter's body declares: found once by a closed run. Condition: none.
-/
import Derived.Test.YtjbpomgefikmfaaGreatDoorXExt
set_option linter.unusedVariables false
namespace Go.Proofs.YtjbpomgefikmfaaGreatDoor.X
open Go Go.RowKit
noncomputable section
def entC2 : Ent := ⟨43, [.agg [.int .i64 (.ofNat 6), .int .i64 (.ofNat 0), .str 0 0, .sl 0 0 2 2 1 false, .sl 1 0 2 2 5 false]], mkH [mkC [(.str 5 504447201907), (.str 3 6447470)] 9 false false, mkC [(.int .i64 (.ofNat 6)), (.int .i64 (.ofNat 0)), (.str 0 0), (.sl 2 0 2 2 1 false), (.sl 3 0 2 2 5 false), (.int .i64 (.ofNat 3)), (.int .i64 (.ofNat 60)), (.str 0 0), .nils, .nils] 28 false false, mkC [(.str 4 1080179315), (.str 4 1080113779)] 9 false false, mkC [(.int .i64 (.ofNat 3)), (.int .i64 (.ofNat 5)), (.str 0 0), .nils, .nils, (.int .i64 (.ofNat 3)), (.int .i64 (.ofNat 7)), (.str 0 0), .nils, .nils] 28 false false], 4, [(.tup [(.agg [(.sl 4 0 2 2 2 false), .nils, (.int .i64 (.ofNat 0)), (.int .i64 (.ofNat 0)), (.int .i64 (.ofNat 50)), (.int .i64 (.ofNat 60)), (.int .i64 (.ofNat 50)), (.int .i64 (.ofNat 50)), (.int .i64 (.ofNat 0))]), .bool true], mkH [.dead, .dead, .dead, .dead, mkC [(.str 4 1080113779), (.int .i64 (.ofNat 7)), (.str 4 1080179315), (.int .i64 (.ofNat 5))] 97 true false], 5)]⟩
theorem entC2_ok : letI := noTabs; entC2.OK Tryz.prog :=
  letI := noTabs
  Ent.of_run (F := 10000) (m := 60) mixedX ext_ok num_free prim3_ok (by kernel_rfl)
end
end Go.Proofs.YtjbpomgefikmfaaGreatDoor.X
