/-
An answer of dag.Dedup, found once by a closed run. Condition: none.
-/
import Derived.Test.YtdddopnepbmllaaGreatDoorXDc5
import Derived.Test.YtdddopnepbmllaaGreatDoorXDc6
import Derived.Test.YtdddopnepbmllaaGreatDoorXDc7
set_option linter.unusedVariables false
namespace Go.Proofs.YtdddopnepbmllaaGreatDoor.X
open Go Go.RowKit
noncomputable section
theorem entsDd2_ok : letI := noTabs; ∀ e, e ∈ [entDc5, entDc6, entDc7] → e.OK Tryz.prog := by
  intro e he
  rcases List.mem_cons.1 he with rfl | he
  · exact entDc5_ok
  rcases List.mem_cons.1 he with rfl | he
  · exact entDc6_ok
  rw [List.mem_singleton.1 he]
  exact entDc7_ok
def entDd2 : Ent := ⟨13, [.sl 0 0 3 3 14 true], mkH [mkC [(.str 2 9328), (.str 4 561134195), (.str 4 1081424499), (.str 1 116), (.bool false), (.str 0 0), (.int .i64 (.ofNat 1)), (.sl 1 0 1 1 1 true), (.str 0 0), (.int .i64 (.ofNat 6)), (.int .i64 (.ofNat 0)), (.str 0 0), .nils, .nils, (.str 2 9329), (.str 4 561134195), (.str 4 1081424499), (.str 1 116), (.bool false), (.str 0 0), (.int .i64 (.ofNat 1)), (.sl 2 0 1 1 1 true), (.str 0 0), (.int .i64 (.ofNat 6)), (.int .i64 (.ofNat 0)), (.str 0 0), .nils, .nils, (.str 2 9327), (.str 4 561134195), (.str 4 1081424499), (.str 1 116), (.bool false), (.str 0 0), (.int .i64 (.ofNat 1)), .nils, (.str 0 0), (.int .i64 (.ofNat 6)), (.int .i64 (.ofNat 0)), (.str 0 0), .nils, .nils] 29 false false, mkC [(.str 2 9329)] 9 false false, mkC [(.str 2 9328)] 9 false false], 3, [((.sl 3 0 3 3 14 false), mkH [.dead, .dead, .dead, mkC [(.str 2 9327), (.str 4 561134195), (.str 4 1081424499), (.str 1 116), (.bool false), (.str 0 0), (.int .i64 (.ofNat 1)), .nils, (.str 0 0), (.int .i64 (.ofNat 6)), (.int .i64 (.ofNat 0)), (.str 0 0), .nils, .nils, (.str 2 9328), (.str 4 561134195), (.str 4 1081424499), (.str 1 116), (.bool false), (.str 0 0), (.int .i64 (.ofNat 1)), (.sl 4 0 1 1 1 false), (.str 0 0), (.int .i64 (.ofNat 6)), (.int .i64 (.ofNat 0)), (.str 0 0), .nils, .nils, (.str 2 9329), (.str 4 561134195), (.str 4 1081424499), (.str 1 116), (.bool false), (.str 0 0), (.int .i64 (.ofNat 1)), (.sl 5 0 1 1 1 false), (.str 0 0), (.int .i64 (.ofNat 6)), (.int .i64 (.ofNat 0)), (.str 0 0), .nils, .nils] 29 true false, mkC [(.str 2 9329)] 9 true false, mkC [(.str 2 9328)] 9 true false], 6)]⟩
theorem entDd2_ok : letI := noTabs; entDd2.OK Tryz.prog :=
  letI := noTabs
  Ent.of_run (prim := (memoX [entDc5, entDc6, entDc7] prim3)) (F := 10000) (m := 60) mixedX ext_ok num_free (memoX_ok entsDd2_ok prim3_ok) (by kernel_rfl)
end
end Go.Proofs.YtdddopnepbmllaaGreatDoor.X
