/-
An answer of dag.Dedup, found once by a closed run. Condition: none.
-/
import Derived.Test.YtdddopnepbmllaaGreatDoorXDc1
import Derived.Test.YtdddopnepbmllaaGreatDoorXDc2
import Derived.Test.YtdddopnepbmllaaGreatDoorXDc3
import Derived.Test.YtdddopnepbmllaaGreatDoorXDc4
set_option linter.unusedVariables false
namespace Go.Proofs.YtdddopnepbmllaaGreatDoor.X
open Go Go.RowKit
noncomputable section
theorem entsDd1_ok : letI := noTabs; ∀ e, e ∈ [entDc1, entDc2, entDc3, entDc4] → e.OK Tryz.prog := by
  intro e he
  rcases List.mem_cons.1 he with rfl | he
  · exact entDc1_ok
  rcases List.mem_cons.1 he with rfl | he
  · exact entDc2_ok
  rcases List.mem_cons.1 he with rfl | he
  · exact entDc3_ok
  rw [List.mem_singleton.1 he]
  exact entDc4_ok
def entDd1 : Ent := ⟨13, [.sl 0 0 4 4 14 true], mkH [mkC [(.str 2 9314), (.str 4 561134195), (.str 4 1081424499), (.str 1 116), (.bool false), (.str 0 0), (.int .i64 (.ofNat 1)), (.sl 1 0 1 1 1 true), (.str 0 0), (.int .i64 (.ofNat 6)), (.int .i64 (.ofNat 0)), (.str 0 0), .nils, .nils, (.str 2 9313), (.str 4 561134195), (.str 4 1081424499), (.str 1 116), (.bool false), (.str 0 0), (.int .i64 (.ofNat 5)), .nils, (.str 0 0), (.int .i64 (.ofNat 6)), (.int .i64 (.ofNat 0)), (.str 0 0), .nils, .nils, (.str 2 9315), (.str 4 561134195), (.str 4 1081424499), (.str 1 116), (.bool false), (.str 0 0), (.int .i64 (.ofNat 2)), (.sl 2 0 1 1 1 true), (.str 0 0), (.int .i64 (.ofNat 6)), (.int .i64 (.ofNat 0)), (.str 0 0), .nils, .nils, (.str 2 9316), (.str 4 561134195), (.str 4 1081424499), (.str 1 116), (.bool false), (.str 0 0), (.int .i64 (.ofNat 0)), (.sl 3 0 1 1 1 true), (.str 0 0), (.int .i64 (.ofNat 6)), (.int .i64 (.ofNat 0)), (.str 0 0), .nils, .nils] 29 false false, mkC [(.str 2 9313)] 9 false false, mkC [(.str 2 9313)] 9 false false, mkC [(.str 2 9336)] 9 false false], 4, [((.sl 4 0 4 4 14 false), mkH [.dead, .dead, .dead, .dead, mkC [(.str 2 9313), (.str 4 561134195), (.str 4 1081424499), (.str 1 116), (.bool false), (.str 0 0), (.int .i64 (.ofNat 5)), .nils, (.str 0 0), (.int .i64 (.ofNat 6)), (.int .i64 (.ofNat 0)), (.str 0 0), .nils, .nils, (.str 2 9314), (.str 4 561134195), (.str 4 1081424499), (.str 1 116), (.bool false), (.str 0 0), (.int .i64 (.ofNat 1)), (.sl 5 0 1 1 1 false), (.str 0 0), (.int .i64 (.ofNat 6)), (.int .i64 (.ofNat 0)), (.str 0 0), .nils, .nils, (.str 2 9315), (.str 4 561134195), (.str 4 1081424499), (.str 1 116), (.bool false), (.str 0 0), (.int .i64 (.ofNat 2)), (.sl 6 0 1 1 1 false), (.str 0 0), (.int .i64 (.ofNat 6)), (.int .i64 (.ofNat 0)), (.str 0 0), .nils, .nils, (.str 2 9316), (.str 4 561134195), (.str 4 1081424499), (.str 1 116), (.bool false), (.str 0 0), (.int .i64 (.ofNat 0)), (.sl 7 0 1 1 1 false), (.str 0 0), (.int .i64 (.ofNat 6)), (.int .i64 (.ofNat 0)), (.str 0 0), .nils, .nils] 29 true false, mkC [(.str 2 9313)] 9 true false, mkC [(.str 2 9313)] 9 true false, mkC [(.str 2 9336)] 9 true false], 8)]⟩
theorem entDd1_ok : letI := noTabs; entDd1.OK Tryz.prog :=
  letI := noTabs
  Ent.of_run (prim := (memoX [entDc1, entDc2, entDc3, entDc4] prim3)) (F := 10000) (m := 60) mixedX ext_ok num_free (memoX_ok entsDd1_ok prim3_ok) (by kernel_rfl)
end
end Go.Proofs.YtdddopnepbmllaaGreatDoor.X
