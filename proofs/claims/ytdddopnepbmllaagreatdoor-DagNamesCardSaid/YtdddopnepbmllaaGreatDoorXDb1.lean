/-
An answer of event.Bytes, found once by a closed run. Condition: none.
-/
import Derived.Test.YtdddopnepbmllaaGreatDoorXDc1
set_option linter.unusedVariables false
namespace Go.Proofs.YtdddopnepbmllaaGreatDoor.X
open Go Go.RowKit
noncomputable section
theorem entsDb1_ok : letI := noTabs; ∀ e, e ∈ [entDc1] → e.OK Tryz.prog := by
  intro e he
  rw [List.mem_singleton.1 he]
  exact entDc1_ok
def entDb1 : Ent := ⟨45, [.agg [(.str 2 9314), (.str 4 561134195), (.str 4 1081424499), (.str 1 116), (.bool false), (.str 0 0), (.int .i64 (.ofNat 1)), (.sl 0 0 1 1 1 true), (.str 0 0), (.int .i64 (.ofNat 6)), (.int .i64 (.ofNat 0)), (.str 0 0), .nils, .nils]], mkH [mkC [(.str 2 9313)] 9 false false], 1, [((.tup [(.str 116 1091377916157834217293003749860940405016279042123365018327427678110715248366257380798071351937152346940916218093127017296744315507160251203637287675858154593984277122191239386190299327029188255085960762147044776818918383575759999555826395354401097014680924368244423501555294282365), (.int .i64 (.ofNat 0))]), mkH [.dead], 1)]⟩
theorem entDb1_ok : letI := noTabs; entDb1.OK Tryz.prog :=
  letI := noTabs
  Ent.of_run (prim := (memoX [entDc1] prim3)) (F := 10000) (m := 60) mixedX ext_ok num_free (memoX_ok entsDb1_ok prim3_ok) (by kernel_rfl)
end
end Go.Proofs.YtdddopnepbmllaaGreatDoor.X
