/-
An answer of event.Bytes, found once by a closed run. Condition: none.
-/
import Derived.Test.YtdddopnepbmllaaGreatDoorXDc2
set_option linter.unusedVariables false
namespace Go.Proofs.YtdddopnepbmllaaGreatDoor.X
open Go Go.RowKit
noncomputable section
theorem entsDb2_ok : letI := noTabs; ∀ e, e ∈ [entDc2] → e.OK Tryz.prog := by
  intro e he
  rw [List.mem_singleton.1 he]
  exact entDc2_ok
def entDb2 : Ent := ⟨45, [.agg [(.str 2 9313), (.str 4 561134195), (.str 4 1081424499), (.str 1 116), (.bool false), (.str 0 0), (.int .i64 (.ofNat 5)), .nils, (.str 0 0), (.int .i64 (.ofNat 6)), (.int .i64 (.ofNat 0)), (.str 0 0), .nils, .nils]], mkH [], 0, [((.tup [(.str 112 254106222688647503334331267946618703430583477514648115804285667396763126876166231655971029796410879325649564307248649773771669579366693194778465570843315044568474873461335320602829024762267241131122376000108722083474606756192747597546347807313832081197715253196970271357), (.int .i64 (.ofNat 0))]), mkH [], 0)]⟩
theorem entDb2_ok : letI := noTabs; entDb2.OK Tryz.prog :=
  letI := noTabs
  Ent.of_run (prim := (memoX [entDc2] prim3)) (F := 10000) (m := 60) mixedX ext_ok num_free (memoX_ok entsDb2_ok prim3_ok) (by kernel_rfl)
end
end Go.Proofs.YtdddopnepbmllaaGreatDoor.X
