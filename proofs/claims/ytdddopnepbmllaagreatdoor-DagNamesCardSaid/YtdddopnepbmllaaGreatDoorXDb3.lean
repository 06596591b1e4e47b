/-
An answer of event.Bytes, found once by a closed run. Condition: none.
-/
import Derived.Test.YtdddopnepbmllaaGreatDoorXDc3
set_option linter.unusedVariables false
namespace Go.Proofs.YtdddopnepbmllaaGreatDoor.X
open Go Go.RowKit
noncomputable section
theorem entsDb3_ok : letI := noTabs; ∀ e, e ∈ [entDc3] → e.OK Tryz.prog := by
  intro e he
  rw [List.mem_singleton.1 he]
  exact entDc3_ok
def entDb3 : Ent := ⟨45, [.agg [(.str 2 9315), (.str 4 561134195), (.str 4 1081424499), (.str 1 116), (.bool false), (.str 0 0), (.int .i64 (.ofNat 2)), (.sl 0 0 1 1 1 true), (.str 0 0), (.int .i64 (.ofNat 6)), (.int .i64 (.ofNat 0)), (.str 0 0), .nils, .nils]], mkH [mkC [(.str 2 9313)] 9 false false], 1, [((.tup [(.str 116 1091377916157834217293003749860940405016279042123365018327427678110799410540682154774187207775278428999565023529972188079374982102106068961623724271294391590375206255829214206094489501288346093476863677680542455859914996706453210992674000296723778098770803939730239814845794099837), (.int .i64 (.ofNat 0))]), mkH [.dead], 1)]⟩
theorem entDb3_ok : letI := noTabs; entDb3.OK Tryz.prog :=
  letI := noTabs
  Ent.of_run (prim := (memoX [entDc3] prim3)) (F := 10000) (m := 60) mixedX ext_ok num_free (memoX_ok entsDb3_ok prim3_ok) (by kernel_rfl)
end
end Go.Proofs.YtdddopnepbmllaaGreatDoor.X
