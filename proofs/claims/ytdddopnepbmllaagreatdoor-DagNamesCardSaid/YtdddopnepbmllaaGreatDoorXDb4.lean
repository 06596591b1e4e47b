/-
An answer of event.Bytes, found once by a closed run. Condition: none.
-/
import Derived.Test.YtdddopnepbmllaaGreatDoorXDc4
set_option linter.unusedVariables false
namespace Go.Proofs.YtdddopnepbmllaaGreatDoor.X
open Go Go.RowKit
noncomputable section
theorem entsDb4_ok : letI := noTabs; ∀ e, e ∈ [entDc4] → e.OK Tryz.prog := by
  intro e he
  rw [List.mem_singleton.1 he]
  exact entDc4_ok
def entDb4 : Ent := ⟨45, [.agg [(.str 2 9316), (.str 4 561134195), (.str 4 1081424499), (.str 1 116), (.bool false), (.str 0 0), (.int .i64 (.ofNat 0)), (.sl 0 0 1 1 1 true), (.str 0 0), (.int .i64 (.ofNat 6)), (.int .i64 (.ofNat 0)), (.str 0 0), .nils, .nils]], mkH [mkC [(.str 2 9336)] 9 false false], 1, [((.tup [(.str 116 1091377916157834217293003749860940405016279042123365018327427678110883572715106928750303063613404511058213828966817358859369566395561732589057110959883373591334672237752183742998522198948450358440344471999110057967793034799344124392894521160744131660219976124504268868068595475069), (.int .i64 (.ofNat 0))]), mkH [.dead], 1)]⟩
theorem entDb4_ok : letI := noTabs; entDb4.OK Tryz.prog :=
  letI := noTabs
  Ent.of_run (prim := (memoX [entDc4] prim3)) (F := 10000) (m := 60) mixedX ext_ok num_free (memoX_ok entsDb4_ok prim3_ok) (by kernel_rfl)
end
end Go.Proofs.YtdddopnepbmllaaGreatDoor.X
