/-
An answer of event.Check, found once by a closed run. Condition: none.
-/
import Derived.Test.YtdddopnepbmllaaGreatDoorXExt
set_option linter.unusedVariables false
namespace Go.Proofs.YtdddopnepbmllaaGreatDoor.X
open Go Go.RowKit
noncomputable section
def entDc3 : Ent := ⟨22, [.agg [(.str 2 9315), (.str 4 561134195), (.str 4 1081424499), (.str 1 116), (.bool false), (.str 0 0), (.int .i64 (.ofNat 2)), (.sl 0 0 1 1 1 true), (.str 0 0), (.int .i64 (.ofNat 6)), (.int .i64 (.ofNat 0)), (.str 0 0), .nils, .nils]], mkH [mkC [(.str 2 9313)] 9 false false], 1, [((.int .i64 (.ofNat 0)), mkH [.dead], 1)]⟩
theorem entDc3_ok : letI := noTabs; entDc3.OK Tryz.prog :=
  letI := noTabs
  Ent.of_run (prim := prim3) (F := 10000) (m := 60) mixedX ext_ok num_free prim3_ok (by kernel_rfl)
end
end Go.Proofs.YtdddopnepbmllaaGreatDoor.X
