/-
An answer of outlaw/event.Check, found once by a closed run. Condition: none.
-/
import Derived.Test.YtohcohbbmjhnfaaGreatDoorXExt
set_option linter.unusedVariables false
namespace Go.Proofs.YtohcohbbmjhnfaaGreatDoor.X
open Go Go.RowKit
noncomputable section
def entAe4 : Ent := ⟨15, [.agg [(.str 2 9267), (.str 4 561134195), (.str 4 1080113779), (.str 13 8650244368288166275177383093618), (.bool true), (.str 4 1080179315), (.int .i64 (.ofNat 0)), .nils, (.str 0 0), (.int .i64 (.ofNat 6)), (.int .i64 (.ofNat 0)), (.str 0 0), (.sl 0 0 1 1 1 false), (.sl 1 0 1 1 5 false)]], mkH [mkC [(.str 10 516608949758076081695088)] 9 false false, mkC [(.int .i64 (.ofNat 4)), (.int .i64 (.ofNat 0)), (.str 3 6447470), (.sl 2 0 0 0 1 true), .nils] 38 false false, mkC [] 9 false true], 3, [((.int .i64 (.ofNat 0)), mkH [.dead, .dead, .dead], 3)]⟩
theorem entAe4_ok : letI := noTabs; entAe4.OK Tryz.prog :=
  letI := noTabs
  Ent.of_run (prim := prim3) (F := 10000) (m := 60) mixedX ext_ok num_free prim3_ok (by kernel_rfl)
end
end Go.Proofs.YtohcohbbmjhnfaaGreatDoor.X
