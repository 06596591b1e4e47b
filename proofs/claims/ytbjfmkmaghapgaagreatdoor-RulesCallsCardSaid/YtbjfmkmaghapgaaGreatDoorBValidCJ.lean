/-
scan.Valid, by its contract by hand, as a contract on pure values. Condition: utf8's tables in memory.
-/
import Derived.Test.YtbjfmkmaghapgaaGreatDoorBFun2
import Derived.Test.YtbjfmkmaghapgaaGreatDoorJU
set_option linter.unusedVariables false
set_option linter.unusedSimpArgs false
namespace Go.Proofs.YtbjfmkmaghapgaaGreatDoor.B
open Go.RowKit
theorem tab_stable : Stable H.Tab := fun w w' h hb => h.below hb
theorem tab_not : ¬ ∀ w, H.Tab w := fun h => by
  have h0 := (h { heap := #[], tape := fun _ _ => 0, drawn := 0, os := default, output := #[] }).1 0 (by omega)
  simp [World.cell?] at h0
theorem validC : ValidC H.Tab := by
  intro s hs
  refine of_calls (v0 := .bool (validB s)) tab_stable tab_not ⟨_, Tryz.func66, by kernel_rfl, by kernel_rfl⟩ (fun w S vs hT hrep => ?_) (fun S w => .lit _ rfl)
  obtain ⟨v, rfl, hv⟩ := hrep.one
  rw [(rep_lit hv).1]
  exact H.valid_any s w hs hT
end Go.Proofs.YtbjfmkmaghapgaaGreatDoor.B
