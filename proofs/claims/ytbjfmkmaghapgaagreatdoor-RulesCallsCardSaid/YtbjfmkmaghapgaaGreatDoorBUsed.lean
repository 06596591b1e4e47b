/-
json.used, walked. Condition: none.
-/
import Derived.Test.YtbjfmkmaghapgaaGreatDoorBFun1
set_option linter.unusedVariables false
set_option linter.unusedSimpArgs false
namespace Go.Proofs.YtbjfmkmaghapgaaGreatDoor.B
open Go.RowKit
/-- Has just what its kind uses. -/
def usedOK (k n : Int) (t : ByteArray) (nk ni : Nat) : Bool :=
  if k = 2 then decide ((n = 0 ∨ n = 1) ∧ t = ⟨#[]⟩ ∧ nk = 0 ∧ ni = 0)
  else if k = 3 then decide ((-9007199254740991 ≤ n ∧ n ≤ 9007199254740991) ∧ t = ⟨#[]⟩ ∧ nk = 0 ∧ ni = 0)
  else if k = 4 then decide (n = 0 ∧ nk = 0 ∧ ni = 0)
  else if k = 5 then decide (n = 0 ∧ t = ⟨#[]⟩ ∧ nk = 0)
  else if k = 6 then decide (n = 0 ∧ t = ⟨#[]⟩ ∧ nk = ni)
  else decide (n = 0 ∧ t = ⟨#[]⟩ ∧ nk = 0 ∧ ni = 0)
set_option maxRecDepth 100000 in
set_option maxHeartbeats 8000000 in
theorem used_ac {G : World → Prop} (hst : Stable G) (k n : Int) (t : ByteArray) (KX IX : List (List PV)) (c : Bool) (hc : Is c (fun _ => usedOK k n t KX.length IX.length)) :
    ACalls G Tryz.prog 88 [jp k n t KX IX] (.lit (.bool c)) none := by
  refine acalls_fn hst mixed tau_ok Tryz.func88 (by kernel_rfl) (by kernel_rfl) (by kernel_rfl) ?_
  intro Q hQ
  cbv
  iterate 12 (all_goals first | (intro (b : Bool) hb; cases b <;> (try cbv)) | (intro (m : Int) hm; try cbv) | skip)
  all_goals refine litB ?_
  all_goals rw [hc.out]
  all_goals simp only [is_t, is_f] at *
  all_goals simp only [is_e] at *
  all_goals try subst_vars
  all_goals first
    | (simp_all [usedOK]; done)
    | (unfold usedOK; grind)
end Go.Proofs.YtbjfmkmaghapgaaGreatDoor.B
