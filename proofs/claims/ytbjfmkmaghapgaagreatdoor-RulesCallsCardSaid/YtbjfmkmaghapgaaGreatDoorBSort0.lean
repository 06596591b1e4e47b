/-
rules.Sort of no rule; walked. Condition: the library's sort at no element.
-/
import Derived.Test.YtbjfmkmaghapgaaGreatDoorBOrd
set_option linter.unusedVariables false
set_option linter.unusedSimpArgs false
namespace Go.Proofs.YtbjfmkmaghapgaaGreatDoor.B
open Go.RowKit
set_option maxRecDepth 100000 in
set_option maxHeartbeats 2000000 in
theorem clip0_ac {G : World → Prop} (hst : Stable G) :
    ACalls G Tryz.prog 48 [.sl []] (.sl []) none := by
  refine acalls_fn hst mixed tau_ok Tryz.func48 (by kernel_rfl) (by kernel_rfl) (by kernel_rfl) ?_
  intro Q hQ
  cbv
  intro m1 h1
  cbv
  intro m2 h2
  cbv
  refine ⟨⟨h1.out, h2.out⟩, ?_⟩
  cbv
  trivial
set_option maxRecDepth 100000 in
set_option maxHeartbeats 2000000 in
theorem compact0_ac {G : World → Prop} (hst : Stable G) :
    ACalls G Tryz.prog 49 [.sl []] (.sl []) none := by
  refine acalls_fn hst mixed tau_ok Tryz.func49 (by kernel_rfl) (by kernel_rfl) (by kernel_rfl) ?_
  intro Q hQ
  cbv
  intro m1 h1
  cbv
  intro b h2
  have e : b = true := by
    have e1 := h1.out
    have e2 := h2.out
    rw [e1] at e2
    rw [e2]
    rfl
  subst e
  cbv
  try exact ⟨rfl, trivial⟩
/-- The contract of slices.SortFunc at no element. -/
def SortNilC (G : World → Prop) : Prop := ACalls G Tryz.prog 47 [.sl [], .lit (.func (.func 9) #[] #[])] (.tup []) none
set_option maxRecDepth 100000 in
set_option maxHeartbeats 2000000 in
theorem sort0_ac {G : World → Prop} (hst : Stable G) (hS : SortNilC G) :
    ACalls G Tryz.prog 28 [.sl []] (.sl []) none := by
  refine acalls_fn hst mixed tau_ok Tryz.func28 (by kernel_rfl) (by kernel_rfl) (by kernel_rfl) ?_
  intro Q hQ
  cbv
  refine Or.inl ⟨_, _, hQ _ _ _ _ (cloneRule_any hst [] (by simp) (by simp)), ?_⟩
  cbv
  refine Or.inl ⟨_, _, hQ _ _ _ _ hS, ?_⟩
  cbv
  refine Or.inl ⟨_, _, hQ _ _ _ _ (compact0_ac hst), ?_⟩
  cbv
  refine Or.inl ⟨_, _, hQ _ _ _ _ (clip0_ac hst), ?_⟩
  cbv
  try exact ⟨rfl, trivial⟩
/-- rules.Sort. -/
theorem sortAny_ac {G : World → Prop} (hst : Stable G) (hS : SortC G) (h0 : SortNilC G) (l : List Rl) (X : List (List PV)) (hX : l.map encR = X) (hl : l.length ≤ 1000000) (Z : List (List PV)) (hZ : Is Z (fun _ => (sortU l).map encR)) :
    ACalls G Tryz.prog 28 [.sl X] (.sl Z) none := by
  by_cases hne : l = []
  · subst hne
    have e1 : X = [] := hX.symm
    have e2 : Z = [] := by
      rw [hZ.out]
      have h1 := sortU_len []
      rw [List.eq_nil_of_length_eq_zero (l := sortU []) (by simpa using h1)]
      rfl
    rw [e1, e2]
    exact sort0_ac hst h0
  · exact sort_ac hst hS l X hX hl hne Z hZ
end Go.Proofs.YtbjfmkmaghapgaaGreatDoor.B
