/-
The law's helpers, walked: Own, OwnLevels, LightLevels.
-/
import Derived.Test.YtpflimghkckpjaaGreatDoorBLib
set_option linter.unusedVariables false
set_option linter.unusedSimpArgs false
namespace Go.Proofs.YtpflimghkckpjaaGreatDoor.B
open Go.RowKit
theorem enc_len {l : List (ByteArray × Int)} {X : List (List PV)} (hX : l.map encE = X) : ∀ r, r ∈ X → r.length = 2 := by
  intro r hr
  rw [← hX] at hr
  obtain ⟨p, _, rfl⟩ := List.mem_map.1 hr
  rfl
set_option maxRecDepth 100000 in
set_option maxHeartbeats 2000000 in
theorem ownU_ac {G : World → Prop} (hst : Stable G) (X : List (List PV)) (hX : ∀ r, r ∈ X → r.length = 2) (hl : X.length ≤ 1000000) :
    ACalls G Tryz.prog 74 [.sl X] (.sl X) none := by
  refine acalls_fn hst mixed tau_ok Tryz.func74 (by kernel_rfl) (by kernel_rfl) (by kernel_rfl) ?_
  intro Q hQ
  cbv
  refine ⟨⟨by simp only [List.length_nil]; omega, fun r hr => by simp at hr, hX⟩, ?_⟩
  intro M hM
  obtain rfl : M = X := hM.out
  cbv
  try first | exact ⟨rfl, trivial⟩ | exact Or.inr trivial | exact Or.inl rfl
set_option maxRecDepth 100000 in
set_option maxHeartbeats 2000000 in
theorem ownT_ac {G : World → Prop} (hst : Stable G) (X : List (List PV)) (hX : ∀ r, r ∈ X → r.length = 2) (hl : X.length ≤ 1000000) :
    ACalls G Tryz.prog 75 [.sl X] (.sl X) none := by
  refine acalls_fn hst mixed tau_ok Tryz.func75 (by kernel_rfl) (by kernel_rfl) (by kernel_rfl) ?_
  intro Q hQ
  cbv
  refine ⟨⟨by simp only [List.length_nil]; omega, fun r hr => by simp at hr, hX⟩, ?_⟩
  intro M hM
  obtain rfl : M = X := hM.out
  cbv
  try first | exact ⟨rfl, trivial⟩ | exact Or.inr trivial | exact Or.inl rfl
set_option maxRecDepth 100000 in
set_option maxHeartbeats 2000000 in
theorem ownLevels_ac {G : World → Prop} (hst : Stable G) (X Y : List (List PV)) (hX : ∀ r, r ∈ X → r.length = 2) (hY : ∀ r, r ∈ Y → r.length = 2) (hlX : X.length ≤ 1000000) (hlY : Y.length ≤ 1000000) (a2 a3 a4 a5 a6 a7 a8 : Int) :
    ACalls G Tryz.prog 27 [encLv X Y a2 a3 a4 a5 a6 a7 a8] (encLv X Y a2 a3 a4 a5 a6 a7 a8) none := by
  refine acalls_fn hst mixed tau_ok Tryz.func27 (by kernel_rfl) (by kernel_rfl) (by kernel_rfl) ?_
  intro Q hQ
  cbv
  refine ⟨_, _, hQ _ _ _ _ (ownU_ac hst X hX hlX), ?_⟩
  cbv
  refine ⟨_, _, hQ _ _ _ _ (ownT_ac hst Y hY hlY), ?_⟩
  cbv
  try first | exact ⟨rfl, trivial⟩ | exact Or.inr trivial | exact Or.inl rfl
/-! ### Light -/
def SmallAt (l : List (ByteArray × Int)) (x : Nat) : Prop := ∀ q, l[x]? = some q → q.1.size ≤ 300
structure Light (l0 l1 : List (ByteArray × Int)) : Prop where
  n0 : l0.length ≤ 30
  n1 : l1.length ≤ 30
  s0 : ∀ x, x < l0.length → SmallAt l0 x
  s1 : ∀ x, x < l1.length → SmallAt l1 x
end Go.Proofs.YtpflimghkckpjaaGreatDoor.B
