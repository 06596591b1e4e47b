/-
What LightLevels tells, plainly: true: at most 30 entries each, of texts of at most 300 bytes.
-/
import Derived.Test.YtpflimghkckpjaaDoorZ7
set_option linter.unusedVariables false
set_option linter.unusedSimpArgs false
namespace Go.Proofs.YtpflimghkckpjaaDoor.Z
open Go.RowKit Go.Proofs.YtpflimghkckpjaaDoorW.PrintWords Go.Proofs.YtpflimghkckpjaaDoorW.PrintLast

def SmallTo {α : Type} (f : α → ByteArray) (l : List α) (i : Int) : Prop := ∀ j (h : j < l.length), (j : Int) < i → (f l[j]).size ≤ 300
theorem rdU (l : List S36) (i : Int) (h0 : 0 ≤ i) (h : i < l.length) : rd_T36 l i = l[i.toNat]'(by omega) := by
  unfold rd_T36
  rw [List.getD_eq_getElem?_getD, List.getElem?_eq_getElem (by omega)]; rfl
theorem rdT (l : List S42) (i : Int) (h0 : 0 ≤ i) (h : i < l.length) : rd_T42 l i = l[i.toNat]'(by omega) := by
  unfold rd_T42
  rw [List.getD_eq_getElem?_getD, List.getElem?_eq_getElem (by omega)]; rfl
theorem wrap_small {i : Int} (h0 : 0 ≤ i) (h : i ≤ 1000000) : wrap64 (i + 1) = i + 1 := by
  unfold wrap64
  omega
def LightOK (l0 : List S36) (l1 : List S42) : Prop := l0.length ≤ 30 ∧ l1.length ≤ 30 ∧ SmallTo S36.f0 l0 31 ∧ SmallTo S42.f0 l1 31
theorem light_l1 (l0 : List S36) (l1 : List S42) (a2 a3 a4 a5 a6 a7 a8 : Int) (d : Nat) : ∀ (k : Nat) (i : Int), 0 ≤ i → i ≤ 31 → 31 - i = d → 2 * d + 2 < k → SmallTo S42.f0 l1 i →
    ∃ r, outlawkit_LightLevels.l1 k i l0 l1 a2 a3 a4 a5 a6 a7 a8 = some r ∧ (r = true → l0.length ≤ 30 ∧ l1.length ≤ 30 ∧ SmallTo S42.f0 l1 31) := by
  induction d with
  | zero =>
    intro k i h0 h1 hd hk hs
    obtain ⟨k, rfl⟩ : ∃ m, k = m + 2 := ⟨k - 2, by omega⟩
    obtain rfl : i = 31 := by omega
    have e : decide ((31 : Int) < 31) = false := by decide
    simp only [outlawkit_LightLevels.l1, outlawkit_LightLevels.j3, e]
    by_cases c : (31 : Int) < (l1.length : Int)
    · rw [if_pos c]
      by_cases c0 : (l0.length : Int) ≤ 30
      · simp only [if_pos c0]
        exact ⟨_, rfl, fun h => ⟨by omega, by have := of_decide_eq_true h; omega, hs⟩⟩
      · simp only [if_neg c0]
        exact ⟨_, rfl, fun h => by cases h⟩
    · rw [if_neg c]
      by_cases c0 : (l0.length : Int) ≤ 30
      · simp only [if_pos c0]
        exact ⟨_, rfl, fun h => ⟨by omega, by have := of_decide_eq_true h; omega, hs⟩⟩
      · simp only [if_neg c0]
        exact ⟨_, rfl, fun h => by cases h⟩
  | succ d ih =>
    intro k i h0 h1 hd hk hs
    obtain ⟨k, rfl⟩ : ∃ m, k = m + 2 := ⟨k - 2, by omega⟩
    simp only [outlawkit_LightLevels.l1, outlawkit_LightLevels.j3]
    by_cases c : i < (l1.length : Int)
    · rw [if_pos c, if_pos (decide_eq_true (by omega)), if_pos h0, if_pos c]
      by_cases cs : (((rd_T42 l1 i).f0).size : Int) > 300
      · rw [if_pos cs]
        exact ⟨_, rfl, fun h => by cases h⟩
      · rw [if_neg cs, wrap_small h0 (by omega)]
        refine ih k (i + 1) (by omega) (by omega) (by omega) (by omega) (fun j hj hlt => ?_)
        rcases (by omega : (j : Int) < i ∨ (j : Int) = i) with h | h
        · exact hs j hj h
        · rw [rdT l1 i h0 c] at cs
          have : i.toNat = j := by omega
          subst this
          omega
    · rw [if_neg c, if_neg (by simp)]
      by_cases c0 : (l0.length : Int) ≤ 30
      · simp only [if_pos c0]
        exact ⟨_, rfl, fun h => ⟨by omega, by have := of_decide_eq_true h; omega, fun j hj _ => hs j hj (by omega)⟩⟩
      · simp only [if_neg c0]
        exact ⟨_, rfl, fun h => by cases h⟩
theorem light_l0 (l0 : List S36) (l1 : List S42) (a2 a3 a4 a5 a6 a7 a8 : Int) (d : Nat) : ∀ (k : Nat) (i : Int), 0 ≤ i → i ≤ 31 → 31 - i = d → 2 * d + 70 < k → SmallTo S36.f0 l0 i →
    ∃ r, outlawkit_LightLevels.l0 k i l0 l1 a2 a3 a4 a5 a6 a7 a8 = some r ∧ (r = true → LightOK l0 l1) := by
  have fin : ∀ k, 64 < k → SmallTo S36.f0 l0 31 → ∃ r, outlawkit_LightLevels.l1 k 0 l0 l1 a2 a3 a4 a5 a6 a7 a8 = some r ∧ (r = true → LightOK l0 l1) := by
    intro k hk hs
    obtain ⟨r, hr, h⟩ := light_l1 l0 l1 a2 a3 a4 a5 a6 a7 a8 31 k 0 (by omega) (by omega) (by omega) (by omega) (fun j hj h => absurd h (by omega))
    exact ⟨r, hr, fun hh => ⟨(h hh).1, (h hh).2.1, hs, (h hh).2.2⟩⟩
  induction d with
  | zero =>
    intro k i h0 h1 hd hk hs
    obtain ⟨k, rfl⟩ : ∃ m, k = m + 2 := ⟨k - 2, by omega⟩
    obtain rfl : i = 31 := by omega
    have e : decide ((31 : Int) < 31) = false := by decide
    simp only [outlawkit_LightLevels.l0, outlawkit_LightLevels.j1, e]
    obtain ⟨r, hr, h⟩ := fin k (by omega) hs
    refine ⟨r, ?_, h⟩
    split <;> (rw [if_neg (by simp)]; exact hr)
  | succ d ih =>
    intro k i h0 h1 hd hk hs
    obtain ⟨k, rfl⟩ : ∃ m, k = m + 2 := ⟨k - 2, by omega⟩
    simp only [outlawkit_LightLevels.l0, outlawkit_LightLevels.j1]
    by_cases c : i < (l0.length : Int)
    · rw [if_pos c, if_pos (decide_eq_true (by omega)), if_pos h0, if_pos c]
      by_cases cs : (((rd_T36 l0 i).f0).size : Int) > 300
      · rw [if_pos cs]
        exact ⟨_, rfl, fun h => by cases h⟩
      · rw [if_neg cs, wrap_small h0 (by omega)]
        refine ih k (i + 1) (by omega) (by omega) (by omega) (by omega) (fun j hj hlt => ?_)
        rcases (by omega : (j : Int) < i ∨ (j : Int) = i) with h | h
        · exact hs j hj h
        · rw [rdU l0 i h0 c] at cs
          have : i.toNat = j := by omega
          subst this
          omega
    · rw [if_neg c, if_neg (by simp)]
      obtain ⟨r, hr, h⟩ := fin k (by omega) (fun j hj _ => hs j hj (by omega))
      exact ⟨r, hr, h⟩
theorem light_tells (l0 : List S36) (l1 : List S42) (a2 a3 a4 a5 a6 a7 a8 : Int) : ∃ r, outlawkit_LightLevels.f 200 l0 l1 a2 a3 a4 a5 a6 a7 a8 = some r ∧ (r = true → LightOK l0 l1) :=
  light_l0 l0 l1 a2 a3 a4 a5 a6 a7 a8 31 200 0 (by omega) (by omega) (by omega) (by omega) (fun j hj h => absurd h (by omega))
end Go.Proofs.YtpflimghkckpjaaDoor.Z
