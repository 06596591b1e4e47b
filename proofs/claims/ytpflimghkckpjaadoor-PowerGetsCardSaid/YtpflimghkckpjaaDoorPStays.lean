/-
Plain facts on levels: a change of nothing is allowed where the levels are right; who has a higher level may do what a lower one may; what an allowed change leaves as it was. Condition: none.
-/
import Derived.Test.YtpflimghkckpjaaDoorHChange
set_option linter.unusedVariables false
set_option linter.unusedSimpArgs false
namespace Go.Proofs.YtpflimghkckpjaaDoor.H
open Go.RowKit Go.Shelf

theorem zip_same_all {p : Int × Int → Bool} (hp : ∀ x, p (x, x) = true) : ∀ l : List Int, (l.zip l).all p = true := by
  intro l
  induction l with
  | nil => rfl
  | cons x l ih => simp [List.zip_cons_cons, hp x, ih]
theorem change_same (l0 l1 : List (ByteArray × Int)) (a2 a3 a4 a5 a6 a7 a8 : Int) (s : ByteArray) :
    changeB l0 l1 a2 a3 a4 a5 a6 a7 a8 l0 l1 a2 a3 a4 a5 a6 a7 a8 s = rightB l0 l1 a2 a3 a4 a5 a6 a7 a8 := by
  unfold changeB
  rw [zip_same_all (fun x => by simp [sevOK])]
  have e1 : ((l0 ++ l0).all fun p => userOK l0 a2 l0 a2 s (ofS l0 a2 s) p.1) = true := by
    rw [List.all_eq_true]; intro x _; simp [userOK]
  have e2 : ((l1 ++ l1).all fun p => typeOK l1 a3 a4 l1 a3 a4 (ofS l0 a2 s) p.1) = true := by
    rw [List.all_eq_true]; intro x _; simp [typeOK]
  rw [e1, e2]
  simp
theorem may_mono {l : List (ByteArray × Int)} {a2 a5 a6 a7 a8 : Int} {u v : ByteArray} {act : Int} (h : ofS l a2 u < ofS l a2 v) (hu : mayS l a2 a5 a6 a7 a8 u act = true) : mayS l a2 a5 a6 a7 a8 v act = true := by
  unfold mayS at hu ⊢
  by_cases e1 : act = 1
  · rw [if_pos e1, decide_eq_true_eq] at hu; rw [if_pos e1, decide_eq_true_eq]; omega
  rw [if_neg e1] at hu ⊢
  by_cases e2 : act = 2
  · rw [if_pos e2, decide_eq_true_eq] at hu; rw [if_pos e2, decide_eq_true_eq]; omega
  rw [if_neg e2] at hu ⊢
  by_cases e3 : act = 3
  · rw [if_pos e3, decide_eq_true_eq] at hu; rw [if_pos e3, decide_eq_true_eq]; omega
  rw [if_neg e3] at hu ⊢
  by_cases e4 : act = 4
  · rw [if_pos e4, decide_eq_true_eq] at hu; rw [if_pos e4, decide_eq_true_eq]; omega
  rw [if_neg e4] at hu
  cases hu
theorem toList_inj {a b : ByteArray} (h : a.toList = b.toList) : a = b := by
  rw [Lib.toList_data, Lib.toList_data] at h
  cases a; cases b
  simp only [ByteArray.mk.injEq]
  exact Array.toList_inj.1 h
theorem lookS_none {l : List (ByteArray × Int)} {x : ByteArray} (h : ∀ p ∈ l, p.1 ≠ x) : lookS l x = (0, false) := by
  unfold lookS
  have : l.find? (fun p => p.1.toList == x.toList) = none := by
    rw [List.find?_eq_none]
    intro p hp he
    exact h p hp (toList_inj (by simpa using he))
  rw [this]
/-- What every name's level is, before and after an allowed change. -/
theorem user_step {l0 m0 : List (ByteArray × Int)} {a2 b2 : Int} {s : ByteArray} {own : Int} (h : (l0 ++ m0).all (fun p => userOK l0 a2 m0 b2 s own p.1) = true) (x : ByteArray) :
    lookS l0 x = lookS m0 x ∨ (ofS m0 b2 x ≤ own ∧ ofS l0 a2 x ≤ own ∧ (ofS l0 a2 x = own → x = s)) := by
  rw [List.all_eq_true] at h
  by_cases hx : ∃ p ∈ l0 ++ m0, p.1 = x
  · obtain ⟨p, hp, rfl⟩ := hx
    have := h p hp
    unfold userOK at this
    by_cases he : lookS l0 p.1 = lookS m0 p.1
    · exact .inl he
    · right
      simp only [he, decide_false, Bool.false_or, Bool.not_eq_true', Bool.or_eq_false_iff, decide_eq_false_iff_not, Bool.and_eq_false_iff] at this
      obtain ⟨h1, h2, h3⟩ := this
      refine ⟨by omega, by omega, fun e => ?_⟩
      rcases h3 with h3 | h3
      · exact absurd e h3
      · exact toList_inj (by simpa using h3)
  · left
    rw [lookS_none (fun p hp e => hx ⟨p, List.mem_append_left _ hp, e⟩), lookS_none (fun p hp e => hx ⟨p, List.mem_append_right _ hp, e⟩)]
theorem type_step {l1 m1 : List (ByteArray × Int)} {a3 a4 b3 b4 own : Int} (h : (l1 ++ m1).all (fun p => typeOK l1 a3 a4 m1 b3 b4 own p.1) = true) (x : ByteArray) :
    lookS l1 x = lookS m1 x ∨ (needsS l1 a3 a4 x ≤ own ∧ needsS m1 b3 b4 x ≤ own) := by
  rw [List.all_eq_true] at h
  by_cases hx : ∃ p ∈ l1 ++ m1, p.1 = x
  · obtain ⟨p, hp, rfl⟩ := hx
    have := h p hp
    unfold typeOK at this
    by_cases he : lookS l1 p.1 = lookS m1 p.1
    · exact .inl he
    · right
      simp only [he, decide_false, Bool.false_or, Bool.not_eq_true', decide_eq_false_iff_not] at this
      exact ⟨by omega, by omega⟩
  · left
    rw [lookS_none (fun p hp e => hx ⟨p, List.mem_append_left _ hp, e⟩), lookS_none (fun p hp e => hx ⟨p, List.mem_append_right _ hp, e⟩)]
theorem sev_one {own a b : Int} (h : sevOK own a b = true) : a = b ∨ (a ≤ own ∧ b ≤ own) := by
  unfold sevOK at h
  simp only [Bool.or_eq_true, decide_eq_true_eq, Bool.not_eq_true', decide_eq_false_iff_not] at h
  omega
theorem sev_step {a2 a3 a4 a5 a6 a7 a8 b2 b3 b4 b5 b6 b7 b8 own : Int} (h : ((seven a2 a3 a4 a5 a6 a7 a8).zip (seven b2 b3 b4 b5 b6 b7 b8)).all (fun p => sevOK own p.1 p.2) = true) :
    (a2 = b2 ∨ (a2 ≤ own ∧ b2 ≤ own)) ∧ (a3 = b3 ∨ (a3 ≤ own ∧ b3 ≤ own)) ∧ (a4 = b4 ∨ (a4 ≤ own ∧ b4 ≤ own)) := by
  simp only [seven, List.zip_cons_cons, List.all_cons, Bool.and_eq_true] at h
  exact ⟨sev_one h.1, sev_one h.2.1, sev_one h.2.2.1⟩
/-- What an allowed change tells. -/
theorem change_tells {l0 l1 : List (ByteArray × Int)} {a2 a3 a4 a5 a6 a7 a8 : Int} {m0 m1 : List (ByteArray × Int)} {b2 b3 b4 b5 b6 b7 b8 : Int} {u : ByteArray} (h : changeB l0 l1 a2 a3 a4 a5 a6 a7 a8 m0 m1 b2 b3 b4 b5 b6 b7 b8 u = true) (v typ : ByteArray) (st : Bool) :
    rightB l0 l1 a2 a3 a4 a5 a6 a7 a8 = true ∧ rightB m0 m1 b2 b3 b4 b5 b6 b7 b8 = true ∧
    (ofS m0 b2 v ≤ ofS l0 a2 v ∨ ofS m0 b2 v ≤ ofS l0 a2 u) ∧ (ofS l0 a2 v ≤ ofS l0 a2 u ∨ ofS m0 b2 v = ofS l0 a2 v) ∧ ofS m0 b2 u ≤ ofS l0 a2 u ∧
    (v = u ∨ ofS l0 a2 v ≠ ofS l0 a2 u ∨ ofS m0 b2 v = ofS l0 a2 v ∨ a2 ≠ b2) ∧ (needS l1 a3 a4 typ st ≤ ofS l0 a2 u ∨ needS m1 b3 b4 typ st = needS l1 a3 a4 typ st) := by
  unfold changeB at h
  simp only [Bool.and_eq_true] at h
  obtain ⟨h1, h2, h3, h4, h5⟩ := h
  have sv := user_step h4 v
  have su := user_step h4 u
  have ty := type_step h5 typ
  obtain ⟨e2, e3, e4⟩ := sev_step h3
  have look : ∀ x, lookS l0 x = lookS m0 x → (ofS l0 a2 x = ofS m0 b2 x ∨ (ofS l0 a2 x = a2 ∧ ofS m0 b2 x = b2)) := by
    intro x e
    unfold ofS
    rw [e]
    cases (lookS m0 x).2
    · right; simp
    · left; simp
  have need : lookS l1 typ = lookS m1 typ → (needS l1 a3 a4 typ st = needS m1 b3 b4 typ st ∨ (needS l1 a3 a4 typ st = (if st then a4 else a3) ∧ needS m1 b3 b4 typ st = if st then b4 else b3)) := by
    intro e
    unfold needS
    rw [e]
    cases (lookS m1 typ).2
    · right; simp
    · left; simp
  have nle : needS l1 a3 a4 typ st ≤ needsS l1 a3 a4 typ := by
    unfold needsS
    cases st <;> omega
  refine ⟨h1, h2, ?_, ?_, ?_, ?_, ?_⟩
  · rcases sv with e | ⟨x, y, z⟩
    · rcases look v e with e | ⟨x, y⟩ <;> omega
    · omega
  · rcases sv with e | ⟨x, y, z⟩
    · rcases look v e with e | ⟨x, y⟩ <;> omega
    · omega
  · rcases su with e | ⟨x, y, z⟩
    · rcases look u e with e | ⟨x, y⟩ <;> omega
    · omega
  · rcases sv with e | ⟨x, y, z⟩
    · rcases look v e with e | ⟨x, y⟩
      · exact .inr (.inr (.inl e.symm))
      · by_cases c : a2 = b2
        · exact .inr (.inr (.inl (by omega)))
        · exact .inr (.inr (.inr c))
    · by_cases c : ofS l0 a2 v = ofS l0 a2 u
      · exact .inl (z c)
      · exact .inr (.inl c)
  · rcases ty with e | ⟨x, y⟩
    · rcases need e with e | ⟨x, y⟩
      · omega
      · cases st <;> simp at x y <;> omega
    · omega
end Go.Proofs.YtpflimghkckpjaaDoor.H
