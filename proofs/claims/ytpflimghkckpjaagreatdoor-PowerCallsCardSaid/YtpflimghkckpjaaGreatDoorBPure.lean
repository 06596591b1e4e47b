/-
The plain law of PowerCalls: what the program and the reference compute is the same.
-/
import Derived.Test.YtpflimghkckpjaaGreatDoorBBr
import Derived.Test.YtpflimghkckpjaaGreatDoorBRChange
set_option linter.unusedVariables false
set_option linter.unusedSimpArgs false
namespace Go.Proofs.YtpflimghkckpjaaGreatDoor.B
open Go.RowKit
theorem within_iff (n : Int) : H.withinB n = true ↔ -9007199254740991 ≤ n ∧ n ≤ 9007199254740991 := by simp [H.withinB]
theorem chk_iff (p : ByteArray → Bool) (l : List (ByteArray × Int)) : H.chkL p l = true ↔ (∀ x, x < l.length → KeyOK p l x) ∧ ∀ n, n ∈ l.map (·.2) → -9007199254740991 ≤ n ∧ n ≤ 9007199254740991 := by
  rw [H.chkL_iff]
  constructor
  · intro h
    refine ⟨fun x hx q hq => ?_, fun n hn => ?_⟩
    · obtain ⟨_, rfl⟩ := List.getElem?_eq_some_iff.1 hq
      obtain ⟨h1, h2, h3⟩ := h x hx
      refine ⟨h1, fun h0 q' hq' => ?_⟩
      obtain ⟨_, rfl⟩ := List.getElem?_eq_some_iff.1 hq'
      exact h3 h0
    · obtain ⟨q, hq, rfl⟩ := List.mem_map.1 hn
      obtain ⟨x, hx, rfl⟩ := List.getElem_of_mem hq
      exact (within_iff _).1 (h x hx).2.1
  · rintro ⟨h1, h2⟩ i hi
    obtain ⟨k1, k2⟩ := h1 i hi _ (List.getElem?_eq_getElem hi)
    exact ⟨k1, (within_iff _).2 (h2 _ (List.mem_map_of_mem (List.getElem_mem hi))), fun h0 => k2 h0 _ (List.getElem?_eq_getElem _)⟩
theorem right_iff (l0 l1 : List (ByteArray × Int)) (a2 a3 a4 a5 a6 a7 a8 : Int) : H.rightB l0 l1 a2 a3 a4 a5 a6 a7 a8 = true ↔ MayOK H.userB H.validB l0 l1 a2 a3 a4 a5 a6 a7 a8 := by
  unfold H.rightB
  rw [Bool.and_eq_true, Bool.and_eq_true, chk_iff, chk_iff, List.all_eq_true]
  constructor
  · rintro ⟨h1, ⟨h2, h3⟩, h4, h5⟩
    refine ⟨h2, h4, fun n hn => ?_⟩
    rw [List.mem_append, List.mem_append] at hn
    rcases hn with (hn | hn) | hn
    · exact (within_iff _).1 (h1 n hn)
    · exact h3 n hn
    · exact h5 n hn
  · intro h
    exact ⟨fun n hn => (within_iff _).2 (h.n n (by rw [List.mem_append, List.mem_append]; exact .inl (.inl hn))), ⟨h.u, fun n hn => h.n n (by rw [List.mem_append, List.mem_append]; exact .inl (.inr hn))⟩, h.t, fun n hn => h.n n (by rw [List.mem_append]; exact .inr hn)⟩
theorem user_iff (l0 m0 : List (ByteArray × Int)) (a2 b2 own : Int) (s u : ByteArray) : H.userOK l0 a2 m0 b2 s own u = true ↔ UOK l0 m0 a2 b2 own s u := by
  obtain ⟨n, b, h⟩ := look_ex l0 u
  obtain ⟨n', b', h'⟩ := look_ex m0 u
  rw [uok_iff h h']
  unfold H.userOK uokP H.ofS
  rw [lookS_of h, lookS_of h']
  have e1 : ((n, b) = (n', b')) = (b = b' ∧ n = n') := by rw [Prod.mk.injEq, and_comm]
  have e2 : (u.toList == s.toList) = decide (u = s) := str_eq u s
  simp only [e1, e2, Bool.or_eq_true, decide_eq_true_eq, Bool.not_eq_true', Bool.or_eq_false_iff, decide_eq_false_iff_not, Bool.and_eq_false_iff, Bool.not_eq_false', not_or, not_and, ne_eq, Decidable.not_not]
  constructor
  · rintro (h | ⟨h1, h2, h3⟩)
    · exact .inl h
    · exact .inr ⟨h1, h2, fun e => h3.elim (fun h => absurd e h) id⟩
  · rintro (h | ⟨h1, h2, h3⟩)
    · exact .inl h
    · refine .inr ⟨h1, h2, ?_⟩
      by_cases e : (if b = true then n else a2) = own
      · exact .inr (h3 e)
      · exact .inl e
theorem needs_of {l : List (ByteArray × Int)} {a3 a4 : Int} {key : ByteArray} {n : Int} {b : Bool} (h : LookAt l key n b) : H.needsS l a3 a4 key = if b = true then n else max a4 a3 := by
  unfold H.needsS H.needS
  rw [lookS_of h]
  cases b <;> simp
theorem type_iff (l1 m1 : List (ByteArray × Int)) (a3 a4 b3 b4 own : Int) (u : ByteArray) : H.typeOK l1 a3 a4 m1 b3 b4 own u = true ↔ TOK l1 m1 (max a4 a3) (max b4 b3) own u := by
  obtain ⟨n, b, h⟩ := look_ex l1 u
  obtain ⟨n', b', h'⟩ := look_ex m1 u
  rw [tok_iff h h']
  unfold H.typeOK tokP
  rw [lookS_of h, lookS_of h', needs_of h, needs_of h']
  have e1 : ((n, b) = (n', b')) = (b = b' ∧ n = n') := by rw [Prod.mk.injEq, and_comm]
  simp only [e1, Bool.or_eq_true, decide_eq_true_eq, Bool.not_eq_true', decide_eq_false_iff_not]
  constructor
  · rintro (h | h)
    · exact .inl h
    · exact .inr (by omega)
  · rintro (h | h)
    · exact .inl h
    · exact .inr (by omega)
theorem sev_iff (own p q : Int) : H.sevOK own p q = true ↔ SevAt own p q := by
  unfold H.sevOK
  simp only [Bool.or_eq_true, decide_eq_true_eq, Bool.not_eq_true', decide_eq_false_iff_not]
  exact ⟨fun h => ⟨h.imp id (fun h => by omega)⟩, fun h => h.out.imp id (fun h => by omega)⟩
theorem zip_iff (own : Int) (VA VB : List Int) : (VA.zip VB).all (fun p => H.sevOK own p.1 p.2) = true ↔ ∀ (i : Nat) (p q : Int), VA[i]? = some p → VB[i]? = some q → SevAt own p q := by
  rw [List.all_eq_true]
  constructor
  · intro h i p q hp hq
    refine (sev_iff _ _ _).1 (h (p, q) (List.mem_of_getElem? (i := i) ?_))
    rw [List.getElem?_zip_eq_some]
    exact ⟨hp, hq⟩
  · intro h x hx
    obtain ⟨i, hi⟩ := List.mem_iff_getElem?.1 hx
    rw [List.getElem?_zip_eq_some] at hi
    exact (sev_iff _ _ _).2 (h i _ _ hi.1 hi.2)
theorem change_iff (l0 l1 : List (ByteArray × Int)) (a2 a3 a4 a5 a6 a7 a8 : Int) (m0 m1 : List (ByteArray × Int)) (b2 b3 b4 b5 b6 b7 b8 : Int) (s : ByteArray) (own : Int) (hown : OfAt l0 a2 s own) (c1 c2 cU cT : Bool)
    (h1 : H.rightB l0 l1 a2 a3 a4 a5 a6 a7 a8 = c1) (h2 : H.rightB m0 m1 b2 b3 b4 b5 b6 b7 b8 = c2)
    (hU : (l0 ++ m0).all (fun p => H.userOK l0 a2 m0 b2 s own p.1) = cU) (hT : (l1 ++ m1).all (fun p => H.typeOK l1 a3 a4 m1 b3 b4 own p.1) = cT) (c : Bool) (hc : H.changeB l0 l1 a2 a3 a4 a5 a6 a7 a8 m0 m1 b2 b3 b4 b5 b6 b7 b8 s = c) :
    c = true ↔ c1 = true ∧ c2 = true ∧ (∀ (i : Nat) (p q : Int), [a2, a3, a4, a5, a6, a7, a8][i]? = some p → [b2, b3, b4, b5, b6, b7, b8][i]? = some q → SevAt own p q) ∧ cU = true ∧ cT = true := by
  rw [← hc, ← h1, ← h2, ← hU, ← hT]
  unfold H.changeB
  rw [ofS_of hown]
  simp only [Bool.and_eq_true]
  rw [zip_iff]
  rfl
theorem all_users (l0 m0 : List (ByteArray × Int)) (a2 b2 own : Int) (s : ByteArray) : (l0 ++ m0).all (fun p => H.userOK l0 a2 m0 b2 s own p.1) = true ↔ ∀ q, q ∈ l0 ++ m0 → UOK l0 m0 a2 b2 own s q.1 := by
  rw [List.all_eq_true]
  exact forall_congr' fun q => forall_congr' fun _ => user_iff _ _ _ _ _ _ _
theorem all_types (l1 m1 : List (ByteArray × Int)) (a3 a4 b3 b4 own : Int) : (l1 ++ m1).all (fun p => H.typeOK l1 a3 a4 m1 b3 b4 own p.1) = true ↔ ∀ q, q ∈ l1 ++ m1 → TOK l1 m1 (max a4 a3) (max b4 b3) own q.1 := by
  rw [List.all_eq_true]
  exact forall_congr' fun q => forall_congr' fun _ => type_iff _ _ _ _ _ _ _ _
end Go.Proofs.YtpflimghkckpjaaGreatDoor.B
