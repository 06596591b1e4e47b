/-
The reference of power, walked: users.
-/
import Derived.Test.YtpflimghkckpjaaGreatDoorBR11b
import Derived.Test.YtpflimghkckpjaaGreatDoorBSame
set_option linter.unusedVariables false
set_option linter.unusedSimpArgs false
namespace Go.Proofs.YtpflimghkckpjaaGreatDoor.B
open Go.RowKit
theorem bad_of {c : Bool} {p : Prop} (hc : c = true ↔ p) (h : ¬ p) : c = false := by
  cases c with
  | false => rfl
  | true => exact absurd (hc.1 rfl) h
theorem look_ex (l : List (ByteArray × Int)) (key : ByteArray) : ∃ n b, LookAt l key n b := by
  by_cases h : ∃ k : Nat, ∃ p : ByteArray × Int, l[k]? = some p ∧ p.1 = key
  · obtain ⟨k, ⟨p, h1, h2⟩, h3⟩ := least h
    exact ⟨p.2, true, .inl ⟨rfl, k, p, h1, h2, rfl, fun x q hx hq e => absurd (h3 x ⟨q, hq, e⟩) (by omega)⟩⟩
  · exact ⟨0, false, .inr ⟨rfl, rfl, fun x q hq e => h ⟨x, q, hq, e⟩⟩⟩
theorem LookAt.uniq {l : List (ByteArray × Int)} {key : ByteArray} {n n' : Int} {b b' : Bool} (h : LookAt l key n b) (h' : LookAt l key n' b') : n = n' ∧ b = b' := by
  rcases h' with ⟨h1, k, p, h2, h3, h4, h5⟩ | ⟨h1, h2, h3⟩
  · obtain ⟨e1, e2⟩ := h.hit h2 h3 h5
    exact ⟨e2.trans h4, e1.trans h1.symm⟩
  · obtain ⟨e1, e2⟩ := h.miss h3
    exact ⟨e2.trans h2.symm, e1.trans h1.symm⟩
def uokP (b b' : Bool) (n n' a2 b2 own : Int) (s u : ByteArray) : Prop :=
  (b = b' ∧ n = n') ∨ ¬ (own < (if b' = true then n' else b2) ∨ own < (if b = true then n else a2) ∨ ((if b = true then n else a2) = own ∧ u ≠ s))
structure UOK (l0 m0 : List (ByteArray × Int)) (a2 b2 own : Int) (s u : ByteArray) : Prop where
  out : ∀ n b n' b', LookAt l0 u n b → LookAt m0 u n' b' → uokP b b' n n' a2 b2 own s u
theorem uok_iff {l0 m0 : List (ByteArray × Int)} {a2 b2 own : Int} {s u : ByteArray} {n n' : Int} {b b' : Bool} (h : LookAt l0 u n b) (h' : LookAt m0 u n' b') : UOK l0 m0 a2 b2 own s u ↔ uokP b b' n n' a2 b2 own s u :=
  ⟨fun hu => hu.out _ _ _ _ h h', fun hp => ⟨fun n2 b2 n2' b2' k k' => by
    obtain ⟨rfl, rfl⟩ := h.uniq k
    obtain ⟨rfl, rfl⟩ := h'.uniq k'
    exact hp⟩⟩
set_option maxRecDepth 100000 in
set_option maxHeartbeats 8000000 in
theorem rusers_ac {G : World → Prop} (hst : Stable G) (X Y : List (List PV)) (l0 l1 : List (ByteArray × Int)) (hX : l0.map encE = X) (hY : l1.map encE = Y) (hl0 : l0.length ≤ 1000000) (hl1 : l1.length ≤ 1000000) (a2 a3 a4 a5 a6 a7 a8 : Int) (Z W : List (List PV)) (m0 m1 : List (ByteArray × Int)) (hZ : m0.map encE = Z) (hW : m1.map encE = W) (hm0 : m0.length ≤ 1000000) (hm1 : m1.length ≤ 1000000) (b2 b3 b4 b5 b6 b7 b8 : Int) (s : ByteArray) (own : Int) (c : Bool) (hc : c = true ↔ ∀ q, q ∈ l0 ++ m0 → UOK l0 m0 a2 b2 own s q.1) :
    ACalls G Tryz.prog 76 [encLv X Y a2 a3 a4 a5 a6 a7 a8, encLv Z W b2 b3 b4 b5 b6 b7 b8, .lit (.string s), .lit (.int .i64 own)] (.lit (.bool c)) none := by
  have hXl : X.length ≤ 1000000 := by rw [← hX]; simpa using hl0
  have hZl : Z.length ≤ 1000000 := by rw [← hZ]; simpa using hm0
  refine acalls_fn hst mixed tau_ok Tryz.func76 (by kernel_rfl) (by kernel_rfl) (by kernel_rfl) ?_
  intro Q hQ
  cbv
  refine ⟨⟨by simp only [List.length_nil]; omega, fun r hr => by simp at hr, enc_len hX⟩, ?_⟩
  intro M0 hM0
  obtain rfl : X = M0 := hM0.out.symm
  cbv
  refine ⟨⟨by omega, enc_len hX, enc_len hZ⟩, ?_⟩
  intro M hM
  have hMm : (l0 ++ m0).map encE = M := by rw [hM.out, List.map_append, hX, hZ]
  have hMl : M.length ≤ 2000000 := by rw [hM.out, List.length_append]; omega
  clear hM
  cbv
  refine ⟨[2, 3, 4, 5, 9], [4, 5], Int, fun k => [(.t 10, ⟨.pv (.lit (.int .i64 k)), none, none⟩)], Upto M.length (fun x => ∀ q, (l0 ++ m0)[x]? = some q → UOK l0 m0 a2 b2 own s q.1), fun k => M.length - k.toNat, 0, Upto.zero, ?_, ?_⟩
  · cbv
    simp
  · intro k hk
    cbv
    intro m1' h1
    cbv
    intro c1 h2
    cbv
    have h0 := hk.lo
    cases c1
    · have hall := hk.full (by have := h2.no; have := h1.len; omega)
      cbv
      rw [hc.2 (fun q hq => by
        obtain ⟨x, hx, rfl⟩ := List.getElem_of_mem hq
        exact hall x (by rw [← hMm]; simpa using hx) _ (List.getElem?_eq_getElem hx))]
      exact ⟨rfl, trivial⟩
    · have h : k < M.length := by have := h2.yes; have := h1.len; omega
      cbv
      refine ⟨Is.at h0 h, ?_⟩
      intro r hr
      obtain ⟨⟨u, un⟩, hx, rfl⟩ := hr.row hMm
      cbv
      obtain ⟨n, b, hn⟩ := look_ex l0 u
      obtain ⟨n', b', hn'⟩ := look_ex m0 u
      refine ⟨_, _, hQ _ _ _ _ (ruser_ac hst l0 X Y hX hl0 a2 a3 a4 a5 a6 a7 a8 u n b hn), ?_⟩
      cbv
      refine ⟨_, _, hQ _ _ _ _ (ruser_ac hst m0 Z W hZ hm0 b2 b3 b4 b5 b6 b7 b8 u n' b' hn'), ?_⟩
      cbv
      obtain ⟨r1, hr1⟩ : ∃ r1, (if b = true then n else a2) = r1 := ⟨_, rfl⟩
      obtain ⟨r2, hr2⟩ : ∃ r2, (if b' = true then n' else b2) = r2 := ⟨_, rfl⟩
      have C1 := rOf_ac hst X Y l0 l1 hX hY hl0 hl1 a2 a3 a4 a5 a6 a7 a8 u r1 ⟨n, b, hn, hr1.symm⟩
      have C2 := rOf_ac hst Z W m0 m1 hZ hW hm0 hm1 b2 b3 b4 b5 b6 b7 b8 u r2 ⟨n', b', hn', hr2.symm⟩
      have hP : uokP b b' n n' a2 b2 own s u ↔ (b = b' ∧ n = n') ∨ ¬ (own < r2 ∨ own < r1 ∨ (r1 = own ∧ u ≠ s)) := by unfold uokP; rw [hr1, hr2]
      intro c2 h3
      cbv
      cases c2
      · have hne : ¬ (b = b' ∧ n = n') := fun e => h3.no e.1
        cbv
        refine ⟨_, _, hQ _ _ _ _ C1, ?_⟩
        cbv
        refine ⟨_, _, hQ _ _ _ _ C2, ?_⟩
        cbv
        intro c4 h5
        cbv
        cases c4
        · cbv
          intro c5 h6
          cbv
          cases c5
          · cbv
            intro c6 h7
            cbv
            cases c6
            · cbv
              intro m9 h9
              have e9 := h9.inc h0 h (by omega)
              cbv
              refine ⟨m9, by rw [e9]; exact hk.next h (fun q hq => by
                rw [hx] at hq
                cases hq
                exact (uok_iff hn hn').2 (hP.2 (.inr (fun e => e.elim h5.no (fun e => e.elim h6.no (fun e => h7.no e.1)))))), by rw [e9]; exact less h0 h, ?_⟩
              cbv
              simp
            · cbv
              intro c7 h8
              cbv
              cases c7
              · cbv
                intro m9 h9
                have e9 := h9.inc h0 h (by omega)
                cbv
                refine ⟨m9, by rw [e9]; exact hk.next h (fun q hq => by
                  rw [hx] at hq
                  cases hq
                  exact (uok_iff hn hn').2 (hP.2 (.inr (fun e => e.elim h5.no (fun e => e.elim h6.no (fun e => h8.no e.2)))))), by rw [e9]; exact less h0 h, ?_⟩
                cbv
                simp
              · cbv
                rw [bad_of hc (fun hm => by
                  have := (uok_iff hn hn').1 (hm _ (List.mem_of_getElem? hx))
                  exact (hP.1 this).elim hne (fun e => e (.inr (.inr ⟨h7.yes, h8.yes⟩))))]
                exact ⟨rfl, trivial⟩
          · cbv
            rw [bad_of hc (fun hm => by
              have := (uok_iff hn hn').1 (hm _ (List.mem_of_getElem? hx))
              exact (hP.1 this).elim hne (fun e => e (.inr (.inl h6.yes))))]
            exact ⟨rfl, trivial⟩
        · cbv
          rw [bad_of hc (fun hm => by
            have := (uok_iff hn hn').1 (hm _ (List.mem_of_getElem? hx))
            exact (hP.1 this).elim hne (fun e => e (.inl h5.yes)))]
          exact ⟨rfl, trivial⟩
      · cbv
        intro c3 h4
        cbv
        cases c3
        · have hne : ¬ (b = b' ∧ n = n') := fun e => h4.no e.2
          cbv
          refine ⟨_, _, hQ _ _ _ _ C1, ?_⟩
          cbv
          refine ⟨_, _, hQ _ _ _ _ C2, ?_⟩
          cbv
          intro c4 h5
          cbv
          cases c4
          · cbv
            intro c5 h6
            cbv
            cases c5
            · cbv
              intro c6 h7
              cbv
              cases c6
              · cbv
                intro m9 h9
                have e9 := h9.inc h0 h (by omega)
                cbv
                refine ⟨m9, by rw [e9]; exact hk.next h (fun q hq => by
                  rw [hx] at hq
                  cases hq
                  exact (uok_iff hn hn').2 (hP.2 (.inr (fun e => e.elim h5.no (fun e => e.elim h6.no (fun e => h7.no e.1)))))), by rw [e9]; exact less h0 h, ?_⟩
                cbv
                simp
              · cbv
                intro c7 h8
                cbv
                cases c7
                · cbv
                  intro m9 h9
                  have e9 := h9.inc h0 h (by omega)
                  cbv
                  refine ⟨m9, by rw [e9]; exact hk.next h (fun q hq => by
                    rw [hx] at hq
                    cases hq
                    exact (uok_iff hn hn').2 (hP.2 (.inr (fun e => e.elim h5.no (fun e => e.elim h6.no (fun e => h8.no e.2)))))), by rw [e9]; exact less h0 h, ?_⟩
                  cbv
                  simp
                · cbv
                  rw [bad_of hc (fun hm => by
                    have := (uok_iff hn hn').1 (hm _ (List.mem_of_getElem? hx))
                    exact (hP.1 this).elim hne (fun e => e (.inr (.inr ⟨h7.yes, h8.yes⟩))))]
                  exact ⟨rfl, trivial⟩
            · cbv
              rw [bad_of hc (fun hm => by
                have := (uok_iff hn hn').1 (hm _ (List.mem_of_getElem? hx))
                exact (hP.1 this).elim hne (fun e => e (.inr (.inl h6.yes))))]
              exact ⟨rfl, trivial⟩
          · cbv
            rw [bad_of hc (fun hm => by
              have := (uok_iff hn hn').1 (hm _ (List.mem_of_getElem? hx))
              exact (hP.1 this).elim hne (fun e => e (.inl h5.yes)))]
            exact ⟨rfl, trivial⟩
        · have heq : b = b' ∧ n = n' := ⟨h3.yes, h4.yes⟩
          cbv
          intro m9 h9
          have e9 := h9.inc h0 h (by omega)
          cbv
          refine ⟨m9, by rw [e9]; exact hk.next h (fun q hq => by
            rw [hx] at hq
            cases hq
            exact (uok_iff hn hn').2 (hP.2 (.inl heq))), by rw [e9]; exact less h0 h, ?_⟩
          cbv
          simp
end Go.Proofs.YtpflimghkckpjaaGreatDoor.B
