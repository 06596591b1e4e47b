/-
The reference of power, walked: types.
-/
import Derived.Test.YtpflimghkckpjaaGreatDoorBRUsers
set_option linter.unusedVariables false
set_option linter.unusedSimpArgs false
namespace Go.Proofs.YtpflimghkckpjaaGreatDoor.B
open Go.RowKit
def tokP (b b' : Bool) (n n' d e own : Int) : Prop :=
  (b = b' ∧ n = n') ∨ ¬ (own < (if b = true then n else d) ∨ own < (if b' = true then n' else e))
structure TOK (l1 m1 : List (ByteArray × Int)) (d e own : Int) (u : ByteArray) : Prop where
  out : ∀ n b n' b', LookAt l1 u n b → LookAt m1 u n' b' → tokP b b' n n' d e own
theorem tok_iff {l1 m1 : List (ByteArray × Int)} {d e own : Int} {u : ByteArray} {n n' : Int} {b b' : Bool} (h : LookAt l1 u n b) (h' : LookAt m1 u n' b') : TOK l1 m1 d e own u ↔ tokP b b' n n' d e own :=
  ⟨fun hu => hu.out _ _ _ _ h h', fun hp => ⟨fun n2 b2 n2' b2' k k' => by
    obtain ⟨rfl, rfl⟩ := h.uniq k
    obtain ⟨rfl, rfl⟩ := h'.uniq k'
    exact hp⟩⟩
set_option maxRecDepth 100000 in
set_option maxHeartbeats 8000000 in
theorem rtypes_ac {G : World → Prop} (hst : Stable G) (X Y : List (List PV)) (l0 l1 : List (ByteArray × Int)) (hX : l0.map encE = X) (hY : l1.map encE = Y) (hl0 : l0.length ≤ 1000000) (hl1 : l1.length ≤ 1000000) (a2 a3 a4 a5 a6 a7 a8 : Int) (Z W : List (List PV)) (m0 m1 : List (ByteArray × Int)) (hZ : m0.map encE = Z) (hW : m1.map encE = W) (hm0 : m0.length ≤ 1000000) (hm1 : m1.length ≤ 1000000) (b2 b3 b4 b5 b6 b7 b8 : Int) (own : Int) (d e : Int) (hd : max a4 a3 = d) (he : max b4 b3 = e) (c : Bool) (hc : c = true ↔ ∀ q, q ∈ l1 ++ m1 → TOK l1 m1 d e own q.1) :
    ACalls G Tryz.prog 77 [encLv X Y a2 a3 a4 a5 a6 a7 a8, encLv Z W b2 b3 b4 b5 b6 b7 b8, .lit (.int .i64 own)] (.lit (.bool c)) none := by
  have hYl : Y.length ≤ 1000000 := by rw [← hY]; simpa using hl1
  have hWl : W.length ≤ 1000000 := by rw [← hW]; simpa using hm1
  refine acalls_fn hst mixed tau_ok Tryz.func77 (by kernel_rfl) (by kernel_rfl) (by kernel_rfl) ?_
  intro Q hQ
  cbv
  refine ⟨⟨by simp only [List.length_nil]; omega, fun r hr => by simp at hr, enc_len hY⟩, ?_⟩
  intro M0 hM0
  obtain rfl : Y = M0 := hM0.out.symm
  cbv
  refine ⟨⟨by omega, enc_len hY, enc_len hW⟩, ?_⟩
  intro M hM
  have hMm : (l1 ++ m1).map encE = M := by rw [hM.out, List.map_append, hY, hW]
  have hMl : M.length ≤ 2000000 := by rw [hM.out, List.length_append]; omega
  clear hM
  cbv
  refine ⟨[2, 3, 4, 7], [3, 4], Int, fun k => [(.t 8, ⟨.pv (.lit (.int .i64 k)), none, none⟩)], Upto M.length (fun x => ∀ q, (l1 ++ m1)[x]? = some q → TOK l1 m1 d e own q.1), fun k => M.length - k.toNat, 0, Upto.zero, ?_, ?_⟩
  · cbv
    simp
  · intro k hk
    cbv
    intro m1' h1
    cbv
    intro c1 h2
    cbv
    have h0 := hk.lo
    cases c1
    · have hall := hk.full (by have := h2.no; have := h1.len; omega)
      cbv
      rw [hc.2 (fun q hq => by
        obtain ⟨x, hx, rfl⟩ := List.getElem_of_mem hq
        exact hall x (by rw [← hMm]; simpa using hx) _ (List.getElem?_eq_getElem hx))]
      exact ⟨rfl, trivial⟩
    · have h : k < M.length := by have := h2.yes; have := h1.len; omega
      cbv
      refine ⟨Is.at h0 h, ?_⟩
      intro r hr
      obtain ⟨⟨u, un⟩, hx, rfl⟩ := hr.row hMm
      cbv
      obtain ⟨n, b, hn⟩ := look_ex l1 u
      obtain ⟨n', b', hn'⟩ := look_ex m1 u
      refine ⟨_, _, hQ _ _ _ _ (rtyped_ac hst l1 X Y hY hl1 a2 a3 a4 a5 a6 a7 a8 u n b hn), ?_⟩
      cbv
      refine ⟨Is.at h0 h, ?_⟩
      intro r2 hr2
      obtain ⟨⟨u2, un2⟩, hx2, rfl⟩ := hr2.row hMm
      rw [hx] at hx2
      cases hx2
      cbv
      refine ⟨_, _, hQ _ _ _ _ (rtyped_ac hst m1 Z W hW hm1 b2 b3 b4 b5 b6 b7 b8 u n' b' hn'), ?_⟩
      cbv
      obtain ⟨r1, hr1⟩ : ∃ r1, (if b = true then n else d) = r1 := ⟨_, rfl⟩
      obtain ⟨r2, hr2⟩ : ∃ r2, (if b' = true then n' else e) = r2 := ⟨_, rfl⟩
      have C1 := rleast_ac hst X Y l0 l1 hX hY hl0 hl1 a2 a3 a4 a5 a6 a7 a8 u d r1 hd ⟨n, b, hn, hr1.symm⟩
      have C2 := rleast_ac hst Z W m0 m1 hZ hW hm0 hm1 b2 b3 b4 b5 b6 b7 b8 u e r2 he ⟨n', b', hn', hr2.symm⟩
      have hP : tokP b b' n n' d e own ↔ (b = b' ∧ n = n') ∨ ¬ (own < r1 ∨ own < r2) := by unfold tokP; rw [hr1, hr2]
      intro c2 h3
      cbv
      cases c2
      · have hne : ¬ (b = b' ∧ n = n') := fun e => h3.no e.1
        cbv
        refine ⟨Is.at h0 h, ?_⟩
        intro r3 hr3
        obtain ⟨⟨u3, un3⟩, hx3, rfl⟩ := hr3.row hMm
        rw [hx] at hx3
        cases hx3
        cbv
        refine ⟨_, _, hQ _ _ _ _ C1, ?_⟩
        cbv
        intro c4 h5
        cbv
        cases c4
        · cbv
          refine ⟨Is.at h0 h, ?_⟩
          intro r4 hr4
          obtain ⟨⟨u4, un4⟩, hx4, rfl⟩ := hr4.row hMm
          rw [hx] at hx4
          cases hx4
          cbv
          refine ⟨_, _, hQ _ _ _ _ C2, ?_⟩
          cbv
          intro c5 h6
          cbv
          cases c5
          · cbv
            intro m9 h9
            have e9 := h9.inc h0 h (by omega)
            cbv
            refine ⟨m9, by rw [e9]; exact hk.next h (fun q hq => by
              rw [hx] at hq
              cases hq
              exact (tok_iff hn hn').2 (hP.2 (.inr (fun e => e.elim h5.no h6.no)))), by rw [e9]; exact less h0 h, ?_⟩
            cbv
            simp
          · cbv
            rw [bad_of hc (fun hm => by
              have := (tok_iff hn hn').1 (hm _ (List.mem_of_getElem? hx))
              exact (hP.1 this).elim hne (fun e => e (.inr h6.yes)))]
            exact ⟨rfl, trivial⟩
        · cbv
          rw [bad_of hc (fun hm => by
            have := (tok_iff hn hn').1 (hm _ (List.mem_of_getElem? hx))
            exact (hP.1 this).elim hne (fun e => e (.inl h5.yes)))]
          exact ⟨rfl, trivial⟩
      · cbv
        intro c3 h4
        cbv
        cases c3
        · have hne : ¬ (b = b' ∧ n = n') := fun e => h4.no e.2
          cbv
          refine ⟨Is.at h0 h, ?_⟩
          intro r3 hr3
          obtain ⟨⟨u3, un3⟩, hx3, rfl⟩ := hr3.row hMm
          rw [hx] at hx3
          cases hx3
          cbv
          refine ⟨_, _, hQ _ _ _ _ C1, ?_⟩
          cbv
          intro c4 h5
          cbv
          cases c4
          · cbv
            refine ⟨Is.at h0 h, ?_⟩
            intro r4 hr4
            obtain ⟨⟨u4, un4⟩, hx4, rfl⟩ := hr4.row hMm
            rw [hx] at hx4
            cases hx4
            cbv
            refine ⟨_, _, hQ _ _ _ _ C2, ?_⟩
            cbv
            intro c5 h6
            cbv
            cases c5
            · cbv
              intro m9 h9
              have e9 := h9.inc h0 h (by omega)
              cbv
              refine ⟨m9, by rw [e9]; exact hk.next h (fun q hq => by
                rw [hx] at hq
                cases hq
                exact (tok_iff hn hn').2 (hP.2 (.inr (fun e => e.elim h5.no h6.no)))), by rw [e9]; exact less h0 h, ?_⟩
              cbv
              simp
            · cbv
              rw [bad_of hc (fun hm => by
                have := (tok_iff hn hn').1 (hm _ (List.mem_of_getElem? hx))
                exact (hP.1 this).elim hne (fun e => e (.inr h6.yes)))]
              exact ⟨rfl, trivial⟩
          · cbv
            rw [bad_of hc (fun hm => by
              have := (tok_iff hn hn').1 (hm _ (List.mem_of_getElem? hx))
              exact (hP.1 this).elim hne (fun e => e (.inl h5.yes)))]
            exact ⟨rfl, trivial⟩
        · have heq : b = b' ∧ n = n' := ⟨h3.yes, h4.yes⟩
          cbv
          intro m9 h9
          have e9 := h9.inc h0 h (by omega)
          cbv
          refine ⟨m9, by rw [e9]; exact hk.next h (fun q hq => by
            rw [hx] at hq
            cases hq
            exact (tok_iff hn hn').2 (hP.2 (.inl heq))), by rw [e9]; exact less h0 h, ?_⟩
          cbv
          simp
end Go.Proofs.YtpflimghkckpjaaGreatDoor.B
