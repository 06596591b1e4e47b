/-
The reference of power, walked: Change.
-/
import Derived.Test.YtpflimghkckpjaaGreatDoorBRTypes
import Derived.Test.YtpflimghkckpjaaGreatDoorBR06
set_option linter.unusedVariables false
set_option linter.unusedSimpArgs false
namespace Go.Proofs.YtpflimghkckpjaaGreatDoor.B
open Go.RowKit
structure SevAt (own p q : Int) : Prop where
  out : p = q ∨ ¬ (own < p ∨ own < q)
set_option maxRecDepth 100000 in
set_option maxHeartbeats 8000000 in
theorem rChange_ac {G : World → Prop} (hst : Stable G) (X Y : List (List PV)) (l0 l1 : List (ByteArray × Int)) (hX : l0.map encE = X) (hY : l1.map encE = Y) (hl0 : l0.length ≤ 1000000) (hl1 : l1.length ≤ 1000000) (a2 a3 a4 a5 a6 a7 a8 : Int) (Z W : List (List PV)) (m0 m1 : List (ByteArray × Int)) (hZ : m0.map encE = Z) (hW : m1.map encE = W) (hm0 : m0.length ≤ 1000000) (hm1 : m1.length ≤ 1000000) (b2 b3 b4 b5 b6 b7 b8 : Int) (s : ByteArray) (own : Int) (hown : OfAt l0 a2 s own) (c1 c2 cU cT c : Bool)
    (hM1 : ACalls G Tryz.prog 57 [encLv X Y a2 a3 a4 a5 a6 a7 a8] (.lit (.bool c1)) none) (hM2 : ACalls G Tryz.prog 57 [encLv Z W b2 b3 b4 b5 b6 b7 b8] (.lit (.bool c2)) none)
    (hU : ACalls G Tryz.prog 76 [encLv X Y a2 a3 a4 a5 a6 a7 a8, encLv Z W b2 b3 b4 b5 b6 b7 b8, .lit (.string s), .lit (.int .i64 own)] (.lit (.bool cU)) none)
    (hT : ACalls G Tryz.prog 77 [encLv X Y a2 a3 a4 a5 a6 a7 a8, encLv Z W b2 b3 b4 b5 b6 b7 b8, .lit (.int .i64 own)] (.lit (.bool cT)) none)
    (hc : c = true ↔ c1 = true ∧ c2 = true ∧ (∀ (i : Nat) (p q : Int), [a2, a3, a4, a5, a6, a7, a8][i]? = some p → [b2, b3, b4, b5, b6, b7, b8][i]? = some q → SevAt own p q) ∧ cU = true ∧ cT = true) :
    ACalls G Tryz.prog 28 [encLv X Y a2 a3 a4 a5 a6 a7 a8, encLv Z W b2 b3 b4 b5 b6 b7 b8, .lit (.string s)] (.lit (.bool c)) none := by
  have COf := rOf_ac hst X Y l0 l1 hX hY hl0 hl1 a2 a3 a4 a5 a6 a7 a8 s own hown
  have CA := rNumbers_ac hst X Y a2 a3 a4 a5 a6 a7 a8
  have CB := rNumbers_ac hst Z W b2 b3 b4 b5 b6 b7 b8
  obtain ⟨VA, hVA⟩ : ∃ V, [a2, a3, a4, a5, a6, a7, a8] = V := ⟨_, rfl⟩
  obtain ⟨VB, hVB⟩ : ∃ V, [b2, b3, b4, b5, b6, b7, b8] = V := ⟨_, rfl⟩
  have hlA : VA.length = 7 := by rw [← hVA]; rfl
  have hlB : VB.length = 7 := by rw [← hVB]; rfl
  rw [hVA, hVB] at hc
  obtain ⟨NA, hNA⟩ : ∃ N, VA.map encI = N := ⟨_, rfl⟩
  obtain ⟨NB, hNB⟩ : ∃ N, VB.map encI = N := ⟨_, rfl⟩
  replace CA : ACalls G Tryz.prog 58 [encLv X Y a2 a3 a4 a5 a6 a7 a8] (.sl NA) (some (2, 1)) := by rw [← hNA, ← hVA]; exact CA
  replace CB : ACalls G Tryz.prog 58 [encLv Z W b2 b3 b4 b5 b6 b7 b8] (.sl NB) (some (2, 1)) := by rw [← hNB, ← hVB]; exact CB
  have hmA : NA.length = VA.length := by rw [← hNA]; simp
  have hmB : NB.length = VB.length := by rw [← hNB]; simp
  have hlen : NA.length = NB.length := by omega
  have hA7 : NA.length ≤ 7 := by omega
  clear hVA hVB
  refine acalls_fn hst mixed tau_ok Tryz.func28 (by kernel_rfl) (by kernel_rfl) (by kernel_rfl) ?_
  intro Q hQ
  cbv
  refine ⟨_, _, hQ _ _ _ _ hM1, ?_⟩
  cbv
  intro d1 g1
  cases c1
  · obtain rfl : d1 = true := g1.out
    cbv
    rw [bad_of hc (fun e => by simp at e)]
    exact ⟨rfl, trivial⟩
  · obtain rfl : d1 = false := g1.out
    cbv
    refine ⟨_, _, hQ _ _ _ _ hM2, ?_⟩
    cbv
    intro d2 g2
    cases c2
    · obtain rfl : d2 = true := g2.out
      cbv
      rw [bad_of hc (fun e => by simp at e)]
      exact ⟨rfl, trivial⟩
    · obtain rfl : d2 = false := g2.out
      cbv
      refine ⟨_, _, hQ _ _ _ _ COf, ?_⟩
      cbv
      refine ⟨_, _, hQ _ _ _ _ CA, ?_⟩
      cbv
      refine ⟨_, _, hQ _ _ _ _ CB, ?_⟩
      cbv
      refine ⟨[2, 3, 4, 7, 8, 9], [3, 4], Int, fun k => [(.t 10, ⟨.pv (.lit (.int .i64 k)), none, none⟩)], Upto NA.length (fun x => ∀ p q, VA[x]? = some p → VB[x]? = some q → SevAt own p q), fun k => NA.length - k.toNat, 0, Upto.zero, ?_, ?_⟩
      · cbv
        simp
      · intro k hk
        cbv
        intro m1' h1
        cbv
        intro e1 h2
        cbv
        have h0 := hk.lo
        cases e1
        · have hall := hk.full (by have := h2.no; have := h1.len; omega)
          have hsev : ∀ (i : Nat) (p q : Int), VA[i]? = some p → VB[i]? = some q → SevAt own p q := fun i p q hp hq => hall i (by rw [hmA]; exact (List.getElem?_eq_some_iff.1 hp).1) p q hp hq
          cbv
          refine ⟨_, _, hQ _ _ _ _ hU, ?_⟩
          cbv
          cases cU
          · cbv
            rw [bad_of hc (fun e => by simp at e)]
            exact ⟨rfl, trivial⟩
          · cbv
            refine ⟨_, _, hQ _ _ _ _ hT, ?_⟩
            cbv
            cases cT
            · rw [bad_of hc (fun e => by simp at e)]
              exact ⟨rfl, trivial⟩
            · rw [hc.2 ⟨rfl, rfl, hsev, rfl, rfl⟩]
              exact ⟨rfl, trivial⟩
        · have h : k < NA.length := by have := h2.yes; have := h1.len; omega
          have hB : k < NB.length := by omega
          cbv
          refine ⟨Is.at h0 h, ?_⟩
          intro r hr
          obtain ⟨p, hx, rfl⟩ := hr.row hNA
          cbv
          refine ⟨Is.at h0 hB, ?_⟩
          intro s hs
          obtain ⟨q, hy, rfl⟩ := hs.row hNB
          cbv
          intro z1 f1
          cbv
          cases z1
          · have heq : p = q := Classical.byContradiction fun e => f1.no e
            cbv
            intro m9 h9
            have e9 := h9.inc h0 h (by omega)
            cbv
            refine ⟨m9, by rw [e9]; exact hk.next h (fun p' q' hp' hq' => by
              rw [hx] at hp'
              rw [hy] at hq'
              cases hp'
              cases hq'
              exact ⟨.inl heq⟩), by rw [e9]; exact less h0 h, ?_⟩
            cbv
            simp
          · cbv
            refine ⟨Is.at h0 h, ?_⟩
            intro r2 hr2
            obtain ⟨p2, hx2, rfl⟩ := hr2.row hNA
            rw [hx] at hx2
            cases hx2
            cbv
            intro z2 f2
            cbv
            cases z2
            · cbv
              refine ⟨Is.at h0 hB, ?_⟩
              intro s3 hs3
              obtain ⟨q3, hy3, rfl⟩ := hs3.row hNB
              rw [hy] at hy3
              cases hy3
              cbv
              intro z3 f3
              cbv
              cases z3
              · cbv
                intro m9 h9
                have e9 := h9.inc h0 h (by omega)
                cbv
                refine ⟨m9, by rw [e9]; exact hk.next h (fun p' q' hp' hq' => by
                  rw [hx] at hp'
                  rw [hy] at hq'
                  cases hp'
                  cases hq'
                  exact ⟨.inr (fun e => e.elim f2.no f3.no)⟩), by rw [e9]; exact less h0 h, ?_⟩
                cbv
                simp
              · cbv
                rw [bad_of hc (fun e => by
                  have := (e.2.2.1 _ _ _ hx hy).out
                  exact this.elim (fun e => absurd e f1.yes) (fun e => e (.inr f3.yes)))]
                exact ⟨rfl, trivial⟩
            · cbv
              rw [bad_of hc (fun e => by
                have := (e.2.2.1 _ _ _ hx hy).out
                exact this.elim (fun e => absurd e f1.yes) (fun e => e (.inl f2.yes)))]
              exact ⟨rfl, trivial⟩
end Go.Proofs.YtpflimghkckpjaaGreatDoor.B
