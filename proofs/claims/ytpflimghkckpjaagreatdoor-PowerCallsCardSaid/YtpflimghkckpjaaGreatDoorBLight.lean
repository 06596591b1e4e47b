/-
The law's helper LightLevels, walked.
-/
import Derived.Test.YtpflimghkckpjaaGreatDoorBSame
set_option linter.unusedVariables false
set_option linter.unusedSimpArgs false
namespace Go.Proofs.YtpflimghkckpjaaGreatDoor.B
open Go.RowKit
structure MinIs (n a : Nat) : Prop where
  out : n = min a 31
theorem no_iff {c : Bool} {p : Prop} (hc : c = true ↔ p) (h : ¬ p) : c = false := by
  cases c with
  | false => rfl
  | true => exact absurd (hc.1 rfl) h
set_option maxRecDepth 100000 in
set_option maxHeartbeats 4000000 in
theorem light_ac {G : World → Prop} (hst : Stable G) (X Y : List (List PV)) (l0 l1 : List (ByteArray × Int)) (hX : l0.map encE = X) (hY : l1.map encE = Y) (a2 a3 a4 a5 a6 a7 a8 : Int) (c : Bool) (hc : c = true ↔ Light l0 l1) :
    ACalls G Tryz.prog 10 [encLv X Y a2 a3 a4 a5 a6 a7 a8] (.lit (.bool c)) none := by
  have hXl : X.length = l0.length := by rw [← hX]; simp
  have hYl : Y.length = l1.length := by rw [← hY]; simp
  refine acalls_fn hst mixed tau_ok Tryz.func10 (by kernel_rfl) (by kernel_rfl) (by kernel_rfl) ?_
  intro Q hQ
  cbv
  obtain ⟨nu, hnu⟩ : ∃ n, MinIs n X.length := ⟨_, ⟨rfl⟩⟩
  refine ⟨[1], [1], Int, fun k => [(.t 3, ⟨.pv (.lit (.int .i64 k)), none, none⟩)], Upto nu (SmallAt l0), fun k => nu - k.toNat, 0, Upto.zero, ?_, ?_⟩
  · cbv
    simp
  · intro k hk
    cbv
    intro m1 h1
    cbv
    intro c1 h2
    cbv
    have e1 := h1.len
    have h0 := hk.lo
    cases c1
    · have houtu : ∀ x, x < l0.length → l0.length ≤ 30 → SmallAt l0 x := fun x hx hl => hk.full (by have := h2.no; have := hnu.out; have := h1.len; omega) x (by have := hnu.out; omega)
      cbv
      obtain ⟨nt, hnt⟩ : ∃ n, MinIs n Y.length := ⟨_, ⟨rfl⟩⟩
      refine ⟨[1], [1], Int, fun k => [(.t 4, ⟨.pv (.lit (.int .i64 k)), none, none⟩)], Upto nt (SmallAt l1), fun k => nt - k.toNat, 0, Upto.zero, ?_, ?_⟩
      · cbv
        simp
      · intro k hk
        cbv
        intro m1 h1
        cbv
        intro c1 h2
        cbv
        have e1 := h1.len
        have h0 := hk.lo
        cases c1
        · have houtt : ∀ x, x < l1.length → l1.length ≤ 30 → SmallAt l1 x := fun x hx hl => hk.full (by have := h2.no; have := hnt.out; have := h1.len; omega) x (by have := hnt.out; omega)
          cbv
          intro m4 h6
          cbv
          intro c4 h7
          cbv
          cases c4
          · cbv
            rw [no_iff hc (fun hm => by
              have := hm.n0
              have := h7.no
              have := h6.len
              omega)]
            exact ⟨rfl, trivial⟩
          · cbv
            intro m5 h8
            cbv
            intro c5 h9
            cbv
            cases c5
            · cbv
              rw [no_iff hc (fun hm => by
                have := hm.n1
                have := h9.no
                have := h8.len
                omega)]
              exact ⟨rfl, trivial⟩
            · cbv
              have h7 := h7.yes
              have h9 := h9.yes
              have e4 := h6.len
              have e5 := h8.len
              rw [hc.2 ⟨by omega, by omega, fun x hx => houtu x hx (by omega), fun x hx => houtt x hx (by omega)⟩]
              exact ⟨rfl, trivial⟩
        · cbv
          intro c2 h3
          cbv
          cases c2
          · have houtt : ∀ x, x < l1.length → l1.length ≤ 30 → SmallAt l1 x := fun x hx hl => hk.full (by have := hnt.out; have := h3.no; have := h1.len; have := h2.yes; omega) x (by have := hnt.out; omega)
            cbv
            intro m4 h6
            cbv
            intro c4 h7
            cbv
            cases c4
            · cbv
              rw [no_iff hc (fun hm => by
                have := hm.n0
                have := h7.no
                have := h6.len
                omega)]
              exact ⟨rfl, trivial⟩
            · cbv
              intro m5 h8
              cbv
              intro c5 h9
              cbv
              cases c5
              · cbv
                rw [no_iff hc (fun hm => by
                  have := hm.n1
                  have := h9.no
                  have := h8.len
                  omega)]
                exact ⟨rfl, trivial⟩
              · cbv
                have h7 := h7.yes
                have h9 := h9.yes
                have e4 := h6.len
                have e5 := h8.len
                rw [hc.2 ⟨by omega, by omega, fun x hx => houtu x hx (by omega), fun x hx => houtt x hx (by omega)⟩]
                exact ⟨rfl, trivial⟩
          · have hlt : k < Y.length := by have := h2.yes; have := h1.len; omega
            have hlt2 : k < 31 := h3.yes
            have hltn : k < nt := by have := hnt.out; omega
            cbv
            refine ⟨Is.at h0 hlt, ?_⟩
            intro r hr
            obtain ⟨⟨u, un⟩, hx, rfl⟩ := hr.row hY
            cbv
            intro m2 h4
            cbv
            intro c3 h5
            cbv
            cases c3
            · cbv
              intro m9 h9
              have e9 := h9.i64 (by omega) (by omega)
              cbv
              refine ⟨m9, by rw [e9]; exact hk.next hltn (fun q hq => by
                rw [hx] at hq
                cases hq
                have := h5.no
                have := h4.len
                simp only
                omega), by rw [e9]; exact less h0 hltn, ?_⟩
              cbv
              simp
            · cbv
              rw [no_iff hc (fun hm => by
                have := hm.s1 k.toNat (List.getElem?_eq_some_iff.1 hx).1 _ hx
                have h5 := h5.yes
                have h4 := h4.len
                simp only at this
                omega)]
              exact ⟨rfl, trivial⟩
    · cbv
      intro c2 h3
      cbv
      cases c2
      · have houtu : ∀ x, x < l0.length → l0.length ≤ 30 → SmallAt l0 x := fun x hx hl => hk.full (by have := hnu.out; have := h3.no; have := h1.len; have := h2.yes; omega) x (by have := hnu.out; omega)
        cbv
        obtain ⟨nt, hnt⟩ : ∃ n, MinIs n Y.length := ⟨_, ⟨rfl⟩⟩
        refine ⟨[1], [1], Int, fun k => [(.t 4, ⟨.pv (.lit (.int .i64 k)), none, none⟩)], Upto nt (SmallAt l1), fun k => nt - k.toNat, 0, Upto.zero, ?_, ?_⟩
        · cbv
          simp
        · intro k hk
          cbv
          intro m1 h1
          cbv
          intro c1 h2
          cbv
          have e1 := h1.len
          have h0 := hk.lo
          cases c1
          · have houtt : ∀ x, x < l1.length → l1.length ≤ 30 → SmallAt l1 x := fun x hx hl => hk.full (by have := h2.no; have := hnt.out; have := h1.len; omega) x (by have := hnt.out; omega)
            cbv
            intro m4 h6
            cbv
            intro c4 h7
            cbv
            cases c4
            · cbv
              rw [no_iff hc (fun hm => by
                have := hm.n0
                have := h7.no
                have := h6.len
                omega)]
              exact ⟨rfl, trivial⟩
            · cbv
              intro m5 h8
              cbv
              intro c5 h9
              cbv
              cases c5
              · cbv
                rw [no_iff hc (fun hm => by
                  have := hm.n1
                  have := h9.no
                  have := h8.len
                  omega)]
                exact ⟨rfl, trivial⟩
              · cbv
                have h7 := h7.yes
                have h9 := h9.yes
                have e4 := h6.len
                have e5 := h8.len
                rw [hc.2 ⟨by omega, by omega, fun x hx => houtu x hx (by omega), fun x hx => houtt x hx (by omega)⟩]
                exact ⟨rfl, trivial⟩
          · cbv
            intro c2 h3
            cbv
            cases c2
            · have houtt : ∀ x, x < l1.length → l1.length ≤ 30 → SmallAt l1 x := fun x hx hl => hk.full (by have := hnt.out; have := h3.no; have := h1.len; have := h2.yes; omega) x (by have := hnt.out; omega)
              cbv
              intro m4 h6
              cbv
              intro c4 h7
              cbv
              cases c4
              · cbv
                rw [no_iff hc (fun hm => by
                  have := hm.n0
                  have := h7.no
                  have := h6.len
                  omega)]
                exact ⟨rfl, trivial⟩
              · cbv
                intro m5 h8
                cbv
                intro c5 h9
                cbv
                cases c5
                · cbv
                  rw [no_iff hc (fun hm => by
                    have := hm.n1
                    have := h9.no
                    have := h8.len
                    omega)]
                  exact ⟨rfl, trivial⟩
                · cbv
                  have h7 := h7.yes
                  have h9 := h9.yes
                  have e4 := h6.len
                  have e5 := h8.len
                  rw [hc.2 ⟨by omega, by omega, fun x hx => houtu x hx (by omega), fun x hx => houtt x hx (by omega)⟩]
                  exact ⟨rfl, trivial⟩
            · have hlt : k < Y.length := by have := h2.yes; have := h1.len; omega
              have hlt2 : k < 31 := h3.yes
              have hltn : k < nt := by have := hnt.out; omega
              cbv
              refine ⟨Is.at h0 hlt, ?_⟩
              intro r hr
              obtain ⟨⟨u, un⟩, hx, rfl⟩ := hr.row hY
              cbv
              intro m2 h4
              cbv
              intro c3 h5
              cbv
              cases c3
              · cbv
                intro m9 h9
                have e9 := h9.i64 (by omega) (by omega)
                cbv
                refine ⟨m9, by rw [e9]; exact hk.next hltn (fun q hq => by
                  rw [hx] at hq
                  cases hq
                  have := h5.no
                  have := h4.len
                  simp only
                  omega), by rw [e9]; exact less h0 hltn, ?_⟩
                cbv
                simp
              · cbv
                rw [no_iff hc (fun hm => by
                  have := hm.s1 k.toNat (List.getElem?_eq_some_iff.1 hx).1 _ hx
                  have h5 := h5.yes
                  have h4 := h4.len
                  simp only at this
                  omega)]
                exact ⟨rfl, trivial⟩
      · have hlt : k < X.length := by have := h2.yes; have := h1.len; omega
        have hlt2 : k < 31 := h3.yes
        have hltn : k < nu := by have := hnu.out; omega
        cbv
        refine ⟨Is.at h0 hlt, ?_⟩
        intro r hr
        obtain ⟨⟨u, un⟩, hx, rfl⟩ := hr.row hX
        cbv
        intro m2 h4
        cbv
        intro c3 h5
        cbv
        cases c3
        · cbv
          intro m9 h9
          have e9 := h9.i64 (by omega) (by omega)
          cbv
          refine ⟨m9, by rw [e9]; exact hk.next hltn (fun q hq => by
            rw [hx] at hq
            cases hq
            have := h5.no
            have := h4.len
            simp only
            omega), by rw [e9]; exact less h0 hltn, ?_⟩
          cbv
          simp
        · cbv
          rw [no_iff hc (fun hm => by
            have := hm.s0 k.toNat (List.getElem?_eq_some_iff.1 hx).1 _ hx
            have h5 := h5.yes
            have h4 := h4.len
            simp only at this
            omega)]
          exact ⟨rfl, trivial⟩
end Go.Proofs.YtpflimghkckpjaaGreatDoor.B
