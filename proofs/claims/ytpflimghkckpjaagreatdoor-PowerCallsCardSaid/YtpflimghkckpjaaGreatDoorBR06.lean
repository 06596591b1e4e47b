/-
The reference of power, walked: Plain, Numbers, MayLevels.
-/
import Derived.Test.YtpflimghkckpjaaGreatDoorBLib
set_option linter.unusedVariables false
set_option linter.unusedSimpArgs false
namespace Go.Proofs.YtpflimghkckpjaaGreatDoor.B
open Go.RowKit
def encI (n : Int) : List PV := [.lit (.int .i64 n)]
set_option maxRecDepth 100000 in
set_option maxHeartbeats 2000000 in
theorem rPlain_ac {G : World → Prop} (hst : Stable G) : ACalls G Tryz.prog 60 [] (encLv [] [] 0 0 50 50 50 50 0) none := by
  refine acalls_fn hst mixed tau_ok Tryz.func60 (by kernel_rfl) (by kernel_rfl) (by kernel_rfl) ?_
  intro Q hQ
  cbv
  try first | exact ⟨rfl, trivial⟩ | exact Or.inr trivial | exact Or.inl rfl
set_option maxRecDepth 100000 in
set_option maxHeartbeats 2000000 in
theorem rNumbers_ac {G : World → Prop} (hst : Stable G) (X Y : List (List PV)) (a2 a3 a4 a5 a6 a7 a8 : Int) :
    ACalls G Tryz.prog 58 [encLv X Y a2 a3 a4 a5 a6 a7 a8] (.sl [[.lit (.int .i64 a2)], [.lit (.int .i64 a3)], [.lit (.int .i64 a4)], [.lit (.int .i64 a5)], [.lit (.int .i64 a6)], [.lit (.int .i64 a7)], [.lit (.int .i64 a8)]]) (some (2, 1)) := by
  refine acalls_fn hst mixed tau_ok Tryz.func58 (by kernel_rfl) (by kernel_rfl) (by kernel_rfl) ?_
  intro Q hQ
  cbv
  try first | exact ⟨rfl, trivial⟩ | exact Or.inr trivial | exact Or.inl rfl
def KeyOK (p : ByteArray → Bool) (l : List (ByteArray × Int)) (x : Nat) : Prop :=
  ∀ q, l[x]? = some q → p q.1 = true ∧ (0 < x → ∀ q', l[x - 1]? = some q' → Op.bytesLess q'.1.toList q.1.toList = true)
structure MayOK (pU pV : ByteArray → Bool) (l0 l1 : List (ByteArray × Int)) (a2 a3 a4 a5 a6 a7 a8 : Int) : Prop where
  u : ∀ x, x < l0.length → KeyOK pU l0 x
  t : ∀ x, x < l1.length → KeyOK pV l1 x
  n : ∀ n, n ∈ [a2, a3, a4, a5, a6, a7, a8] ++ l0.map (·.2) ++ l1.map (·.2) → -9007199254740991 ≤ n ∧ n ≤ 9007199254740991
structure NumsTo (L0 : List (List PV)) (l : List (ByteArray × Int)) (k : Int) (L : List (List PV)) : Prop where
  out : L = L0 ++ (l.take k.toNat).map (fun p => encI p.2)
theorem NumsTo.next {L0 L M : List (List PV)} {l : List (ByteArray × Int)} {k : Int} (h : NumsTo L0 l k L) (h0 : 0 ≤ k) {p : ByteArray × Int} (hp : l[k.toNat]? = some p) (hM : Is M (fun _ => L ++ [[.lit (.int .i64 p.2)]])) : NumsTo L0 l (k + 1) M := by
  refine ⟨?_⟩
  have e : (k + 1).toNat = k.toNat + 1 := by omega
  rw [hM.out, h.out, e, List.take_add_one, hp]
  simp [encI]
theorem NumsTo.len {L0 L : List (List PV)} {l : List (ByteArray × Int)} {k : Int} (h : NumsTo L0 l k L) : L.length ≤ L0.length + l.length := by
  rw [h.out]
  simp
  omega
theorem NumsTo.one {L0 L : List (List PV)} {l : List (ByteArray × Int)} {k : Int} (h : NumsTo L0 l k L) (h0 : ∀ r, r ∈ L0 → r.length = 1) : ∀ r, r ∈ L → r.length = 1 := by
  intro r hr
  rw [h.out, List.mem_append] at hr
  rcases hr with hr | hr
  · exact h0 r hr
  · obtain ⟨p, _, rfl⟩ := List.mem_map.1 hr
    rfl
theorem NumsTo.full {L0 L : List (List PV)} {l : List (ByteArray × Int)} {k : Int} (h : NumsTo L0 l k L) (hk : ¬ k < l.length) : L = L0 ++ l.map (fun p => encI p.2) := by
  rw [h.out, List.take_of_length_le (by omega)]
theorem no_of {c : Bool} {p : Prop} (hc : c = true ↔ p) (h : ¬ p) : c = false := by
  cases c with
  | false => rfl
  | true => exact absurd (hc.1 rfl) h
set_option maxRecDepth 100000 in
set_option maxHeartbeats 8000000 in
theorem rMay_ok {G : World → Prop} (hst : Stable G) (X Y : List (List PV)) (l0 l1 : List (ByteArray × Int)) (hX : l0.map encE = X) (hY : l1.map encE = Y) (hl0 : l0.length ≤ 1000000) (hl1 : l1.length ≤ 1000000) (a2 a3 a4 a5 a6 a7 a8 : Int) (pU pV : ByteArray → Bool) (hU : ∀ q, q ∈ l0 → ACalls G Tryz.prog 61 [.lit (.string q.1)] (.lit (.bool (pU q.1))) none)
    (hV : ∀ q, q ∈ l1 → ACalls G Tryz.prog 98 [.lit (.string q.1)] (.lit (.bool (pV q.1))) none) (c : Bool) (hc : c = true ↔ MayOK pU pV l0 l1 a2 a3 a4 a5 a6 a7 a8) :
    ACalls G Tryz.prog 57 [encLv X Y a2 a3 a4 a5 a6 a7 a8] (.lit (.bool c)) none := by
  have hXl : X.length = l0.length := by rw [← hX]; simp
  have hYl : Y.length = l1.length := by rw [← hY]; simp
  refine acalls_fn hst mixed tau_ok Tryz.func57 (by kernel_rfl) (by kernel_rfl) (by kernel_rfl) ?_
  intro Q hQ
  cbv
  refine ⟨_, _, hQ _ _ _ _ (rNumbers_ac hst X Y a2 a3 a4 a5 a6 a7 a8), ?_⟩
  cbv
  refine ⟨[1], [1], Int × List (List PV), fun z => [(.t 4, ⟨.pv (.lit (.int .i64 z.1)), none, none⟩), (.t 3, ⟨.pv (.sl z.2), some (2, 1), none⟩)], fun z => Upto X.length (KeyOK pU l0) z.1 ∧ NumsTo [[.lit (.int .i64 a2)], [.lit (.int .i64 a3)], [.lit (.int .i64 a4)], [.lit (.int .i64 a5)], [.lit (.int .i64 a6)], [.lit (.int .i64 a7)], [.lit (.int .i64 a8)]] l0 z.1 z.2, fun z => X.length - z.1.toNat, (0, [[.lit (.int .i64 a2)], [.lit (.int .i64 a3)], [.lit (.int .i64 a4)], [.lit (.int .i64 a5)], [.lit (.int .i64 a6)], [.lit (.int .i64 a7)], [.lit (.int .i64 a8)]]), ⟨Upto.zero, ⟨by simp⟩⟩, ?_, ?_⟩
  · cbv
    simp
  · rintro ⟨k, M⟩ ⟨hk, hM⟩
    replace hk : Upto X.length (KeyOK pU l0) k := hk
    replace hM : NumsTo [[.lit (.int .i64 a2)], [.lit (.int .i64 a3)], [.lit (.int .i64 a4)], [.lit (.int .i64 a5)], [.lit (.int .i64 a6)], [.lit (.int .i64 a7)], [.lit (.int .i64 a8)]] l0 k M := hM
    cbv
    intro m1 h1
    cbv
    intro c1 h2
    cbv
    have e1 := h1.len
    have h0 := hk.lo
    cases c1
    · cbv
      have h := h2.no
      rw [e1] at h
      have hAllu : ∀ x, x < l0.length → KeyOK pU l0 x := fun x hx => hk.full h x (by rw [hXl]; exact hx)
      have hFullu := hM.full (by rw [← hXl]; exact h)
      have hOneu := hM.one (by simp)
      have hLenu := hM.len
      clear hk hM h1 h2 h h0 e1
      refine ⟨[1], [1], Int × List (List PV), fun z => [(.t 5, ⟨.pv (.lit (.int .i64 z.1)), none, none⟩), (.t 3, ⟨.pv (.sl z.2), some (2, 1), none⟩)], fun z => Upto Y.length (KeyOK pV l1) z.1 ∧ NumsTo M l1 z.1 z.2, fun z => Y.length - z.1.toNat, (0, M), ⟨Upto.zero, ⟨by simp⟩⟩, ?_, ?_⟩
      · cbv
        simp
      · rintro ⟨k, M2⟩ ⟨hk, hM2⟩
        replace hk : Upto Y.length (KeyOK pV l1) k := hk
        replace hM2 : NumsTo M l1 k M2 := hM2
        cbv
        intro m1 h1
        cbv
        intro c1 h2
        cbv
        have e1 := h1.len
        have h0 := hk.lo
        cases c1
        · cbv
          have h := h2.no
          rw [e1] at h
          have hAllt : ∀ x, x < l1.length → KeyOK pV l1 x := fun x hx => hk.full h x (by rw [hYl]; exact hx)
          have hFullt := hM2.full (by rw [← hYl]; exact h)
          have hOnet := hM2.one hOneu
          have hLent := hM2.len
          clear hk hM2 h1 h2 h h0 e1
          have hW : ([a2, a3, a4, a5, a6, a7, a8] ++ l0.map (·.2) ++ l1.map (·.2)).map encI = M2 := by
            rw [hFullt, hFullu]
            simp only [List.map_append, List.map_map, List.map_cons, List.map_nil]
            rfl
          have hN : ∀ n, n ∈ [a2, a3, a4, a5, a6, a7, a8] ++ l0.map (·.2) ++ l1.map (·.2) → c = true → -9007199254740991 ≤ n ∧ n ≤ 9007199254740991 := fun n hn h => (hc.1 h).n n hn
          have hC : (∀ n, n ∈ [a2, a3, a4, a5, a6, a7, a8] ++ l0.map (·.2) ++ l1.map (·.2) → -9007199254740991 ≤ n ∧ n ≤ 9007199254740991) → c = true := fun h => hc.2 ⟨hAllu, hAllt, h⟩
          have hWl : M2.length ≤ 3000000 := by
            simp only [List.length_cons, List.length_nil] at hLenu
            omega
          clear hFullt hFullu hOnet hOneu hLent hLenu hc hU hV
          generalize [a2, a3, a4, a5, a6, a7, a8] ++ l0.map (·.2) ++ l1.map (·.2) = V at hW hN hC
          have hVl : M2.length = V.length := by rw [← hW]; simp
          refine ⟨[3], [], Int, fun k => [(.t 6, ⟨.pv (.lit (.int .i64 k)), none, none⟩)], Upto M2.length (fun x => ∀ n, V[x]? = some n → -9007199254740991 ≤ n ∧ n ≤ 9007199254740991), fun k => M2.length - k.toNat, 0, Upto.zero, ?_, ?_⟩
          · cbv
            simp
          · intro k hk
            cbv
            intro m1 h1
            cbv
            intro c1 h2
            cbv
            have e1 := h1.len
            have h0 := hk.lo
            cases c1
            · cbv
              have h := h2.no
              rw [e1] at h
              rw [hC (fun n hn => by
                obtain ⟨x, hx, rfl⟩ := List.getElem_of_mem hn
                exact hk.full h x (by rw [hVl]; exact hx) _ (List.getElem?_eq_getElem hx))]
              exact ⟨rfl, trivial⟩
            · have h := h2.yes
              rw [e1] at h
              cbv
              refine ⟨Is.at h0 h, ?_⟩
              intro r hr
              obtain ⟨n, hx, rfl⟩ := hr.row hW
              have hmem := List.mem_of_getElem? hx
              cbv
              intro c2 h3
              cbv
              cases c2
              · cbv
                refine ⟨Is.at h0 h, ?_⟩
                intro r2 hr2
                obtain ⟨n2, hx2, rfl⟩ := hr2.row hW
                rw [hx] at hx2
                cases hx2
                cbv
                intro c3 h4
                cbv
                cases c3
                · cbv
                  intro m9 h9
                  have e9 := h9.inc h0 h (by omega)
                  cbv
                  refine ⟨m9, by rw [e9]; exact hk.next h (fun q hq => by
                    rw [hx] at hq
                    cases hq
                    have := h3.no
                    have := h4.no
                    omega), by rw [e9]; exact less h0 h, ?_⟩
                  cbv
                  simp
                · cbv
                  have : c = false := by
                    cases c with
                    | false => rfl
                    | true =>
                      have := hN n hmem rfl
                      have := h4.yes
                      omega
                  rw [this]
                  exact ⟨rfl, trivial⟩
              · cbv
                have : c = false := by
                  cases c with
                  | false => rfl
                  | true =>
                    have := hN n hmem rfl
                    have := h3.yes
                    omega
                rw [this]
                exact ⟨rfl, trivial⟩
        · have h := h2.yes
          rw [e1] at h
          cbv
          refine ⟨Is.at h0 h, ?_⟩
          intro r hr
          obtain ⟨⟨u, un⟩, hx, rfl⟩ := hr.row hY
          have hlt : k.toNat < l1.length := (List.getElem?_eq_some_iff.1 hx).1
          have hcall := hV (u, un) (List.mem_of_getElem? hx)
          replace hcall : ACalls G Tryz.prog 98 [.lit (.string u)] (.lit (.bool (pV u))) none := hcall
          generalize hp : pV u = p at hcall
          cbv
          refine ⟨_, _, hQ _ _ _ _ hcall, ?_⟩
          cbv
          intro nb hn
          cases p
          · obtain rfl : nb = true := hn.out
            cbv
            rw [no_of hc (fun hm => by
              have := (hm.t _ hlt (u, un) hx).1
              rw [hp] at this
              cases this)]
            exact ⟨rfl, trivial⟩
          · obtain rfl : nb = false := hn.out
            cbv
            intro c2 h3
            cases c2
            · have hz : ¬ 0 < k.toNat := by
                have := h3.no
                omega
              have hkey : KeyOK pV l1 k.toNat := fun q hq => by
                rw [hx] at hq
                cases hq
                exact ⟨hp, fun h => absurd h hz⟩
              cbv
              refine ⟨Is.at h0 h, ?_⟩
              intro r5 hr5
              obtain ⟨⟨u5, un5⟩, hx5, rfl⟩ := hr5.row hY
              rw [hx] at hx5
              cases hx5
              cbv
              refine ⟨⟨⟨?_, ?_, ?_⟩⟩, ?_⟩
              · have := hM2.len
                have hB : True := trivial
                simp only [List.length_cons, List.length_nil] at *
                omega
              · exact hM2.one hOneu
              · intro r hr
                simp at hr
                subst hr
                rfl
              · intro M9 hM9
                cbv
                intro m9 h9
                have e9 := h9.inc h0 h (by omega)
                cbv
                refine ⟨(m9, M9), ⟨by rw [e9]; exact hk.next h hkey, by rw [e9]; exact hM2.next h0 hx hM9⟩, by rw [e9]; exact less h0 h, ?_⟩
                cbv
                simp
            · have hz := h3.yes
              cbv
              intro m3 h5
              have e3 := h5.i64 (by omega) (by omega)
              cbv
              refine ⟨Is.at (by omega) (by omega), ?_⟩
              intro r3 hr3
              obtain ⟨⟨v, vn⟩, hv, rfl⟩ := hr3.row hY
              cbv
              refine ⟨Is.at h0 h, ?_⟩
              intro r4 hr4
              obtain ⟨⟨u4, un4⟩, hx4, rfl⟩ := hr4.row hY
              rw [hx] at hx4
              cases hx4
              cbv
              intro c3 h6
              have hv' : l1[k.toNat - 1]? = some (v, vn) := by
                rw [← hv]
                congr 1
                omega
              have h6 := h6.out
              cases c3
              · have hkey : KeyOK pV l1 k.toNat := fun q hq => by
                  rw [hx] at hq
                  cases hq
                  refine ⟨hp, fun h q' hq' => ?_⟩
                  rw [hv'] at hq'
                  cases hq'
                  simpa using h6
                cbv
                refine ⟨Is.at h0 h, ?_⟩
                intro r5 hr5
                obtain ⟨⟨u5, un5⟩, hx5, rfl⟩ := hr5.row hY
                rw [hx] at hx5
                cases hx5
                cbv
                refine ⟨⟨⟨?_, ?_, ?_⟩⟩, ?_⟩
                · have := hM2.len
                  have hB : True := trivial
                  simp only [List.length_cons, List.length_nil] at *
                  omega
                · exact hM2.one hOneu
                · intro r hr
                  simp at hr
                  subst hr
                  rfl
                · intro M9 hM9
                  cbv
                  intro m9 h9
                  have e9 := h9.inc h0 h (by omega)
                  cbv
                  refine ⟨(m9, M9), ⟨by rw [e9]; exact hk.next h hkey, by rw [e9]; exact hM2.next h0 hx hM9⟩, by rw [e9]; exact less h0 h, ?_⟩
                  cbv
                  simp
              · cbv
                rw [no_of hc (fun hm => by
                  have := (hm.t _ hlt (u, un) hx).2 (by omega) _ hv'
                  simp [this] at h6)]
                exact ⟨rfl, trivial⟩
    · have h := h2.yes
      rw [e1] at h
      cbv
      refine ⟨Is.at h0 h, ?_⟩
      intro r hr
      obtain ⟨⟨u, un⟩, hx, rfl⟩ := hr.row hX
      have hlt : k.toNat < l0.length := (List.getElem?_eq_some_iff.1 hx).1
      have hcall := hU (u, un) (List.mem_of_getElem? hx)
      replace hcall : ACalls G Tryz.prog 61 [.lit (.string u)] (.lit (.bool (pU u))) none := hcall
      generalize hp : pU u = p at hcall
      cbv
      refine ⟨_, _, hQ _ _ _ _ hcall, ?_⟩
      cbv
      intro nb hn
      cases p
      · obtain rfl : nb = true := hn.out
        cbv
        rw [no_of hc (fun hm => by
          have := (hm.u _ hlt (u, un) hx).1
          rw [hp] at this
          cases this)]
        exact ⟨rfl, trivial⟩
      · obtain rfl : nb = false := hn.out
        cbv
        intro c2 h3
        cases c2
        · have hz : ¬ 0 < k.toNat := by
            have := h3.no
            omega
          have hkey : KeyOK pU l0 k.toNat := fun q hq => by
            rw [hx] at hq
            cases hq
            exact ⟨hp, fun h => absurd h hz⟩
          cbv
          refine ⟨Is.at h0 h, ?_⟩
          intro r5 hr5
          obtain ⟨⟨u5, un5⟩, hx5, rfl⟩ := hr5.row hX
          rw [hx] at hx5
          cases hx5
          cbv
          refine ⟨⟨⟨?_, ?_, ?_⟩⟩, ?_⟩
          · have := hM.len
            have hB : True := trivial
            simp only [List.length_cons, List.length_nil] at *
            omega
          · exact hM.one (by simp)
          · intro r hr
            simp at hr
            subst hr
            rfl
          · intro M9 hM9
            cbv
            intro m9 h9
            have e9 := h9.inc h0 h (by omega)
            cbv
            refine ⟨(m9, M9), ⟨by rw [e9]; exact hk.next h hkey, by rw [e9]; exact hM.next h0 hx hM9⟩, by rw [e9]; exact less h0 h, ?_⟩
            cbv
            simp
        · have hz := h3.yes
          cbv
          intro m3 h5
          have e3 := h5.i64 (by omega) (by omega)
          cbv
          refine ⟨Is.at (by omega) (by omega), ?_⟩
          intro r3 hr3
          obtain ⟨⟨v, vn⟩, hv, rfl⟩ := hr3.row hX
          cbv
          refine ⟨Is.at h0 h, ?_⟩
          intro r4 hr4
          obtain ⟨⟨u4, un4⟩, hx4, rfl⟩ := hr4.row hX
          rw [hx] at hx4
          cases hx4
          cbv
          intro c3 h6
          have hv' : l0[k.toNat - 1]? = some (v, vn) := by
            rw [← hv]
            congr 1
            omega
          have h6 := h6.out
          cases c3
          · have hkey : KeyOK pU l0 k.toNat := fun q hq => by
              rw [hx] at hq
              cases hq
              refine ⟨hp, fun h q' hq' => ?_⟩
              rw [hv'] at hq'
              cases hq'
              simpa using h6
            cbv
            refine ⟨Is.at h0 h, ?_⟩
            intro r5 hr5
            obtain ⟨⟨u5, un5⟩, hx5, rfl⟩ := hr5.row hX
            rw [hx] at hx5
            cases hx5
            cbv
            refine ⟨⟨⟨?_, ?_, ?_⟩⟩, ?_⟩
            · have := hM.len
              have hB : True := trivial
              simp only [List.length_cons, List.length_nil] at *
              omega
            · exact hM.one (by simp)
            · intro r hr
              simp at hr
              subst hr
              rfl
            · intro M9 hM9
              cbv
              intro m9 h9
              have e9 := h9.inc h0 h (by omega)
              cbv
              refine ⟨(m9, M9), ⟨by rw [e9]; exact hk.next h hkey, by rw [e9]; exact hM.next h0 hx hM9⟩, by rw [e9]; exact less h0 h, ?_⟩
              cbv
              simp
          · cbv
            rw [no_of hc (fun hm => by
              have := (hm.u _ hlt (u, un) hx).2 (by omega) _ hv'
              simp [this] at h6)]
            exact ⟨rfl, trivial⟩
end Go.Proofs.YtpflimghkckpjaaGreatDoor.B
