/-
The logic of pure values, continued: the operations, memory. Condition: none.
-/
import Derived.Test.YtbjfmkmaghapgaaGreatDoorBOk
set_option linter.unusedVariables false
set_option linter.unusedSimpArgs false
namespace Go.Proofs.YtbjfmkmaghapgaaGreatDoor.B
open Go.RowKit

theorem upds_append (g : Key → C) : ∀ (a b : List (Key × C)), upds g (a ++ b) = upds (upds g a) b
  | [], b => rfl
  | (κ, c) :: a, b => upds_append (upd g κ c) a b
theorem upds_none' : ∀ {ws : List (Key × C)} {g : Key → C} {κ : Key}, κ ∉ keysOf ws → upds g ws κ = g κ
  | [], g, κ, _ => rfl
  | (k, c) :: ws, g, κ, h => by
    have h' : κ ∉ k :: keysOf ws := h
    rw [List.mem_cons, not_or] at h'
    show upds (upd g k c) ws κ = _
    rw [upds_none' h'.2, upd_ne _ _ h'.1]
theorem keysOf_append : ∀ (a b : List (Key × C)), keysOf (a ++ b) = keysOf a ++ keysOf b
  | [], b => rfl
  | (κ, c) :: a, b => by simp [keysOf, keysOf_append a b]
section
variable {G : World → Prop} {P : Program} {τ : Tau} {Dr : Prop} {w0 : World} {E0 : Nat → Nat → Prop} {S0 : Nat → Nat → Prop} {N : Nat} {wr : Key → Bool} {g : Key → C} {a : Act} {w : World} {β : Nat → Nat} {S : Nat → Nat → Prop}
theorem run_isAggD (hτ : TauOK P τ) {t : TypeId} {ti : TI} (h : τ t = some ti) (w : World) : (isAgg t).run P w = .ok (isAggD ti.desc) w := by
  unfold isAgg
  rw [Sem.run_bind, run_underlying (hτ.u t ti h) w]
  cases ti.desc <;> rfl
theorem run_sizeD (hτ : TauOK P τ) {t : TypeId} {ti : TI} (h : τ t = some ti) (w : World) : (sizeOf t).run P w = .ok ti.size w := by
  obtain ⟨i, h1, h2, _⟩ := hτ.i t ti h
  simp [sizeOf, typeInfo, h1, h2]
theorem run_zeroD (hτ : TauOK P τ) {t : TypeId} {ti : TI} (h : τ t = some ti) (w : World) : (zeroValue t).run P w = .ok ti.zero w := by
  obtain ⟨i, h1, _, _, h2⟩ := hτ.i t ti h
  simp [zeroValue, typeInfo, h1, h2]
section
variable {o : Oper} {K : Act → World → Prop} {Q : Exit → Act → World → Prop} {ws : List (Key × C)}
theorem row_evN {xs : List (List PV)} {r : Nat} {f : List PV → T} {K : List Key → List (Key × C) → Prop} (he : vcT G P (.row xs (r : Int) f) g wr K) : ∃ row, xs[r]? = some row ∧ vcT G P (f row) g wr K := by
  have hr := List.getElem?_eq_getElem he.1.out.2
  exact ⟨_, by rw [← hr, Int.toNat_natCast], he.2 _ ⟨hr.symm⟩⟩
/-! ### variables in memory -/
theorem box_fin {d : Tmp} {cs : List PV} {vs : Array Value} {T : TypeId} (hdst : o.dst = some d) (h : Rel Dr w0 E0 S0 N (fun κ => wr κ = true) g a w β S) (hp : PtrOK g) (hd : dstOK N o = true) (hN : Next Dr w0 E0 S0 N wr g ws K)
    (hrun : (execOp a.eval o).run P w = .ok (.value (.pointer (some ⟨w.heap.size, 0, none⟩))) (w.alloc (.cells vs T))) (hlen : vs.size = cs.length)
    (hrep : ∀ (o : Nat) v x, vs[o]? = some v → cs[o]? = some x → RepP S w v x) (he : vcT G P (tBox d cs) g wr (fun _ v => v = ws)) : o.wp P a w K Q := by
  have he' : vcT G P (if (g (.al (boxId d cs.length))).v.isNo = true ∧ Nat.blt d 10000 = true then .ret ((.al (boxId d cs.length), liveC) :: (boxW (boxId d cs.length) 0 cs ++ [(.t d, ⟨.ptr (boxId d cs.length) 0, none, none⟩)])) else .fail) g wr (fun _ v => v = ws) := he
  by_cases hu0 : (g (.al (boxId d cs.length))).v.isNo = true ∧ Nat.blt d 10000 = true
  · rw [if_pos hu0] at he'
    obtain ⟨hu, hd4⟩ := hu0
    have hd4' : d < 10000 := by simpa [Nat.blt_eq] using hd4
    have hid : handId (boxId d cs.length) = false := boxId_hand hd4'
    have hsc : ∀ o, o < cs.length → isCell (boxId d cs.length) o = true := fun o ho => boxId_cell hd4' ho
    generalize boxId d cs.length = B at he' hu hid hsc
    have hws : (.al B, liveC) :: (boxW B 0 cs ++ [(Key.t d, (⟨.ptr B 0, none, none⟩ : C))]) = ws := he'
    have hfree : (g (.al B)).v = .un := by cases hv : (g (.al B)).v <;> rw [hv] at hu <;> first | rfl | cases hu
    obtain ⟨β', hβ, h1, _⟩ := h.alloc hid hp hfree vs T cs hlen hsc hrep
    unfold Oper.wp
    rw [hrun]
    show K (a.put o.dst _) _
    rw [hdst]
    have hup : upds g ws = upd (upds (upd g (.al B) liveC) (boxW B 0 cs)) (.t d) ⟨.ptr B 0, none, none⟩ := by
      rw [← hws]
      show upds (upd g (.al B) liveC) (boxW B 0 cs ++ _) = _
      rw [upds_append]
      rfl
    have hlive : ∀ i, (g (.al i)).v ≠ .un → (upds (upd g (.al B) liveC) (boxW B 0 cs) (.al i)).v ≠ .un := fun i hi => by
      rw [upds_boxW _ _ _ _ _ (fun _ _ e => by cases e)]
      by_cases e : i = B
      · subst e; rw [upd_same]; simp [liveC]
      · rw [upd_ne _ _ (by simpa using e)]; exact hi
    have hdl : (upds (upd g (.al B) liveC) (boxW B 0 cs) (.al B)).v ≠ .un := by
      rw [upds_boxW _ _ _ _ _ (fun _ _ e => by cases e), upd_same]; simp [liveC]
    have hp1 : PtrOK (upds (upd g (.al B) liveC) (boxW B 0 cs)) := by
      intro κ i e
      refine hlive i ?_
      cases κ with
      | t t => rw [upds_boxW _ _ _ _ _ (fun _ _ e => by cases e), upd_ne _ _ (by simp)] at e; exact hp _ _ e
      | al j =>
        rw [upds_boxW _ _ _ _ _ (fun _ _ e => by cases e)] at e
        by_cases e2 : j = B
        · subst e2; rw [upd_same] at e; simp [liveC, FV.refs] at e
        · rw [upd_ne _ _ (by simpa using e2)] at e; exact hp _ _ e
      | b j o2 =>
        by_cases e2 : j = B
        · subst e2
          rw [upds_boxW_at _ _ _ _ _ (Nat.zero_le _)] at e
          cases hx : cs[o2 - 0]? with
          | some x => rw [hx] at e; simp [FV.refs] at e
          | none => rw [hx] at e; rw [upd_ne _ _ (by simp)] at e; exact hp _ _ e
        · rw [upds_boxW _ _ _ _ _ (fun _ _ e1 hh => by cases e1; exact e2 hh.1), upd_ne _ _ (by simp)] at e; exact hp _ _ e
    have hdN : d < N := by unfold dstOK at hd; rw [hdst] at hd; simpa [Nat.blt_eq] using hd
    have h2 := h1.put (c := ⟨.ptr B 0, none, none⟩) (v := .pointer (some ⟨w.heap.size, 0, none⟩)) hdN (by show _ = _; rw [hβ]) (ownV_none _ _) (fun κ' e => by cases e) (wr' := WrP wr ws) (fun κ hk => .inl hk)
      (.inr (by rw [← hws]; simp [keysOf, keysOf_append]))
    have hp2 := ptrOK_upd (κ := .t d) (c := ⟨.ptr B 0, none, none⟩) hp1 (fun i => by simp) (fun i e => by simp [FV.refs] at e; subst e; exact hdl)
    rw [← hup] at h2 hp2
    exact hN _ _ β' S h2 hp2
  · rw [if_neg hu0] at he'
    exact he'.elim
theorem ptrOK_pv {i : Nat} (hp : PtrOK g) : ∀ (ows : List Own) (xs : List PV) (o : Nat), PtrOK (upds g (boxWO i o ows xs)) := by
  intro ows
  induction ows generalizing g with
  | nil => intro xs o; exact hp
  | cons ow ows ih =>
    intro xs o
    cases xs with
    | nil => exact hp
    | cons x xs => exact ih (ptrOK_upd hp (fun i => by simp) (fun i e => by simp [FV.refs] at e)) xs (o + 1)
/-- As 'box_fin', of a struct of lists of one's own. -/
theorem box_finO {d : Tmp} {cs : List PV} {vs : Array Value} {T : TypeId} {kx : Key} {p : TypeId × Nat} {kc : C} {v : Value} (hdst : o.dst = some d) (h : Rel Dr w0 E0 S0 N (fun κ => wr κ = true) g a w β S) (hp : PtrOK g) (hd : dstOK N o = true) (hN : Next Dr w0 E0 S0 N wr g ws K)
    (hkx : ∀ i, kx ≠ .al i) (hkb : ∀ i o, kx ≠ .b i o) (hkp : (g kx).own = some p) (hkc : kc = { g kx with own := none }) (hvs : v = .agg vs) (hkv : rv β a w kx = some v) (hp0 : p.2 = 0)
    (hrun : (execOp a.eval o).run P w = .ok (.value (.pointer (some ⟨w.heap.size, 0, none⟩))) (w.alloc (.cells vs T))) (hlen : vs.size = cs.length) (h1c : ∀ u, u ∈ vs → u.oneCell' = true)
    (hrep : ∀ (o : Nat) v x, vs[o]? = some v → cs[o]? = some x → RepP S w v x) (he : vcT G P (tBoxO d cs kx kc (ownsFrom 0 cs.length (decO 16 p.1))) g wr (fun _ v => v = ws)) : o.wp P a w K Q := by
  have he' : vcT G P (if (g (.al (boxId d cs.length))).v.isNo = true ∧ Nat.blt d 10000 = true then .ret ((kx, kc) :: (.al (boxId d cs.length), liveC) :: (boxWO (boxId d cs.length) 0 (ownsFrom 0 cs.length (decO 16 p.1)) cs ++ [(.t d, ⟨.ptr (boxId d cs.length) 0, none, none⟩)])) else .fail) g wr (fun _ v => v = ws) := he
  by_cases hu0 : (g (.al (boxId d cs.length))).v.isNo = true ∧ Nat.blt d 10000 = true
  · rw [if_pos hu0] at he'
    obtain ⟨hu, hd4⟩ := hu0
    have hd4' : d < 10000 := by simpa [Nat.blt_eq] using hd4
    have hid : handId (boxId d cs.length) = false := boxId_hand hd4'
    have hsc : ∀ o, o < cs.length → isCell (boxId d cs.length) o = true := fun o ho => boxId_cell hd4' ho
    generalize boxId d cs.length = B at he' hu hid hsc
    generalize hows : ownsFrom 0 cs.length (decO 16 p.1) = ows at he'
    have hol : ows.length = cs.length := by rw [← hows, ownsFrom_len]
    have hws : (kx, kc) :: (.al B, liveC) :: (boxWO B 0 ows cs ++ [(Key.t d, (⟨.ptr B 0, none, none⟩ : C))]) = ws := he'
    subst hkc
    have h0 := h.drop kx hkx
    obtain ⟨v', k1, k2⟩ := h.dropF kx hkp
    rw [hkv] at k1
    cases k1
    have hp0' : PtrOK (upd g kx { g kx with own := none }) := ptrOK_upd hp hkx (fun i e => hp _ _ e)
    have hal0 : ∀ i, upd g kx { g kx with own := none } (.al i) = g (.al i) := fun i => upd_ne _ _ (fun e => hkx i e.symm)
    generalize hg1 : upd g kx { g kx with own := none } = g1 at h0 k2 hp0' hal0
    have hfree : (g1 (.al B)).v = .un := by rw [hal0]; cases hv : (g (.al B)).v <;> rw [hv] at hu <;> first | rfl | cases hu
    obtain ⟨β', hβ, h1, hF⟩ := h0.alloc hid hp0' hfree vs T cs hlen hsc hrep
    have hF1 := hF _ k2
    have hsub : List.Sublist (partsL ows vs.toList) (partsO p v) := by
      have := partsL_sub cs.length 0 (decO 16 p.1) vs.toList (fun u hu => h1c u (by simpa using hu)) (by simpa using hlen)
      rw [List.drop_zero, Array.toArray_toList, hows] at this
      have e : partsO p v = cutO vs (decO 16 p.1) := by rw [hvs]; unfold partsO; rw [if_pos hp0]
      rw [e]
      exact this
    have hliveB : (upds (upd g1 (.al B) liveC) (boxW B 0 cs) (.al B)).v ≠ .un := by
      rw [upds_boxW _ _ _ _ _ (fun _ _ e => by cases e), upd_same]; simp [liveC]
    have h2 := Rel.gives (i := B) vs.toList ows cs 0 h1 hol (by simpa using hlen) (fun q u x hu hx => by
      have hq : q < cs.length := (List.getElem?_eq_some_iff.1 hx).1
      refine ⟨by rw [upds_boxW_at _ _ _ _ _ (Nat.zero_le _), Nat.zero_add, Nat.sub_zero, hx], ?_⟩
      rw [Nat.zero_add, rv_b (hsc q hq), hβ, World.cell?_alloc_at _ _ _ _ rfl]
      simpa using hu) hliveB (OwsL.sub hF1 hsub)
    rw [upds_boxW_WO _ _ _ _ _ hol] at h2
    unfold Oper.wp
    rw [hrun]
    show K (a.put o.dst _) _
    rw [hdst]
    have hup : upds g ws = upd (upds (upd g1 (.al B) liveC) (boxWO B 0 ows cs)) (.t d) ⟨.ptr B 0, none, none⟩ := by
      rw [← hws, ← hg1]
      show upds (upd (upd g kx _) (.al B) liveC) (boxWO B 0 ows cs ++ _) = _
      rw [upds_append]
      rfl
    have hdl : (upds (upd g1 (.al B) liveC) (boxWO B 0 ows cs) (.al B)).v ≠ .un := by
      rw [upds_boxWO _ _ _ _ _ _ (fun _ _ e => by cases e), upd_same]; simp [liveC]
    have hp1 : PtrOK (upd g1 (.al B) liveC) := by
      intro κ i e
      by_cases eκ : κ = .al B
      · subst eκ; rw [upd_same] at e; simp [liveC, FV.refs] at e
      · rw [upd_ne _ _ eκ] at e
        by_cases e2 : i = B
        · subst e2; rw [upd_same]; simp [liveC]
        · rw [upd_ne _ _ (by simpa using e2)]; exact hp0' _ _ e
    have hp2 := ptrOK_pv (i := B) hp1 ows cs 0
    have hdN : d < N := by unfold dstOK at hd; rw [hdst] at hd; simpa [Nat.blt_eq] using hd
    have h3 := h2.put (c := ⟨.ptr B 0, none, none⟩) (v := .pointer (some ⟨w.heap.size, 0, none⟩)) hdN (by show _ = _; rw [hβ]) (ownV_none _ _) (fun κ' e => by cases e) (wr' := WrP wr ws) (fun κ hk => .inl hk)
      (.inr (by rw [← hws]; simp [keysOf, keysOf_append]))
    have hp3 := ptrOK_upd (κ := .t d) (c := ⟨.ptr B 0, none, none⟩) hp2 (fun i => by simp) (fun i e => by simp [FV.refs] at e; subst e; exact hdl)
    rw [← hup] at h3 hp3
    exact hN _ _ β' S h3 hp3
  · rw [if_neg hu0] at he'
    exact he'.elim
theorem alloc_ok (hτ : TauOK P τ) (e : TypeId) (ho : o.op = .alloc e) (h : Rel Dr w0 E0 S0 N (fun κ => wr κ = true) g a w β S) (hp : PtrOK g) (hd : dstOK N o = true) (hN : Next Dr w0 E0 S0 N wr g ws K)
    (he : vcT G P (opT P τ o) g wr (fun _ v => v = ws)) : o.wp P a w K Q := by
  simp only [opT, ho] at he
  split at he
  · rename_i d ti hdst hti
    obtain ⟨hz1, hz2⟩ := hτ.z e ti hti
    refine box_fin (vs := ti.zero.cells) (T := e) hdst h hp hd hN ?_ (by simp) (fun i v x hv hx => ?_) he
    · simp [execOp, ho, Instr.alloc, run_zeroD hτ hti, newVar, newRow]
    · rw [List.getElem?_map, Array.getElem?_toList, hv] at hx
      simp only [Option.map_some, Option.some.injEq] at hx
      subst hx
      exact cellP_rep v (List.all_eq_true.1 hz2 v (by simpa using Array.mem_of_getElem? hv))
  · exact he.elim
theorem cellsP_cells {v : Value} {p : PV} {cs : List PV} (h : RepP S w v p) (hc : cellsP p = some cs) : v.cells.size = cs.length ∧ (∀ u, u ∈ v.cells → u.oneCell' = true) ∧ ∀ (i : Nat) (u : Value) (x : PV), v.cells[i]? = some u → cs[i]? = some x → RepP S w u x := by
  have one : ∀ {q : PV}, q.one = true → RepP S w v q → v.cells.size = [q].length ∧ (∀ u, u ∈ v.cells → u.oneCell' = true) ∧ ∀ (i : Nat) (u : Value) (x : PV), v.cells[i]? = some u → [q][i]? = some x → RepP S w u x := by
    intro q hq hv
    have ho := hv.one hq
    have hcl : v.cells = #[v] := by cases v <;> first | rfl | cases ho
    rw [hcl]
    refine ⟨rfl, fun u hu => ?_, fun i u x hu hx => ?_⟩
    · simp at hu; subst hu; exact ho
    · cases i with
      | zero => simp at hu hx; subst hu; subst hx; exact hv
      | succ i => simp at hu
  cases p with
  | lit u => cases hc; exact one rfl h
  | nil => cases hc; exact one rfl h
  | sl xs => cases hc; exact one rfl h
  | agg ds =>
    cases hc
    obtain ⟨vs, rfl, h1, h2, h3⟩ := rep_agg h
    exact ⟨h1, h2, h3⟩
  | tup _ => cases hc
theorem box_ok (e : TypeId) (x : Operand) (ho : o.op = .box e x) (h : Rel Dr w0 E0 S0 N (fun κ => wr κ = true) g a w β S) (hp : PtrOK g) (hd : dstOK N o = true) (hN : Next Dr w0 E0 S0 N wr g ws K)
    (he : vcT G P (opT P τ o) g wr (fun _ v => v = ws)) : o.wp P a w K Q := by
  simp only [opT, ho] at he
  obtain ⟨c, he, hv, hc⟩ := opnd_ev hKt h he
  split at he
  · rename_i d p hdst hcv
    split at he
    · rename_i cs hcs
      rw [hcv] at hv
      obtain ⟨h1, h2, h3⟩ := cellsP_cells (S := S) (w := w) hv hcs
      split at he
      · rename_i code kx hso
        obtain ⟨s1, s2, ds, s3⟩ := structOwn_some hso
        rw [hcv] at s3
        cases s3
        obtain ⟨vs, e1, _⟩ := rep_agg hv
        cases x with
        | tmp t =>
          cases s2
          have hc' : c = g (.t t) := hc
          have e2 : (a.eval (.tmp t)).cells = vs := by rw [e1]; rfl
          exact box_finO (vs := (a.eval (.tmp t)).cells) (T := e) (p := (code, 0)) (kx := .t t) (v := a.eval (.tmp t)) hdst h hp hd hN (fun i => by simp) (fun i o => by simp) (by rw [← hc', s1]) (by rw [← hc']) (by rw [e2]; exact e1) rfl rfl (by simp [execOp, ho, Instr.box, newVar, newRow]) h1 h2 h3 he
        | _ => cases s2
      · exact box_fin (vs := (a.eval x).cells) (T := e) hdst h hp hd hN (by simp [execOp, ho, Instr.box, newVar, newRow]) h1 h3 he
    · exact he.elim
  · exact he.elim
theorem getN_ev {i : Nat} : ∀ (n o : Nat) {f : List PV → T}, vcT G P (getN i o n f) g wr (fun _ v => v = ws) → ∃ ps, ps.length = n ∧ (∀ (j : Nat) p, ps[j]? = some p → (g (.b i (o + j))).v = .pv p ∧ p.one = true) ∧ vcT G P (f ps) g wr (fun _ v => v = ws)
  | 0, o, f, he => ⟨[], rfl, fun j p h => by simp at h, he⟩
  | n + 1, o, f, he => by
    have he' : vcT G P (match (g (.b i o)).v with
      | .pv p => if p.one = true then getN i (o + 1) n (fun ps => f (p :: ps)) else .fail
      | _ => .fail) g wr (fun _ v => v = ws) := he
    split at he'
    · rename_i p hp
      split at he'
      · rename_i hone
        obtain ⟨ps, h1, h2, h3⟩ := getN_ev n (o + 1) (f := fun ps => f (p :: ps)) he'
        refine ⟨p :: ps, by simp [h1], fun j q hq => ?_, h3⟩
        cases j with
        | zero => simp at hq; subst hq; exact ⟨hp, hone⟩
        | succ j =>
          have := h2 j q (by simpa using hq)
          rwa [show o + 1 + j = o + (j + 1) from by omega] at this
      · exact he'.elim
    · exact he'.elim
theorem cvsA_rep {β : Nat → Nat} : ∀ {cs : List C} {vs : List CV} {us : List Value}, cvsA cs = some vs → us.length = cs.length → (∀ (j : Nat) u c, us[j]? = some u → cs[j]? = some c → RepF β S w u c.v) → RepC β S w us vs
  | [], vs, us, h, hl, _ => by
    cases h
    have : us = [] := List.eq_nil_of_length_eq_zero (by simpa using hl)
    subst this
    trivial
  | c :: cs, vs, [], h, hl, _ => by simp at hl
  | c :: cs, vs, u :: us, h, hl, hr => by
    unfold cvsA at h
    split at h
    · rename_i p r hp hr'
      cases h
      have h0 := hr 0 u c rfl rfl
      rw [hp] at h0
      exact ⟨h0, cvsA_rep hr' (by simpa using hl) (fun j u c hu hc => hr (j + 1) u c (by simpa using hu) (by simpa using hc))⟩
    · rename_i i k lo n r hp hr'
      cases h
      have h0 := hr 0 u c rfl rfl
      rw [hp] at h0
      exact ⟨h0, cvsA_rep hr' (by simpa using hl) (fun j u c hu hc => hr (j + 1) u c (by simpa using hu) (by simpa using hc))⟩
    · cases h
theorem cvsA_refs : ∀ {cs : List C} {vs : List CV}, cvsA cs = some vs → ∀ j, j ∈ refsC vs → ∃ (q : Nat) (c : C), cs[q]? = some c ∧ j ∈ c.v.refs
  | [], vs, h, j, hj => by cases h; simp [refsC] at hj
  | c :: cs, vs, h, j, hj => by
    unfold cvsA at h
    split at h
    · rename_i p r hp hr'
      cases h
      have hj' : j ∈ refsC r := by simpa [refsC, CV.refs] using hj
      obtain ⟨q, d, h1, h2⟩ := cvsA_refs hr' j hj'
      exact ⟨q + 1, d, by simpa using h1, h2⟩
    · rename_i i k lo n r hp hr'
      cases h
      have hj' : j ∈ [i] ++ refsC r := hj
      rcases List.mem_append.1 hj' with hj' | hj'
      · exact ⟨0, c, rfl, by rw [hp]; exact hj'⟩
      · obtain ⟨q, d, h1, h2⟩ := cvsA_refs hr' j hj'
        exact ⟨q + 1, d, by simpa using h1, h2⟩
    · cases h
theorem getNC_ev {i : Nat} : ∀ (n o : Nat) {f : List C → T}, vcT G P (getNC i o n f) g wr (fun _ v => v = ws) → ∃ cs, cs.length = n ∧ (∀ (j : Nat) c, cs[j]? = some c → g (.b i (o + j)) = c ∧ ((∃ p, c.v = .pv p ∧ p.one = true) ∨ ∃ i k lo n, c.v = .slp i k lo n)) ∧ vcT G P (f cs) g wr (fun _ v => v = ws)
  | 0, o, f, he => ⟨[], rfl, fun j p h => by simp at h, he⟩
  | n + 1, o, f, he => by
    have he' : vcT G P (match (g (.b i o)).v with
      | .pv p => if p.one = true then getNC i (o + 1) n (fun cs => f (g (.b i o) :: cs)) else .fail
      | .slp _ _ _ _ => getNC i (o + 1) n (fun cs => f (g (.b i o) :: cs))
      | _ => .fail) g wr (fun _ v => v = ws) := he
    have fin : vcT G P (getNC i (o + 1) n (fun cs => f (g (.b i o) :: cs))) g wr (fun _ v => v = ws) → ((∃ p, (g (.b i o)).v = .pv p ∧ p.one = true) ∨ ∃ i' k lo n, (g (.b i o)).v = .slp i' k lo n) →
        ∃ cs, cs.length = n + 1 ∧ (∀ (j : Nat) c, cs[j]? = some c → g (.b i (o + j)) = c ∧ ((∃ p, c.v = .pv p ∧ p.one = true) ∨ ∃ i k lo n, c.v = .slp i k lo n)) ∧ vcT G P (f cs) g wr (fun _ v => v = ws) := fun he' hor => by
      obtain ⟨cs, h1, h2, h3⟩ := getNC_ev n (o + 1) (f := fun cs => f (g (.b i o) :: cs)) he'
      refine ⟨g (.b i o) :: cs, by simp [h1], fun j q hq => ?_, h3⟩
      cases j with
      | zero => simp at hq; subst hq; exact ⟨rfl, hor⟩
      | succ j =>
        have := h2 j q (by simpa using hq)
        rwa [show o + 1 + j = o + (j + 1) from by omega] at this
    split at he'
    · rename_i p hp
      split at he'
      · rename_i hone
        exact fin he' (.inl ⟨p, hp, hone⟩)
      · exact he'.elim
    · rename_i i' k lo m hp
      exact fin he' (.inr ⟨i', k, lo, m, hp⟩)
    · exact he'.elim
theorem memO_keys {i off : Nat} {κ : Key} {o : Nat} {l : List (Nat × TypeId × Nat)} (h : ∃ o', memO o' l = true ∧ κ = .b i (off + o')) (hκ : κ = .b i (off + o)) : memO o l = true := by
  obtain ⟨o', h1, h2⟩ := h
  rw [h2] at hκ
  simp at hκ
  rw [← hκ]; exact h1
/-- Cells give up what they own. -/
theorem collect {wr' : Key → Prop} {i off : Nat} {cs : List C} {vs : Array Value} (h : Rel Dr w0 E0 S0 N wr' g a w β S) (hp : PtrOK g)
    (hcs : ∀ (o : Nat) c, cs[o]? = some c → g (.b i (off + o)) = c ∧ ∃ u, vs[o]? = some u ∧ rv β a w (.b i (off + o)) = some u ∧ (c.v = .pv .nil → u = .slice none 0 0)) :
    ∀ (l : List (Nat × TypeId × Nat)) {cw : List (Key × C)}, clrC i off cs l = some cw → Rel Dr w0 E0 S0 N wr' (upds g cw) a w β S ∧ PtrOK (upds g cw) ∧ FreeL w0 E0 (upds g cw) a w β S (cutO vs l) ∧ (∀ κ, (upds g cw κ).v = (g κ).v) ∧
      ∀ κ, κ ∈ keysOf cw → ∃ o, memO o l = true ∧ κ = .b i (off + o)
  | [], cw, e => by
    cases e
    exact ⟨h, hp, OwsL.nil, fun κ => rfl, fun κ hκ => by simp [keysOf] at hκ⟩
  | (o, e, k) :: r, cw, he => by
    unfold clrC at he
    split at he
    · rename_i ws0 c hws0 hc
      split at he
      · cases he
      · rename_i hno
        have hmem : memO o r = false := by cases hm : memO o r with
          | true => exact absurd (.inl hm) hno
          | false => rfl
        have hk : k ≠ 0 := fun e => hno (.inr e)
        obtain ⟨q1, q2, q3, q4, q5⟩ := collect h hp hcs r hws0
        obtain ⟨gc, u, hu, hrv, hnil⟩ := hcs o c hc
        have hκ : upds g ws0 (.b i (off + o)) = c := by
          rw [upds_none' (fun hm => by rw [memO_keys (q5 _ hm) rfl] at hmem; cases hmem)]
          exact gc
        have hcut : cutO vs ((o, e, k) :: r) = (e, k, u) :: cutO vs r := by
          show (match vs[o]? with | some u => (e, k, u) :: cutO vs r | none => cutO vs r) = _
          rw [hu]
        have hmo : ∀ o', memO o' r = true → memO o' ((o, e, k) :: r) = true := fun o' ho' => by
          show (if o' = o then true else memO o' r) = true
          split
          · rfl
          · exact ho'
        rw [hcut]
        split at he
        · rename_i p hown
          split at he
          · rename_i hpk
            obtain ⟨rfl, rfl⟩ := hpk
            cases he
            have ho' : (upds g ws0 (.b i (off + o))).own = some p := by rw [hκ]; exact hown
            have h1 := q1.drop (.b i (off + o)) (fun i => by simp)
            obtain ⟨u', k1, k2⟩ := q1.dropAdd (.b i (off + o)) ho' q3
            rw [hrv] at k1
            cases k1
            have eg : upds g (ws0 ++ [(Key.b i (off + o), (⟨c.v, none, c.frm⟩ : C))]) = upd (upds g ws0) (.b i (off + o)) { upds g ws0 (.b i (off + o)) with own := none } := by
              rw [upds_append, hκ]
              rfl
            have hpp : partsO p u = [(p.1, p.2, u)] := partsO_one hk u
            rw [hpp] at k2
            rw [eg]
            refine ⟨h1, ptrOK_upd q2 (fun i => by simp) (fun j e => ?_), k2, fun κ => ?_, fun κ hm => ?_⟩
            · exact q2 _ _ e
            · by_cases e2 : κ = .b i (off + o)
              · subst e2; rw [upd_same]; exact q4 _
              · rw [upd_ne _ _ e2]; exact q4 _
            · rw [keysOf_append] at hm
              rcases List.mem_append.1 hm with hm | hm
              · obtain ⟨o', z1, z2⟩ := q5 κ hm
                exact ⟨o', hmo o' z1, z2⟩
              · simp [keysOf] at hm
                exact ⟨o, by simp [memO], hm⟩
          · cases he
        · split at he
          · rename_i hcv
            cases he
            have hun := hnil hcv
            refine ⟨q1, q2, OwsL.cons.2 ⟨⟨⟨0, [], ?_, fun b hb => ?_⟩, fun b hb => ?_⟩, q3⟩, q4, fun κ hm => ?_⟩
            · rw [hun]; exact World.ownsRow_nil _ _ _ _
            · rw [hun] at hb; cases hb
            · rw [hun] at hb; cases hb
            · obtain ⟨o', z1, z2⟩ := q5 κ hm
              exact ⟨o', hmo o' z1, z2⟩
          · cases he
    · cases he
theorem load_cells {b off n : Nat} {R : Nat → Value → Prop} (h : ∀ j, j < n → ∃ c, w.cell? ⟨b, off + j, none⟩ = some c ∧ R j c) :
    ∃ cs : List Value, cs.length = n ∧ (loadCells ⟨b, off, none⟩ n).run P w = .ok cs.toArray w ∧ ∀ (j : Nat) u, cs[j]? = some u → R j u := by
  refine ⟨(List.range n).map fun j => (w.cell? ⟨b, off + j, none⟩).getD undef, by simp, ?_, fun j u hu => ?_⟩
  · have := run_loadCells_list (P := P) w ⟨b, off, none⟩ ((List.range n).map fun j => (w.cell? ⟨b, off + j, none⟩).getD undef) (fun j v hv => by
      rw [Addr.add_lit]
      rw [List.getElem?_map] at hv
      cases hr : (List.range n)[j]? with
      | none => rw [hr] at hv; cases hv
      | some q =>
        rw [hr] at hv
        have hq : q = j ∧ j < n := by
          have := List.getElem?_eq_some_iff.1 hr
          obtain ⟨h1, h2⟩ := this
          simp at h2 h1
          exact ⟨h2.symm, h1⟩
        obtain ⟨rfl, hlt⟩ := hq
        obtain ⟨c, hc, _⟩ := h q hlt
        simp only [Option.map_some, Option.some.injEq] at hv
        rw [hc] at hv ⊢
        simpa using hv)
    simpa using this
  · rw [List.getElem?_map] at hu
    cases hr : (List.range n)[j]? with
    | none => rw [hr] at hu; cases hu
    | some q =>
      rw [hr] at hu
      obtain ⟨h1, h2⟩ := List.getElem?_eq_some_iff.1 hr
      simp at h1 h2
      subst h2
      obtain ⟨c, hc, hR⟩ := h j h1
      simp only [Option.map_some, Option.some.injEq] at hu
      rw [hc] at hu
      simp at hu
      subst hu
      exact hR
theorem load_agg (hτ : TauOK P τ) {t : TypeId} {ti : TI} (ht : τ t = some ti) (hagg : isAggD ti.desc = true) {b off : Nat} {ps : List PV} (hl : ps.length = ti.size) (hone : ∀ p, p ∈ ps → p.one = true)
    (h : ∀ (j : Nat) p, ps[j]? = some p → ∃ c, w.cell? ⟨b, off + j, none⟩ = some c ∧ RepP S w c p) : ∃ v, (Instr.loadAt t (.pointer (some ⟨b, off, none⟩))).run P w = .ok v w ∧ RepP S w v (.agg ps) := by
  obtain ⟨cs, h1, h2, h3⟩ := load_cells (P := P) (w := w) (b := b) (off := off) (n := ti.size) (R := fun j c => ∀ p, ps[j]? = some p → RepP S w c p) (fun j hj => by
    have hj' : j < ps.length := by omega
    obtain ⟨c, hc, hr⟩ := h j _ (List.getElem?_eq_getElem hj')
    exact ⟨c, hc, fun p hp => by rw [List.getElem?_eq_getElem hj'] at hp; cases hp; exact hr⟩)
  refine ⟨.agg cs.toArray, ?_, .agg _ _ (by simp [h1, hl]) (fun v hv => ?_) (fun i v x hv hx => h3 i v (by simpa using hv) x hx)⟩
  · simp [Instr.loadAt, Instr.sureAddr, loadVar, run_isAggD hτ ht, run_sizeD hτ ht, hagg, h2]
  · obtain ⟨i, hi, rfl⟩ := List.mem_iff_getElem.1 (show v ∈ cs by simpa using hv)
    have hi' : i < ps.length := by omega
    exact (h3 i _ (List.getElem?_eq_getElem hi) _ (List.getElem?_eq_getElem hi')).one (hone _ (List.getElem_mem hi'))
theorem load_aggV (hτ : TauOK P τ) {t : TypeId} {ti : TI} (ht : τ t = some ti) (hagg : isAggD ti.desc = true) {b off : Nat} {ps : List PV} (hl : ps.length = ti.size) (hone : ∀ p, p ∈ ps → p.one = true)
    (h : ∀ (j : Nat) p, ps[j]? = some p → ∃ c, w.cell? ⟨b, off + j, none⟩ = some c ∧ RepP S w c p) : ∃ vs : Array Value, (Instr.loadAt t (.pointer (some ⟨b, off, none⟩))).run P w = .ok (.agg vs) w ∧ RepP S w (.agg vs) (.agg ps) ∧ ∀ j, j < ti.size → w.cell? ⟨b, off + j, none⟩ = vs[j]? ∧ vs[j]?.isSome = true := by
  obtain ⟨cs, h1, h2, h3⟩ := load_cells (P := P) (w := w) (b := b) (off := off) (n := ti.size) (R := fun j c => w.cell? ⟨b, off + j, none⟩ = some c ∧ ∀ p, ps[j]? = some p → RepP S w c p) (fun j hj => by
    have hj' : j < ps.length := by omega
    obtain ⟨c, hc, hr⟩ := h j _ (List.getElem?_eq_getElem hj')
    exact ⟨c, hc, hc, fun p hp => by rw [List.getElem?_eq_getElem hj'] at hp; cases hp; exact hr⟩)
  refine ⟨cs.toArray, ?_, .agg _ _ (by simp [h1, hl]) (fun v hv => ?_) (fun i v x hv hx => (h3 i v (by simpa using hv)).2 x hx), fun j hj => ?_⟩
  · simp [Instr.loadAt, Instr.sureAddr, loadVar, run_isAggD hτ ht, run_sizeD hτ ht, hagg, h2]
  · obtain ⟨i, hi, rfl⟩ := List.mem_iff_getElem.1 (show v ∈ cs by simpa using hv)
    have hi' : i < ps.length := by omega
    exact ((h3 i _ (List.getElem?_eq_getElem hi)).2 _ (List.getElem?_eq_getElem hi')).one (hone _ (List.getElem_mem hi'))
  · have hlt : j < cs.length := by omega
    have e : cs.toArray[j]? = some cs[j] := by simp [hlt]
    rw [e]
    exact ⟨(h3 j _ (List.getElem?_eq_getElem hlt)).1, rfl⟩
theorem load_one (hτ : TauOK P τ) {t : TypeId} {ti : TI} (ht : τ t = some ti) (hagg : ¬ isAggD ti.desc = true) {b off : Nat} {c : Value} (hc : w.cell? ⟨b, off, none⟩ = some c) :
    (Instr.loadAt t (.pointer (some ⟨b, off, none⟩))).run P w = .ok c w := by
  have hf : isAggD ti.desc = false := by simpa using hagg
  simp [Instr.loadAt, Instr.sureAddr, loadVar, run_isAggD hτ ht, hf, run_load, hc]
theorem load_ok (hG : GOK Dr E0 w0 G) (hτ : TauOK P τ) (t : TypeId) (x : Operand) (ho : o.op = .load t x) (h : Rel Dr w0 E0 S0 N (fun κ => wr κ = true) g a w β S) (hp : PtrOK g) (hd : dstOK N o = true) (hN : Next Dr w0 E0 S0 N wr g ws K)
    (he : vcT G P (opT P τ o) g wr (fun _ v => v = ws)) : o.wp P a w K Q := by
  simp only [opT, ho] at he
  obtain ⟨c, he, hv, hc⟩ := opnd_ev hKt h he
  unfold tLoad at he
  split at he
  · rename_i i off ti hcv hti
    rw [hcv] at hv
    have hx : a.eval x = .pointer (some ⟨β i, off, none⟩) := hv
    split at he
    · rename_i hagg
      obtain ⟨cs, h1, h2, h3⟩ := getNC_ev _ _ he
      split at h3
      · rename_i ps hps
        obtain ⟨p1, p2⟩ := pvs_some hps
        have hcell : ∀ (j : Nat) p, ps[j]? = some p → p.one = true ∧ isCell i (off + j) = true ∧ ∃ c, w.cell? ⟨β i, off + j, none⟩ = some c ∧ RepP S w c p := fun j p hj => by
          have hlt : j < cs.length := by rw [← p1]; exact (List.getElem?_eq_some_iff.1 hj).1
          have hcj := List.getElem?_eq_getElem hlt
          obtain ⟨q1, ⟨p', q2, q3⟩ | ⟨_, _, _, _, q2⟩⟩ := h2 j _ hcj
          rotate_left
          · have e := p2 j _ p hcj hj
            rw [q2] at e
            cases e
          have e := p2 j _ p hcj hj
          rw [q2] at e
          cases e
          have hgv : (g (.b i (off + j))).v = .pv p := by rw [q1]; exact q2
          obtain ⟨k0, c', k1, k2, _⟩ := (h.bx i (off + j) (by rw [hgv]; simp)).1.cell (by rw [hgv]; rfl)
          rw [hgv] at k2
          exact ⟨q3, k0, c', k1, k2⟩
        obtain ⟨vs, hr, hrep, hvs⟩ := load_aggV (S := S) (w := w) hτ hti hagg (b := β i) (off := off) (ps := ps) (by rw [p1, h1]) (fun p hm => by
          obtain ⟨j, hj, rfl⟩ := List.mem_iff_getElem.1 hm
          exact (hcell j _ (List.getElem?_eq_getElem hj)).1) (fun j p hj => (hcell j p hj).2.2)
        split at h3
        · rename_i d code cw hdst hcw
          have hcoll : clrC i off cs (decO 16 code) = some cw := by
            unfold collW at hcw
            split at hcw
            · cases hcw
            · split at hcw
              · rename_i hh; cases hcw; exact hh
              · cases hcw
          obtain ⟨z1, z2, z3, z4, z5⟩ := collect (vs := vs) h hp (fun j c hc => by
            obtain ⟨q1, ⟨p, q2, q3⟩ | ⟨_, _, _, _, q2⟩⟩ := h2 j c hc
            rotate_left
            · have hpl : j < ps.length := by rw [p1]; exact (List.getElem?_eq_some_iff.1 hc).1
              have e := p2 j c _ hc (List.getElem?_eq_getElem hpl)
              rw [q2] at e
              cases e
            have hlt : j < ti.size := by rw [← h1]; exact (List.getElem?_eq_some_iff.1 hc).1
            obtain ⟨y1, y2⟩ := hvs j hlt
            obtain ⟨u, hu⟩ := Option.isSome_iff_exists.1 y2
            have hpj : ps[j]? = some p := by
              have hpl : j < ps.length := by rw [p1, h1]; exact hlt
              have := p2 j c _ hc (List.getElem?_eq_getElem hpl)
              rw [q2] at this
              cases this
              exact List.getElem?_eq_getElem hpl
            obtain ⟨_, k0, c', k1, k2⟩ := hcell j p hpj
            rw [y1, hu] at k1
            cases k1
            refine ⟨q1, u, hu, by rw [rv_b k0, y1]; exact hu, fun e => ?_⟩
            rw [q2] at e
            cases e
            exact rep_nil k2) _ hcoll
          have hws : cw ++ [(Key.t d, (⟨.pv (.agg ps), some (code, 0), none⟩ : C))] = ws := h3
          unfold Oper.wp
          rw [show (execOp a.eval o).run P w = .ok (.value (.agg vs)) w by simp [execOp, ho, hx, hr]]
          show K (a.put o.dst _) w
          rw [hdst]
          have hdN : d < N := by unfold dstOK at hd; rw [hdst] at hd; simpa [Nat.blt_eq] using hd
          have hparts : partsO (code, 0) (.agg vs) = cutO vs (decO 16 code) := if_pos rfl
          rw [← hparts] at z3
          have h5 := z1.put (c := ⟨.pv (.agg ps), some (code, 0), none⟩) hdN hrep (z3.ownV _) (fun κ' e => by cases e) (wr' := WrP wr ws) (fun κ hk => .inl hk) (.inr (by rw [← hws]; simp [keysOf, keysOf_append]))
          have h6 := ptrOK_upd (κ := .t d) (c := ⟨.pv (.agg ps), some (code, 0), none⟩) z2 (fun i => by simp) (fun i e => by simp [FV.refs] at e)
          have hup : upds g ws = upd (upds g cw) (.t d) ⟨.pv (.agg ps), some (code, 0), none⟩ := by rw [← hws, upds_append]; rfl
          rw [← hup] at h5 h6
          exact hN _ _ β S h5 h6
        · exact finWP hN hd (by simp [execOp, ho, hx, hr]) h hp hrep h3
      · split at h3
        · rename_i vs hvs
          obtain ⟨us, u1, u2, u3⟩ := load_cells (P := P) (w := w) (b := β i) (off := off) (n := ti.size) (R := fun j u => u.oneCell' = true ∧ ∀ c, cs[j]? = some c → RepF β S w u c.v) (fun j hj => by
            have hcj := List.getElem?_eq_getElem (show j < cs.length by omega)
            obtain ⟨q1, hor⟩ := h2 j _ hcj
            have hne : (g (.b i (off + j))).v.isUn = false := by rw [q1]; rcases hor with ⟨p, q2, _⟩ | ⟨_, _, _, _, q2⟩ <;> rw [q2] <;> rfl
            obtain ⟨_, u, k1, k2, _⟩ := (h.bx i (off + j) (fun e => by rw [e] at hne; cases hne)).1.cell hne
            rw [q1] at k2
            refine ⟨u, k1, ?_, fun c hc => by rw [hcj] at hc; cases hc; exact k2⟩
            rcases hor with ⟨p, q2, q3⟩ | ⟨_, _, _, _, q2⟩
            · rw [q2] at k2
              exact RepP.one k2 q3
            · rw [q2] at k2
              obtain ⟨_, _, _, e, _⟩ := k2
              rw [e]
              rfl)
          have hrun : (execOp a.eval o).run P w = .ok (.value (.agg us.toArray)) w := by
            simp [execOp, ho, hx, Instr.loadAt, Instr.sureAddr, loadVar, run_isAggD hτ hti, run_sizeD hτ hti, hagg, u2]
          have hrep : RepC β S w us vs := cvsA_rep hvs (by rw [u1, h1]) (fun j u c hu hc => (u3 j u hu).2 c hc)
          refine finWV hN hd hrun h hp (x := .aggf vs) ⟨us, rfl, hrep, fun u hu => ?_⟩ (fun j hj => ?_) h3
          · obtain ⟨j, hj, rfl⟩ := List.mem_iff_getElem.1 hu
            exact (u3 j _ (List.getElem?_eq_getElem hj)).1
          · obtain ⟨q, c, hc, hj'⟩ := cvsA_refs hvs j hj
            obtain ⟨q1, _⟩ := h2 q c hc
            exact hp (.b i (off + q)) j (by rw [q1]; exact hj')
        · exact h3.elim
    · rename_i hagg
      have he' : vcT G P (if (g (.b i off)).v.isUn = true then .fail else W o.dst ⟨(g (.b i off)).v, none, some (.b i off)⟩) g wr (fun _ v => v = ws) := he
      split at he'
      · exact he'.elim
      · rename_i hu
        have hne : (g (.b i off)).v ≠ .un := fun e => hu (by rw [e]; rfl)
        obtain ⟨k0, k4⟩ := h.bx i off hne
        obtain ⟨kc, c', k1, k2, _⟩ := k0.cell (by simpa using hu)
        refine finW hN hd (by simp [execOp, ho, hx, load_one hτ hti hagg k1]) h hp (c := ⟨(g (.b i off)).v, none, some (.b i off)⟩) k2 (fun i' e => hp _ _ e) rfl (fun κ' e => ?_) he'
        cases e
        exact ⟨(rv_b kc).trans k1, fun i' o' e => by cases e; exact k4⟩
  · rename_i row j ti hcv hti
    rw [hcv] at hv
    obtain ⟨b, base, hx, hrow⟩ := hv
    split at he
    · rename_i hagg
      split at he
      · rename_i hlen
        obtain ⟨v, hr, hrep⟩ : ∃ v, (Instr.loadAt t (.pointer (some ⟨b, base + j, none⟩))).run P w = .ok v w ∧ RepP S w v (.agg ((row.drop j).take ti.size)) := by
          obtain ⟨cs, h1, h2, h3⟩ := load_cells (P := P) (w := w) (b := b) (off := base + j) (n := ti.size) (R := fun q c => ∃ p, ((row.drop j).take ti.size)[q]? = some p ∧ RepP S w c p) (fun q hq => by
            have hj' : q < ((row.drop j).take ti.size).length := by rw [hlen.1]; exact hq
            have hgq : row[j + q]? = some (((row.drop j).take ti.size)[q]) := by
              rw [← List.getElem?_eq_getElem hj', List.getElem?_take, if_pos hq, List.getElem?_drop]
            obtain ⟨_, c', hc', hr', _⟩ := hrow (j + q) _ hgq
            exact ⟨c', by rw [Nat.add_assoc]; exact hc', _, List.getElem?_eq_getElem hj', hr'⟩)
          refine ⟨.agg cs.toArray, ?_, .agg _ _ (by simp [h1, hlen.1]) (fun v hv => ?_) (fun i v x hv hx => ?_)⟩
          · simp [Instr.loadAt, Instr.sureAddr, loadVar, run_isAggD hτ hti, run_sizeD hτ hti, hagg, h2]
          · obtain ⟨i, hi, rfl⟩ := List.mem_iff_getElem.1 (show v ∈ cs by simpa using hv)
            obtain ⟨p, hp1, hp2⟩ := h3 i _ (List.getElem?_eq_getElem hi)
            exact hp2.one (List.all_eq_true.1 hlen.2 p (List.mem_of_getElem? hp1))
          · obtain ⟨p, hp1, hp2⟩ := h3 i v (by simpa using hv)
            rw [hp1] at hx
            cases hx
            exact hp2
        exact finWP hN hd (by simp [execOp, ho, hx, hr]) h hp hrep he
      · exact he.elim
    · rename_i hagg
      split at he
      · rename_i p hpj
        split at he
        · obtain ⟨_, c', k1, k2, _⟩ := hrow j p hpj
          exact finWP hN hd (by simp [execOp, ho, hx, load_one hτ hti hagg k1]) h hp k2 he
        · exact he.elim
      · exact he.elim
  · rename_i i k r j ti hcv hti
    rw [hcv] at hv
    have hx : a.eval x = .pointer (some ⟨β i, r * k + j, none⟩) := hv
    have he' : vcT G P (match (g (.b i 0)).v with
      | .rows k' xs => if k = k' then .row xs r fun row => (if isAggD ti.desc = true then (if ((row.drop j).take ti.size).length = ti.size ∧ ((row.drop j).take ti.size).all PV.one = true then WP o.dst (.agg ((row.drop j).take ti.size)) else .fail) else match row[j]? with
        | some p => if p.one = true then WP o.dst p else .fail
        | none => .fail) else .fail
      | _ => .fail) g wr (fun _ v => v = ws) := he
    split at he'
    · rename_i k' xs hrows
      split at he'
      · rename_i hk
        subst hk
        obtain ⟨hb, _⟩ := h.bx i 0 (by rw [hrows]; simp)
        rw [hrows] at hb
        obtain ⟨_, _, hra, _⟩ := hb
        obtain ⟨row, hr, he2⟩ := row_evN he'
        have hrow : ∀ (q : Nat) p, row[q]? = some p → ∃ c, w.cell? ⟨β i, r * k + q, none⟩ = some c ∧ RepP S w c p ∧ c.oneCell' = true := fun q p hq => hra.2 r q row p hr hq
        split at he2
        · rename_i hagg
          split at he2
          · rename_i hlen
            obtain ⟨v, hr, hrep⟩ := load_agg (S := S) (w := w) hτ hti hagg (b := β i) (off := r * k + j) (ps := (row.drop j).take ti.size) hlen.1 (fun p hm => List.all_eq_true.1 hlen.2 p hm) (fun q p hq => by
              rw [List.getElem?_take] at hq
              split at hq
              · rw [List.getElem?_drop] at hq
                obtain ⟨c', q1, q2, _⟩ := hrow (j + q) p hq
                exact ⟨c', by rw [Nat.add_assoc]; exact q1, q2⟩
              · cases hq)
            exact finWP hN hd (by simp [execOp, ho, hx, hr]) h hp hrep he2
          · exact he2.elim
        · rename_i hagg
          split at he2
          · rename_i p hpj
            split at he2
            · obtain ⟨c', k1, k2, _⟩ := hrow j p hpj
              exact finWP hN hd (by simp [execOp, ho, hx, load_one hτ hti hagg k1]) h hp k2 he2
            · exact he2.elim
          · exact he2.elim
      · exact he'.elim
    · exact he'.elim
  · rename_i b off ti hcv hti
    rw [hcv] at hv
    have hx : a.eval x = .pointer (some ⟨b, off, none⟩) := (rep_lit hv).1
    split at he
    · exact he.elim
    · rename_i hagg
      obtain ⟨v, k1, k2, he⟩ := he
      exact finWP hN hd (by simp [execOp, ho, hx, load_one hτ hti hagg (k1 w (hG.all w h.below))]) h hp (cellP_rep v k2) he
  · exact he.elim
end
end
end Go.Proofs.YtbjfmkmaghapgaaGreatDoor.B
