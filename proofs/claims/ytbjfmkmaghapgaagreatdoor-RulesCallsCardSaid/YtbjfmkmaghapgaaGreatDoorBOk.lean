/-
The logic of pure values, continued: the operations do in the model what their trees say. Condition: none.
-/
import Derived.Test.YtbjfmkmaghapgaaGreatDoorBVc
set_option linter.unusedVariables false
set_option linter.unusedSimpArgs false
set_option linter.unnecessarySimpa false
namespace Go.Proofs.YtbjfmkmaghapgaaGreatDoor.B
open Go.RowKit

structure TauOK (P : Program) (τ : Tau) : Prop where
  u : ∀ t d, τ t = some d → P.underlying t = some d.desc
  i : ∀ t d, τ t = some d → ∃ i, P.info? t = some i ∧ i.size = d.size ∧ i.bytes = d.bytes ∧ i.zero = some d.zero
  z : ∀ t d, τ t = some d → d.zero.cells.size = d.size ∧ d.zero.cells.toList.all Value.oneCell' = true
  e : ∀ t d, τ t = some d → d.eqOK () = true → P.stoodInHeld t = false ∧ P.eqGuardType P.depth t = false
def tauOf (P : Program) (eq : TypeId → Bool) : Tau := fun t =>
  match P.info? t, P.underlying t with
  | some i, some d => match i.zero with
    | some z => if z.cells.size = i.size ∧ z.cells.toList.all Value.oneCell' = true then some ⟨d, i.size, i.bytes, z, fun _ => eq t⟩ else none
    | none => none
  | _, _ => none
theorem tauOf_ok (P : Program) (eq : TypeId → Bool) (heq : ∀ t, eq t = true → P.stoodInHeld t = false ∧ P.eqGuardType P.depth t = false) : TauOK P (tauOf P eq) := by
  have key : ∀ t d, tauOf P eq t = some d → ∃ i, P.info? t = some i ∧ P.underlying t = some d.desc ∧ i.size = d.size ∧ i.bytes = d.bytes ∧ i.zero = some d.zero ∧ d.zero.cells.size = d.size ∧ d.zero.cells.toList.all Value.oneCell' = true ∧ (d.eqOK () = true → P.stoodInHeld t = false ∧ P.eqGuardType P.depth t = false) := by
    intro t d h
    unfold tauOf at h
    split at h
    · rename_i i d' hi hu
      split at h
      · rename_i z hz
        split at h
        · rename_i hc
          cases h
          exact ⟨i, hi, hu, rfl, rfl, hz, hc.1, hc.2, fun h => heq t h⟩
        · cases h
      · cases h
    · cases h
  exact ⟨fun t d h => (key t d h).choose_spec.2.1, fun t d h => let ⟨i, h1, _, h3, h4, h5, _⟩ := key t d h; ⟨i, h1, h3, h4, h5⟩, fun t d h => let ⟨_, _, _, _, _, _, h7, h8, _⟩ := key t d h; ⟨h7, h8⟩, fun t d h => (key t d h).choose_spec.2.2.2.2.2.2.2⟩

section
variable {G : World → Prop} {P : Program} {τ : Tau} {Dr : Prop} {w0 : World} {E0 : Nat → Nat → Prop} {S0 : Nat → Nat → Prop} {N : Nat} {wr : Key → Bool} {g : Key → C} {a : Act} {w : World} {β : Nat → Nat} {S : Nat → Nat → Prop}

theorem cellP_rep (v : Value) (h : v.oneCell' = true) : RepP S w v (cellP v) := by
  unfold cellP
  split
  · exact .nil
  · exact .lit _ h
theorem cellP_one (v : Value) : (cellP v).one = true := by unfold cellP; split <;> rfl
theorem cellsP_rep {vs : Array Value} (h : vs.toList.all Value.oneCell' = true) : RepP S w (.agg vs) (.agg (vs.toList.map cellP)) := by
  have h' : ∀ v, v ∈ vs → v.oneCell' = true := fun v hv => List.all_eq_true.1 h v (by simpa using hv)
  refine .agg vs _ (by simp) h' (fun i v x hv hx => ?_)
  rw [List.getElem?_map, Array.getElem?_toList, hv] at hx
  simp only [Option.map_some, Option.some.injEq] at hx
  subst hx
  exact cellP_rep v (h' v (Array.mem_of_getElem? hv))
theorem constF_rep (v : Value) : RepF β S w v (constF v) := by
  unfold constF
  split
  · exact RepP.nil
  · split
    · rename_i h; exact cellsP_rep h
    · trivial
  · trivial
  · rename_i h1 h2 h3
    refine RepP.lit _ ?_
    cases v <;> first | rfl | exact absurd rfl (h2 _) | exact absurd rfl (h3 _)
theorem rep_lit {v u : Value} (h : RepP S w v (.lit u)) : v = u ∧ u.oneCell' = true := by cases h; exact ⟨rfl, by assumption⟩
theorem rep_nil {v : Value} (h : RepP S w v .nil) : v = .slice none 0 0 := by cases h; rfl
theorem rep_agg {v : Value} {cs : List PV} (h : RepP S w v (.agg cs)) : ∃ vs, v = .agg vs ∧ vs.size = cs.length ∧ (∀ u, u ∈ vs → u.oneCell' = true) ∧ ∀ (i : Nat) (u : Value) (x : PV), vs[i]? = some u → cs[i]? = some x → RepP S w u x := by
  cases h with
  | agg vs _ h1 h2 h3 => exact ⟨vs, rfl, h1, h2, h3⟩
theorem rep_tup {v : Value} {cs : List PV} (h : RepP S w v (.tup cs)) : ∃ vs, v = .tuple vs ∧ vs.size = cs.length ∧ ∀ (i : Nat) (u : Value) (x : PV), vs[i]? = some u → cs[i]? = some x → RepP S w u x := by
  cases h with
  | tup vs _ h1 h3 => exact ⟨vs, rfl, h1, h3⟩
theorem rep_sl {v : Value} {xs : List (List PV)} (h : RepP S w v (.sl xs)) : (Nil0 v ∧ xs = []) ∨ ∃ b off k cap, v = .slice (some ⟨b, off, none⟩) xs.length cap ∧ xs.length ≤ cap ∧ (∀ r, r ∈ xs → r.length = k) ∧
    ∀ (i : Nat) (r : List PV), xs[i]? = some r → RowAt S w b (off + i * k) r := by
  cases h with
  | nil' A => exact .inl ⟨⟨A, rfl⟩, rfl⟩
  | sl b off k cap _ c h1 h2 h3 h4 h5 =>
    refine .inr ⟨b, off, k, cap, rfl, h1, h2, fun i r hr j x hx => ?_⟩
    have hi : i < xs.length := (List.getElem?_eq_some_iff.1 hr).1
    have hj : j < k := by
      have := h2 r (List.mem_of_getElem? hr)
      rw [← this]
      exact (List.getElem?_eq_some_iff.1 hx).1
    exact ⟨h3 i j hi hj, c i j, (h4 i j hi hj).1, h5 i j r x hr hx, (h4 i j hi hj).2⟩
def OpndC (g : Key → C) (x : Operand) (c : C) : Prop :=
  match x with
  | .tmp t => c = g (.t t)
  | _ => c.own = none ∧ c.frm = none ∧ tmpOf x = none ∧ c.v.refs = []
/-- An operand. -/
theorem opnd_ev {x : Operand} {f : C → T} {K : List Key → List (Key × C) → Prop} (hK : ∀ k r v, K r v ↔ K (k :: r) v) (h : Rel Dr w0 E0 S0 N (fun κ => wr κ = true) g a w β S) (he : vcT G P (opnd x f) g wr K) :
    ∃ c, vcT G P (f c) g wr K ∧ RepF β S w (a.eval x) c.v ∧ OpndC g x c := by
  cases x with
  | tmp t =>
    refine ⟨g (.t t), ?_, h.tm t, rfl⟩
    have he' : vcT G P (f (g (.t t))) g wr (fun rs ws => K (.t t :: rs) ws) := he
    have hq : (fun rs ws => K (.t t :: rs) ws) = K := funext fun r => funext fun v => propext (hK _ r v).symm
    rw [hq] at he'
    exact he'
  | const v => exact ⟨_, he, constF_rep v, rfl, rfl, rfl, by
      show (constF v).refs = []
      unfold constF
      split
      · rfl
      · split <;> rfl
      · rfl
      · rfl⟩
  | global n => exact ⟨_, he, RepP.lit _ rfl, rfl, rfl, rfl, rfl⟩
  | func n => exact ⟨_, he, RepP.lit _ rfl, rfl, rfl, rfl, rfl⟩
theorem opnds_ev {K : List Key → List (Key × C) → Prop} (hK : ∀ k r v, K r v ↔ K (k :: r) v) (h : Rel Dr w0 E0 S0 N (fun κ => wr κ = true) g a w β S) : ∀ {xs : List Operand} {f : List C → T}, vcT G P (opnds xs f) g wr K →
    ∃ cs, vcT G P (f cs) g wr K ∧ cs.length = xs.length ∧ ∀ (i : Nat) x c, xs[i]? = some x → cs[i]? = some c → RepF β S w (a.eval x) c.v
  | [], f, he => ⟨[], he, rfl, fun i x c hx => by simp at hx⟩
  | x :: xs, f, he => by
    obtain ⟨c, he1, h1, _⟩ := opnd_ev hK h he
    obtain ⟨cs, he2, h2, h3⟩ := opnds_ev hK h (xs := xs) (f := fun cs => f (c :: cs)) he1
    refine ⟨c :: cs, he2, by simp [h2], fun i y d hy hd => ?_⟩
    cases i with
    | zero => simp at hy hd; subst hy; subst hd; exact h1
    | succ i => exact h3 i y d (by simpa using hy) (by simpa using hd)
theorem pvs_some : ∀ {cs : List C} {ps : List PV}, pvs cs = some ps → ps.length = cs.length ∧ ∀ (i : Nat) c p, cs[i]? = some c → ps[i]? = some p → c.v = .pv p
  | [], ps, h => by cases h; exact ⟨rfl, fun i c p hc => by simp at hc⟩
  | c :: cs, ps, h => by
    unfold pvs at h
    split at h
    · rename_i p ps' hp hps
      cases h
      obtain ⟨h1, h2⟩ := pvs_some hps
      refine ⟨by simp [h1], fun i d q hd hq => ?_⟩
      cases i with
      | zero => simp at hd hq; subst hd; subst hq; exact hp
      | succ i => exact h2 i d q (by simpa using hd) (by simpa using hq)
    · cases h

abbrev WrP (wr : Key → Bool) (ws : List (Key × C)) : Key → Prop := fun κ => wr κ = true ∨ κ ∈ keysOf ws
/-- What is handed on behind an operation. -/
def Next (Dr : Prop) (w0 : World) (E0 : Nat → Nat → Prop) (S0 : Nat → Nat → Prop) (N : Nat) (wr : Key → Bool) (g : Key → C) (ws : List (Key × C)) (K : Act → World → Prop) : Prop :=
  ∀ a' w' β' S', Rel Dr w0 E0 S0 N (WrP wr ws) (upds g ws) a' w' β' S' → PtrOK (upds g ws) → K a' w'
theorem ptrOK_upd (hp : PtrOK g) {κ : Key} {c : C} (hκ : ∀ i, κ ≠ .al i) (hc : ∀ i, i ∈ (c.v : FV).refs → (g (.al i)).v ≠ .un) : PtrOK (upd g κ c) := by
  intro κ' i h
  rw [upd_ne g c (fun e => hκ i e.symm)]
  by_cases e : κ' = κ
  · subst e; rw [upd_same] at h; exact hc i h
  · rw [upd_ne g c e] at h; exact hp κ' i h
section
variable {o : Oper} {K : Act → World → Prop} {Q : Exit → Act → World → Prop} {ws : List (Key × C)}
theorem finW (hN : Next Dr w0 E0 S0 N wr g ws K) (hd : dstOK N o = true) {c : C} {v : Value} {w' : World} (hrun : (execOp a.eval o).run P w = .ok (.value v) w') (h : Rel Dr w0 E0 S0 N (fun κ => wr κ = true) g a w' β S) (hp : PtrOK g)
    (hv : RepF β S w' v c.v) (hc : ∀ i, i ∈ (c.v : FV).refs → (g (.al i)).v ≠ .un) (how : c.own = none) (hf : ∀ κ', c.frm = some κ' → rv β a w' κ' = some v ∧ ∀ i o, κ' = .b i o → (g (.al i)).v ≠ .un)
    (he : vcT G P (W o.dst c) g wr (fun _ v => v = ws)) : o.wp P a w K Q := by
  unfold Oper.wp
  rw [hrun]
  show K (a.put o.dst v) w'
  unfold dstOK at hd
  cases hdst : o.dst with
  | none =>
    rw [hdst] at he
    have he' : ([] : List (Key × C)) = ws := he
    subst he'
    exact hN _ _ β S (h.wider (fun κ hk => .inl hk)) hp
  | some d =>
    rw [hdst] at he hd
    have he' : [(Key.t d, c)] = ws := he
    subst he'
    refine hN _ _ β S (h.put (by simpa [Nat.blt_eq] using hd) hv (by rw [how]; exact ownV_none _ _) (fun κ' hk _ _ => hf κ' hk) (fun κ hk => .inl hk) (.inr (by simp [keysOf]))) (ptrOK_upd hp (fun i => by simp) hc)
theorem finWP (hN : Next Dr w0 E0 S0 N wr g ws K) (hd : dstOK N o = true) {p : PV} {v : Value} {w' : World} (hrun : (execOp a.eval o).run P w = .ok (.value v) w') (h : Rel Dr w0 E0 S0 N (fun κ => wr κ = true) g a w' β S) (hp : PtrOK g)
    (hv : RepP S w' v p) (he : vcT G P (WP o.dst p) g wr (fun _ v => v = ws)) : o.wp P a w K Q :=
  finW hN hd hrun h hp (c := ⟨.pv p, none, none⟩) hv (fun i e => by simp [FV.refs] at e) rfl (fun κ' e => by cases e) he
theorem finWV (hN : Next Dr w0 E0 S0 N wr g ws K) (hd : dstOK N o = true) {x : FV} {v : Value} {w' : World} (hrun : (execOp a.eval o).run P w = .ok (.value v) w') (h : Rel Dr w0 E0 S0 N (fun κ => wr κ = true) g a w' β S) (hp : PtrOK g)
    (hv : RepF β S w' v x) (hc : ∀ i, i ∈ (x : FV).refs → (g (.al i)).v ≠ .un) (he : vcT G P (WV o.dst x) g wr (fun _ v => v = ws)) : o.wp P a w K Q :=
  finW hN hd hrun h hp (c := ⟨x, none, none⟩) hv hc rfl (fun κ' e => by cases e) he
theorem hKt : ∀ (k : Key) (r : List Key) (v : List (Key × C)), (fun (_ : List Key) v => v = ws) r v ↔ (fun (_ : List Key) v => v = ws) (k :: r) v := fun _ _ _ => Iff.rfl
theorem ptr_live (h : Rel Dr w0 E0 S0 N (fun κ => wr κ = true) g a w β S) (hp : PtrOK g) {x : Operand} {c : C} (hc : OpndC g x c) :
    ∀ i, i ∈ (c.v : FV).refs → (g (.al i)).v ≠ .un := by
  intro i e
  cases x with
  | tmp t => subst hc; exact hp _ _ e
  | _ => rw [hc.2.2.2] at e; simp at e
/-! ### moves -/
theorem move_ok (x : Operand) (ho : o.op = .move x) (h : Rel Dr w0 E0 S0 N (fun κ => wr κ = true) g a w β S) (hp : PtrOK g) (hd : dstOK N o = true) (hN : Next Dr w0 E0 S0 N wr g ws K)
    (he : vcT G P (opT P τ o) g wr (fun _ v => v = ws)) : o.wp P a w K Q := by
  simp only [opT, ho] at he
  obtain ⟨c, he, hv, hc⟩ := opnd_ev hKt h he
  refine finW hN hd (v := a.eval x) (by simp [execOp, ho]) h hp (c := ⟨c.v, none, tmpOf x⟩) hv (ptr_live (c := c) h hp hc) rfl ?_ he
  intro κ' e
  cases x with
  | tmp t => cases e; exact ⟨rfl, fun _ _ e => by cases e⟩
  | _ => cases e
theorem assign_ok (x : Operand) (ho : o.op = .assign x) (h : Rel Dr w0 E0 S0 N (fun κ => wr κ = true) g a w β S) (hp : PtrOK g) (hd : dstOK N o = true) (hN : Next Dr w0 E0 S0 N wr g ws K)
    (he : vcT G P (opT P τ o) g wr (fun _ v => v = ws)) : o.wp P a w K Q := by
  simp only [opT, ho] at he
  obtain ⟨c, he, hv, hc⟩ := opnd_ev hKt h he
  have hrun : (execOp a.eval o).run P w = .ok (.value (a.eval x)) w := by simp [execOp, ho]
  split at he
  · rename_i p kx d hown hk hdst
    cases x with
    | tmp t =>
      have hc' : c = g (.t t) := hc
      cases hk
      have he' : [(Key.t t, (⟨c.v, none, c.frm⟩ : C)), (.t d, ⟨c.v, some p, none⟩)] = ws := he
      unfold Oper.wp
      rw [hrun]
      show K (a.put o.dst _) w
      rw [hdst]
      subst he'
      have h1 := h.drop (.t t) (fun i => by simp)
      have e1 : upd g (.t t) { g (.t t) with own := none } = upd g (.t t) ⟨c.v, none, c.frm⟩ := by rw [← hc']
      rw [e1] at h1
      have hp1 : PtrOK (upd g (.t t) ⟨c.v, none, c.frm⟩) := ptrOK_upd hp (fun i => by simp) (ptr_live (c := c) h hp hc)
      refine hN _ _ β S (h1.put (c := ⟨c.v, some p, none⟩) (by unfold dstOK at hd; rw [hdst] at hd; simpa [Nat.blt_eq] using hd) hv ?_ (fun κ' e => by cases e) (fun κ hk => .inl hk) (.inr (by simp [keysOf]))) (ptrOK_upd hp1 (fun i => by simp) (fun i e => by rw [upd_ne _ _ (by simp)]; exact ptr_live h hp hc i e))
      obtain ⟨v, k1, k2⟩ := h.dropF (.t t) (p := p) (by rw [← hc', hown])
      have hv' : v = a.eval (.tmp t) := by cases k1; rfl
      subst hv'
      rw [e1] at k2
      exact k2.ownV _
    | _ => cases hk
  · exact finWV hN hd hrun h hp hv (ptr_live h hp hc) he
theorem pick_ok (x y z : Operand) (ho : o.op = .pick x y z) (h : Rel Dr w0 E0 S0 N (fun κ => wr κ = true) g a w β S) (hp : PtrOK g) (hd : dstOK N o = true) (hN : Next Dr w0 E0 S0 N wr g ws K)
    (he : vcT G P (opT P τ o) g wr (fun _ v => v = ws)) : o.wp P a w K Q := by
  simp only [opT, ho] at he
  obtain ⟨c, he, hv, hc⟩ := opnd_ev hKt h he
  split at he
  · rename_i b hcv
    rw [hcv] at hv
    have hb : a.eval x = .bool b := (rep_lit hv).1
    cases b with
    | true =>
      have he' : vcT G P (opnd y fun ca => WV o.dst ca.v) g wr (fun _ v => v = ws) := he
      obtain ⟨c2, he2, hv2, hc2⟩ := opnd_ev hKt h he'
      exact finWV hN hd (v := a.eval y) (by simp [execOp, ho, hb, asBool]) h hp hv2 (ptr_live h hp hc2) he2
    | false =>
      have he' : vcT G P (opnd z fun ca => WV o.dst ca.v) g wr (fun _ v => v = ws) := he
      obtain ⟨c2, he2, hv2, hc2⟩ := opnd_ev hKt h he'
      exact finWV hN hd (v := a.eval z) (by simp [execOp, ho, hb, asBool]) h hp hv2 (ptr_live h hp hc2) he2
  · exact he.elim
end
end
end Go.Proofs.YtbjfmkmaghapgaaGreatDoor.B
