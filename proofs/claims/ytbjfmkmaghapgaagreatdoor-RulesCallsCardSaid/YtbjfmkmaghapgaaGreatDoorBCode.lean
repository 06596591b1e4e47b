/-
The logic of pure values, continued: a function's code, and its calls. Condition: none.
-/
import Derived.Test.YtbjfmkmaghapgaaGreatDoorBReg3
set_option linter.unusedVariables false
set_option linter.unusedSimpArgs false
namespace Go.Proofs.YtbjfmkmaghapgaaGreatDoor.B
open Go.RowKit

theorem parts_nilv {p : TypeId × Nat} {q : Part} (h : q ∈ partsO p (.slice none 0 0)) : q = (p.1, p.2, .slice none 0 0) := by
  unfold partsO at h
  split at h
  · simp at h
  · simpa using h
theorem blkL_nilv {p : TypeId × Nat} {b : Nat} : ¬ BlkL (partsO p (.slice none 0 0)) b := fun ⟨q, hq, hb⟩ => by
  rw [parts_nilv hq] at hb
  cases hb
theorem owsL_nilv {p : TypeId × Nat} {H : Nat → Prop} {w : World} {S : Nat → Nat → Prop} : OwsL H w S (partsO p (.slice none 0 0)) := by
  refine ⟨fun q hq => ?_, ?_⟩
  · rw [parts_nilv hq]
    exact ⟨⟨0, [], World.ownsRow_nil _ _ _ _, fun b hb => by cases hb⟩, fun b hb => by cases hb⟩
  · unfold partsO
    split
    · exact List.Pairwise.nil
    · exact List.pairwise_singleton _ _
structure Weak (g g' : Key → C) : Prop where
  v : ∀ κ, (∀ i, κ ≠ .al i) → (g' κ).v = .un ∨ (g' κ).v = (g κ).v ∨ ((g κ).v = .pv .nil ∧ (g' κ).v = .pv (.sl []))
  o : ∀ κ p, (g' κ).own = some p → (g κ).own = some p ∨ (g κ).v = .pv .nil
  ol : ∀ i, (g' (.al i)).own = none
  f : ∀ t κ', (g' (.t t)).frm = some κ' → (g (.t t)).frm = some κ' ∧ ∀ i o, κ' = .b i o → (g' (.al i)).v ≠ .un
  al : ∀ i, (g' (.al i)).v ≠ .un → (g (.al i)).v ≠ .un
  b : ∀ i o, (g' (.b i o)).v ≠ .un ∨ (g' (.b i o)).own ≠ none → (g' (.al i)).v ≠ .un
section
variable {G : World → Prop} {P : Program} {τ : Tau} {Dr : Prop} {w0 : World} {E0 : Nat → Nat → Prop} {S0 : Nat → Nat → Prop} {N : Nat} {wr : Key → Prop} {g g' : Key → C} {a : Act} {w : World} {β : Nat → Nat} {S : Nat → Nat → Prop}
theorem Rel.weak (h : Rel Dr w0 E0 S0 N wr g a w β S) (hw : Weak g g') : Rel Dr w0 E0 S0 N wr g' a w β S := by
  have hrep : ∀ κ, (∀ i, κ ≠ .al i) → ∀ u, RepF β S w u (g κ).v → RepF β S w u (g' κ).v := fun κ hκ u hu => by
    rcases hw.v κ hκ with e | e | ⟨e1, e2⟩
    · rw [e]; trivial
    · rw [e]; exact hu
    · rw [e1] at hu
      rw [e2]
      have hu' : RepP S w u .nil := hu
      rw [rep_nil hu']
      exact RepP.nil' _
  -- a key that owns in g' owns in g, or is empty
  have hown : ∀ κ p, (g' κ).own = some p → There g κ ∧ ((g κ).own = some p ∨ rv β a w κ = some (.slice none 0 0)) := fun κ p hp => by
    cases κ with
    | t t =>
      refine ⟨trivial, (hw.o _ p hp).imp id (fun e => ?_)⟩
      have := h.tm t
      rw [e] at this
      have this' : RepP S w (a.tmps.getD t undef) .nil := this
      show some (a.tmps.getD t undef) = _
      rw [rep_nil this']
    | b i o =>
      rcases hw.o _ p hp with e | e
      · exact ⟨h.blv i o (by rw [e]; simp), .inl e⟩
      · obtain ⟨h0, h4⟩ := h.bx i o (by rw [e]; simp)
        rw [e] at h0
        obtain ⟨hc, c, h1, h2, _⟩ := h0
        have h2' : RepP S w c .nil := h2
        rw [rep_nil h2'] at h1
        exact ⟨h4, .inr ((rv_b hc).trans h1)⟩
    | al i => rw [hw.ol i] at hp; cases hp
  constructor
  · exact h.below
  · exact h.df
  · exact h.tsz
  · exact h.s0
  · exact h.sc
  · exact h.sn
  · exact h.sa
  · exact fun t => hrep (.t t) (fun i => by simp) _ (h.tm t)
  · intro i o hne
    refine ⟨?_, hw.b i o (.inl hne)⟩
    rcases hw.v (.b i o) (fun i => by simp) with e' | e' | ⟨e1, e2⟩
    · exact absurd e' hne
    · rw [e'] at hne ⊢
      exact (h.bx i o hne).1
    · obtain ⟨h0, _⟩ := h.bx i o (by rw [e1]; simp)
      rw [e1] at h0
      obtain ⟨hc, c, h1, h2, h3⟩ := h0
      rw [e2]
      have h2' : RepP S w c .nil := h2
      exact ⟨hc, c, h1, by rw [rep_nil h2']; exact RepP.nil' _, h3⟩
  · exact fun i hi => h.al i (hw.al i hi)
  · exact fun i j hi hj => h.inj i j (hw.al i hi) (hw.al j hj)
  · intro κ p hk
    rcases (hown κ _ hk).2 with e1 | e1
    · obtain ⟨v, k1, k2⟩ := h.own κ p e1
      exact ⟨v, k1, k2.imp (fun b _ hb => ⟨hb.1, fun i hi => hb.2 i (hw.al i hi)⟩)⟩
    · exact ⟨_, e1, owsL_nilv⟩
  · intro κ κ' v v' b h3 h4 h5 h6
    have q : ∀ κ v b, rv β a w κ = some v → Blk (g' κ).own v b → Blk (g κ).own v b := fun κ v b h3 h5 => by
      obtain ⟨p, hp, hb⟩ := blk_some h5
      rcases (hown κ p hp).2 with e1 | e1
      · rw [e1]; exact hb
      · rw [h3] at e1; cases e1; exact absurd hb blkL_nilv
    exact h.ownd κ κ' v v' b h3 h4 (q κ v b h3 h5) (q κ' v' b h4 h6)
  · intro t κ' h1 h2
    obtain ⟨k1, k2⟩ := hw.f t κ' h1
    exact ⟨(h.frm t κ' k1 h2).1, k2⟩
  · exact fun i o hne => hw.b i o (.inr hne)
  · exact h.dr
/-! ### frames -/
def RelS (Dr : Prop) (w0 : World) (E0 : Nat → Nat → Prop) (S0 : Nat → Nat → Prop) (N : Nat) (s : St) (a : Act) (w : World) : Prop := ∃ β S, Rel Dr w0 E0 S0 N (fun _ => False) s.get a w β S ∧ PtrOK s.get
theorem getL_clr : ∀ (cs : List C) (i : Nat), getL (clrL cs) i = ⟨(getL cs i).v, (getL cs i).own, none⟩
  | [], i => rfl
  | c :: cs, 0 => rfl
  | c :: cs, i + 1 => getL_clr cs i
theorem clear_rel {s : St} (h : Rel Dr w0 E0 S0 N wr s.get a w β S) (hp : PtrOK s.get) : RelS Dr w0 E0 S0 N s.clear a w := by
  have ht : ∀ t, s.clear.get (.t t) = ⟨(s.get (.t t)).v, (s.get (.t t)).own, none⟩ := fun t => getL_clr _ _
  have hW : Weak s.get s.clear.get := by
    refine ⟨fun κ hκ => .inr (.inl ?_), fun κ p hp => .inl ?_, fun i => ?_, fun t κ' e => ?_, fun i hi => hi, fun i o ho => ?_⟩
    · cases κ with
      | t t => rw [ht]
      | b i o => rfl
      | al i => exact absurd rfl (hκ i)
    · cases κ with
      | t t => rw [ht] at hp; exact hp
      | b i o => exact hp
      | al i => exact hp
    · show (match getB s.boxes i with | some _ => liveC | none => unC).own = none
      cases getB s.boxes i <;> rfl
    · rw [ht] at e; cases e
    · have hb : (s.get (.b i o)).v ≠ .un ∨ (s.get (.b i o)).own ≠ none := ho
      show (s.get (.al i)).v ≠ .un
      rcases hb with hb | hb
      · exact (h.bx i o hb).2
      · exact h.blv i o hb
  have h1 := h.weak hW
  refine ⟨β, S, { h1 with frm := fun t κ' e => by rw [ht] at e; cases e }, fun κ i e => ?_⟩
  have e' : i ∈ (s.get κ).v.refs := by
    cases κ with
    | t t => rw [ht] at e; exact e
    | b i o => exact e
    | al i => exact e
  exact hp κ i e'
/-! ### loops' heads -/
theorem leL_at : ∀ {cs ds : List C}, leL cs ds → ∀ i, cle (getL cs i) (getL ds i)
  | [], [], _, i => by simp [getL, cle, unC]
  | c :: cs, d :: ds, h, 0 => h.1
  | c :: cs, d :: ds, h, i + 1 => leL_at h.2 i
  | [], d :: ds, h, i => h.elim
  | c :: cs, [], h, i => h.elim
theorem leB_at {s : List (Nat × List C)} : ∀ {t : List (Nat × List C)}, leB s t → ∀ i ds, getB t i = some ds → ∃ cs, getB s i = some cs ∧ leL cs ds
  | [], _, i, ds, h => by simp [getB] at h
  | (j, es) :: r, h, i, ds, hd => by
    by_cases e : j = i
    · subst e
      simp [getB] at hd
      subst hd
      have h1 := h.1
      cases hs : getB s j with
      | none => rw [hs] at h1; exact h1.elim
      | some cs => rw [hs] at h1; exact ⟨cs, rfl, h1⟩
    · simp only [getB, if_neg e] at hd
      exact leB_at h.2 i ds hd
theorem cle_spec {c d : C} (h : cle c d) : (d.v = .un ∨ d.v = c.v ∨ (c.v = .pv .nil ∧ d.v = .pv (.sl []))) ∧ (∀ p, d.own = some p → c.own = some p ∨ c.v = .pv .nil) ∧ d.frm = none := by
  obtain ⟨dv, dow, df⟩ := d
  obtain ⟨cv, cow, cf⟩ := c
  unfold cle at h
  simp only at h ⊢
  split at h
  · exact ⟨.inl rfl, (fun p e => by cases e), rfl⟩
  · rename_i xs ow
    split at h
    · subst h
      exact ⟨.inr (.inr ⟨rfl, rfl⟩), (fun p _ => .inr rfl), rfl⟩
    · obtain ⟨h1, h2⟩ := h
      refine ⟨.inr (.inl h1.symm), fun p e => ?_, rfl⟩
      subst e
      exact .inl h2
  · exact ⟨.inr (.inl h.symm), (fun p e => by cases e), rfl⟩
  · exact h.elim
theorem liveAll_at {bx : List (Nat × List C)} : ∀ {l : List Nat}, liveAll bx l = true → ∀ i, i ∈ l → (getB bx i).isSome = true
  | [], _, i, e => by simp at e
  | j :: r, h, i, e => by
    simp only [liveAll, Bool.and_eq_true] at h
    rcases List.mem_cons.1 e with e | e
    · subst e; exact h.1
    · exact liveAll_at h.2 i e
theorem ptrL_at {bx : List (Nat × List C)} : ∀ {cs : List C}, ptrL bx cs = true → ∀ k i, i ∈ (getL cs k).v.refs → (getB bx i).isSome = true
  | [], _, k, i, e => by simp [getL, unC, FV.refs] at e
  | c :: cs, h, k, i, e => by
    simp only [ptrL, Bool.and_eq_true] at h
    cases k with
    | zero => exact liveAll_at h.1 i e
    | succ k => exact ptrL_at h.2 k i e
theorem ptrB_at {bx : List (Nat × List C)} : ∀ {bs : List (Nat × List C)}, ptrB bx bs = true → ∀ j cs, getB bs j = some cs → ptrL bx cs = true
  | [], _, j, cs, e => by simp [getB] at e
  | (j', cs') :: r, h, j, cs, e => by
    simp only [ptrB, Bool.and_eq_true] at h
    by_cases hj : j' = j
    · subst hj
      simp [getB] at e
      subst e
      exact h.1
    · simp only [getB, if_neg hj] at e
      exact ptrB_at h.2 j cs e
theorem al_live {s : St} {i : Nat} : (s.get (.al i)).v ≠ .un ↔ (getB s.boxes i).isSome = true := by
  show (match getB s.boxes i with | some _ => liveC | none => unC).v ≠ .un ↔ _
  cases getB s.boxes i <;> simp [liveC, unC]
theorem le_rel {s t : St} (h : RelS Dr w0 E0 S0 N s a w) (hle : s.le t) : RelS Dr w0 E0 S0 N t a w := by
  obtain ⟨β, S, h, hp⟩ := h
  obtain ⟨h1, h2, h3⟩ := hle
  rw [Bool.and_eq_true] at h3
  have hcl : ∀ κ, (∀ i, κ ≠ .al i) → cle (s.get κ) (t.get κ) := fun κ hκ => by
    cases κ with
    | t i => exact leL_at h1 i
    | b i o =>
      show cle (match getB s.boxes i with | some cs => getL cs o | none => unC) (match getB t.boxes i with | some cs => getL cs o | none => unC)
      cases ht : getB t.boxes i with
      | none => simp [cle, unC]
      | some ds =>
        obtain ⟨cs, e1, e2⟩ := leB_at h2 i ds ht
        rw [e1]
        exact leL_at e2 o
    | al i => exact absurd rfl (hκ i)
  have hW : Weak s.get t.get := by
    refine ⟨fun κ hκ => (cle_spec (hcl κ hκ)).1, fun κ p e => ?_, fun i => ?_, fun q κ' e => ?_, fun i hi => ?_, fun i o hne => ?_⟩
    · cases κ with
      | al i =>
        have : (t.get (.al i)).own = none := by
          show (match getB t.boxes i with | some _ => liveC | none => unC).own = none
          cases getB t.boxes i <;> rfl
        rw [this] at e; cases e
      | t i => exact (cle_spec (hcl _ (fun i => by simp))).2.1 p e
      | b i o => exact (cle_spec (hcl _ (fun i => by simp))).2.1 p e
    · show (match getB t.boxes i with | some _ => liveC | none => unC).own = none
      cases getB t.boxes i <;> rfl
    · have := (cle_spec (hcl (.t q) (fun i => by simp))).2.2
      rw [this] at e; cases e
    · rw [al_live] at hi ⊢
      obtain ⟨ds, hd⟩ := Option.isSome_iff_exists.1 hi
      obtain ⟨cs, e1, _⟩ := leB_at h2 i ds hd
      rw [e1]; rfl
    · rw [al_live]
      have hne' : (match getB t.boxes i with | some cs => getL cs o | none => unC).v ≠ .un ∨ (match getB t.boxes i with | some cs => getL cs o | none => unC).own ≠ none := hne
      cases ht : getB t.boxes i with
      | none => rw [ht] at hne'; simp [unC] at hne'
      | some ds => rfl
  refine ⟨β, S, h.weak hW, fun κ i e => ?_⟩
  rw [al_live]
  cases κ with
  | t q => exact ptrL_at h3.1 q i e
  | b j o' =>
    have e' : i ∈ (match getB t.boxes j with | some cs => getL cs o' | none => unC).v.refs := e
    cases ht : getB t.boxes j with
    | none => rw [ht] at e'; simp [unC, FV.refs] at e'
    | some ds =>
      rw [ht] at e'
      exact ptrL_at (ptrB_at h3.2 j ds ht) o' i e'
  | al j =>
    have e' : i ∈ (match getB t.boxes j with | some _ => liveC | none => unC).v.refs := e
    cases ht : getB t.boxes j <;> rw [ht] at e' <;> simp [unC, liveC, FV.refs] at e'
/-! ### code -/
def exOf : Ex → Exit
  | .normal => .normal
  | .exit id => .exit id
  | .ret => .ret
theorem drawn_ok (hG : GOK Dr E0 w0 G) (hτ : TauOK P τ) (hm : P.follows .mixedOrders = true) {id : Nat} {ops : Array Oper} {s : St} {K : Ex → St → Prop} {Q : Exit → Act → World → Prop}
    (h : vcOps G P τ N ops.toList ops.toList s [] [] (fun s' tr => if orderOK ops.toList tr = true then K .normal s'.clear else False))
    (hQ : ∀ s' a' w', K .normal s' → RelS Dr w0 E0 S0 N s' a' w' → Q .normal a' w') (hr : RelS Dr w0 E0 S0 N s a w) : (Code.region id ops true).wp P Q a w := by
  obtain ⟨β, S, hr, hp⟩ := hr
  obtain ⟨E, e1, e2, s', e3, e4⟩ := vcOps_chain _ _ _ _ h
  rw [List.append_nil] at e4
  split at e4
  · rename_i hcond
    have hC : Chain G P τ N ops.toList s.get E := ⟨e1, e2⟩
    have hF0 : F (fun _ => false) 0 (E.map (·.2)) s.get = s.get := by
      have q : ∀ (r : List (List (Key × C))) (o : Nat) (g : Key → C), F (fun _ => false) o r g = g := by
        intro r
        induction r with
        | nil => intros; rfl
        | cons x r ih => intro o g; exact ih (o + 1) g
      exact q _ _ _
    have hK : ∀ a' w' β' S', Rel Dr w0 E0 S0 N (wrD E (fun i => decide (i < ops.toList.length))) (F (fun i => decide (i < ops.toList.length)) 0 (E.map (·.2)) s.get) a' w' β' S' → PtrOK (F (fun i => decide (i < ops.toList.length)) 0 (E.map (·.2)) s.get) → Q .normal a' w' := by
      intro a' w' β' S' hr' hp'
      have hD : F (fun i => decide (i < ops.toList.length)) 0 (E.map (·.2)) s.get = s'.get := by
        rw [e3]
        funext k
        refine F_agree _ 0 (fun i ws hi hk => ?_) rfl
        have : i < (E.map (·.2)).length := (List.getElem?_eq_some_iff.1 hi).1
        simp only [List.length_map] at this
        rw [Nat.zero_add]
        simp only [decide_eq_true_eq]
        omega
      rw [hD] at hr' hp'
      exact hQ _ a' w' e4 (clear_rel hr' hp')
    have hops : ops.toList.toArray = ops := Array.toArray_toList
    have hcond' : orderOK ops.toList ((E.map fun e => (e.1, keysOf e.2)).reverse) = true := by simpa using hcond
    unfold orderOK at hcond'
    rw [List.reverse_reverse, Bool.and_eq_true] at hcond'
    refine wp_region_any hm ?_
    have hD : (fun i => (Array.replicate ops.toList.length false).getD i false) = fun _ : Nat => false := by
      funext i
      rw [Array.getD_eq_getD_getElem?, Array.getElem?_replicate]
      split <;> rfl
    have := any_ok (w0 := w0) (S0 := S0) hC hG hτ hcond'.1 hcond'.2 hK ops.toList.length (Array.replicate ops.toList.length false) (a := a) (w := w.drew) (β := β) (S := S) (by simp) (by
      have e : ((List.range ops.toList.length).filter fun i => !(Array.replicate ops.toList.length false).getD i true) = List.range ops.toList.length := by
        refine List.filter_eq_self.2 (fun i hi => ?_)
        rw [Array.getD_eq_getD_getElem?, Array.getElem?_replicate, if_pos (List.mem_range.1 hi)]
        rfl
      rw [e, List.length_range]) (fun i o hi => by rw [congrFun hD i] at hi; cases hi) (by
      rw [hD, hF0]
      exact (hr.world ((Below.refl _ _).drew) (fun _ => Nat.le_succ _)).wider (fun κ hκ => hκ.elim)) (by rw [hD, hF0]; exact hp)
    rw [hops] at this
    simpa using this
  · exact e4.elim
theorem vcSeq_ok {ops : List Oper} (hG : GOK Dr E0 w0 G) (hτ : TauOK P τ) {K : St → Prop} {Q : Exit → Act → World → Prop} (hK : ∀ s' a' w' β' S' (wr' : Key → Prop), K s' → Rel Dr w0 E0 S0 N wr' s'.get a' w' β' S' → PtrOK s'.get → Q .normal a' w') :
    ∀ (rest : List Oper) (i : Nat), ops.drop i = rest → ∀ {s : St} {L : List Key} {a : Act} {w : World} {β : Nat → Nat} {S : Nat → Nat → Prop}, vcSeq G P τ N ops rest s L K → Rel Dr w0 E0 S0 N (fun κ => memK κ L = true) s.get a w β S → PtrOK s.get →
      wpOps P ops.toArray Q (List.range' i rest.length) a w
  | [], i, _, s, L, a, w, β, S, h, hr, hp => hK s a w β S _ h hr hp
  | o :: rest, i, hdr, s, L, a, w, β, S, h, hr, hp => by
    have hio : ops[i]? = some o := by have := congrArg (fun l : List Oper => l[0]?) hdr; simpa [List.getElem?_drop] using this
    have hdr' : ops.drop (i + 1) = rest := by rw [← List.drop_drop, hdr]; rfl
    show wpOps P ops.toArray Q (List.range' i (rest.length + 1)) a w
    rw [List.range'_succ, wpOps_cons]
    have hnext : ∀ {ws : List (Key × C)}, s.valid ws = true → vcSeq G P τ N ops rest (s.sets ws) (keysOf ws ++ L) K → Next Dr w0 E0 S0 N (fun κ => memK κ L) s.get ws (fun a' w' => wpOps P ops.toArray Q (List.range' (i + 1) rest.length) a' w') := fun {ws} hval hv a' w' β' S' hr' hp' => by
      have hg : (s.sets ws).get = upds s.get ws := St.sets_get hval
      rw [← hg] at hr' hp'
      exact vcSeq_ok hG hτ hK rest (i + 1) hdr' hv (hr'.wider (fun κ hκ => by
        rw [memK_iff, List.mem_append]
        exact hκ.elim (fun h => .inr (memK_iff.1 h)) .inl)) hp'
    unfold vcSeq at h
    split at h
    · rename_i hd
      split at h
      · rename_i it str hnx
        have hon : o.op = .next it str ∧ o.guard = none := by
          unfold isNext at hnx
          split at hnx
          · rename_i h1 h2; cases hnx; exact ⟨h1, h2⟩
          · cases hnx
        unfold wpOp
        rw [show ops.toArray[i]? = some o by simpa using hio]
        show if Region.wanted o (yielded ops.toArray a.tmps) = true then _ else _
        rw [if_pos (by simp [Region.wanted, hon.2])]
        refine .inl (next_ok (wr := fun κ => memK κ L) hon.1 hr hp hd h (fun ws hc => ?_))
        split at hc
        · rename_i hval
          exact hnext hval hc
        · exact hc.elim
      · split at h
        · rename_i neg ty x hnl
          have hon : (∃ yt, o.op = .binOp (if neg = true then .neq else .eql) ty x (.const (.slice none 0 0)) yt) ∧ o.guard = none := by
            unfold isNil at hnl
            split at hnl
            · rename_i h1 h2; cases hnl; exact ⟨⟨_, h1⟩, h2⟩
            · rename_i h1 h2; cases hnl; exact ⟨⟨_, h1⟩, h2⟩
            · cases hnl
          obtain ⟨⟨yt, ho⟩, hgd⟩ := hon
          unfold wpOp
          rw [show ops.toArray[i]? = some o by simpa using hio]
          show if Region.wanted o (yielded ops.toArray a.tmps) = true then _ else _
          rw [if_pos (by simp [Region.wanted, hgd])]
          refine .inl (nil_ok (wr := fun κ => memK κ L) hτ ho hr hp hd h (fun ws hc => ?_))
          split at hc
          · rename_i hval
            exact hnext hval hc
          · exact hc.elim
        · obtain ⟨rs, ws, he, hk⟩ := vcT_ev _ h
          split at hk
          · rename_i hval
            exact gop_ok hG hτ hio hr hp hd (hnext hval hk) (vcT_mono _ (fun r v hh => hh.2) he)
          · exact hk.elim
    · exact h.elim
theorem region_ok (hG : GOK Dr E0 w0 G) (hτ : TauOK P τ) (hm : P.follows .mixedOrders = true) {id : Nat} {ops : Array Oper} {draw : Bool} {s : St} {K : Ex → St → Prop} {Q : Exit → Act → World → Prop}
    (h : vc G P τ N (.region id ops draw) s K) (hQ : ∀ s' a' w', K .normal s' → RelS Dr w0 E0 S0 N s' a' w' → Q .normal a' w') (hr : RelS Dr w0 E0 S0 N s a w) : (Code.region id ops draw).wp P Q a w := by
  cases draw with
  | true => exact drawn_ok hG hτ hm h hQ hr
  | false =>
    obtain ⟨β, S, hr, hp⟩ := hr
    have h' : vcSeq G P τ N ops.toList ops.toList s [] (fun s' => K .normal s'.clear) := h
    refine wp_region ?_
    have := vcSeq_ok (ops := ops.toList) (Q := Q) hG hτ (fun s' a' w' β' S' wr' hk hr' hp' => hQ _ a' w' hk (clear_rel hr' hp')) ops.toList 0 (by simp) h' (hr.wider (fun κ hκ => hκ.elim)) hp
    have hops : ops.toList.toArray = ops := Array.toArray_toList
    rw [hops] at this
    rw [List.range_eq_range']
    simpa using this
theorem least {p : Nat → Prop} (h : ∃ n, p n) : ∃ n, p n ∧ ∀ m, p m → n ≤ m := by
  obtain ⟨n, hn⟩ := h
  induction n using Nat.strongRecOn with
  | _ n ih =>
    by_cases hm : ∃ m, m < n ∧ p m
    · obtain ⟨m, h1, h2⟩ := hm
      exact ih m h1 h2
    · exact ⟨n, hn, fun m hpm => Nat.le_of_not_lt (fun hlt => hm ⟨m, hlt, hpm⟩)⟩
open Classical in
theorem vc_ok (hG : GOK Dr E0 w0 G) (hτ : TauOK P τ) (hm : P.follows .mixedOrders = true) : ∀ (c : Code) {s : St} {K : Ex → St → Prop} {Q : Exit → Act → World → Prop} {a : Act} {w : World},
    vc G P τ N c s K → (∀ x s' a' w', K x s' → RelS Dr w0 E0 S0 N s' a' w' → Q (exOf x) a' w') → RelS Dr w0 E0 S0 N s a w → c.wp P Q a w
  | .skip, s, K, Q, a, w, h, hQ, hr => wp_skip (hQ .normal s a w h hr)
  | .label l, s, K, Q, a, w, h, hQ, hr => wp_label (hQ .normal s a w h hr)
  | .region id ops draw, s, K, Q, a, w, h, hQ, hr => region_ok hG hτ hm h (fun s' a' w' hk hr' => hQ .normal s' a' w' hk hr') hr
  | .seq x y, s, K, Q, a, w, h, hQ, hr => by
    refine wp_seq (vc_ok hG hτ hm x h (fun e s' a' w' hk hr' => ?_) hr)
    cases e with
    | normal => exact vc_ok hG hτ hm y hk hQ hr'
    | exit id => exact hQ (.exit id) s' a' w' hk hr'
    | ret => exact hQ .ret s' a' w' hk hr'
  | .cond c x y, s, K, Q, a, w, h, hQ, hr => by
    unfold vc at h
    split at h
    · rename_i t ht
      have he : a.eval c = .bool t := by
        obtain ⟨β, S, hr, _⟩ := hr
        cases c with
        | tmp q =>
          have ht' : (s.get (.t q)).v = .pv (.lit (.bool t)) := ht
          have := hr.tm q
          rw [ht'] at this
          exact (rep_lit this).1
        | const v =>
          have := constF_rep (β := β) (S := S) (w := w) v
          have ht' : constF v = .pv (.lit (.bool t)) := ht
          rw [ht'] at this
          exact (rep_lit this).1
        | global _ => cases ht
        | func _ => cases ht
      refine wp_cond he ?_
      by_cases hb : t = true
      · rw [if_pos hb] at h ⊢
        exact vc_ok hG hτ hm x h hQ hr
      · rw [if_neg hb] at h ⊢
        exact vc_ok hG hτ hm y h hQ hr
    · exact h.elim
  | .block id b, s, K, Q, a, w, h, hQ, hr => by
    refine wp_block (vc_ok hG hτ hm b h (fun e s' a' w' hk hr' => ?_) hr)
    cases e with
    | normal => exact hQ .normal s' a' w' hk hr'
    | exit j =>
      show Exit.inBlock id Q (.exit j) a' w'
      unfold Exit.inBlock
      simp only at hk ⊢
      by_cases hj : j = id
      · rw [if_pos hj] at hk ⊢
        exact hQ .normal s' a' w' hk hr'
      · rw [if_neg hj] at hk ⊢
        exact hQ (.exit j) s' a' w' hk hr'
    | ret => exact hQ .ret s' a' w' hk hr'
  | .loop b, s, K, Q, a, w, h, hQ, hr => by
    rcases h with ⟨n0, h⟩ | h
    · let Inv : Act → World → Prop := fun a w => ∃ n s, vcN (fun s K => vc G P τ N b s K) K n s ∧ RelS Dr w0 E0 S0 N s a w
      let M : Act → World → Nat := fun a w => if h : ∃ n, ∃ s, vcN (fun s K => vc G P τ N b s K) K n s ∧ RelS Dr w0 E0 S0 N s a w then Classical.choose (least h) else 0
      refine wp_loop Inv M ⟨n0, s, h, hr⟩ (fun a w hI => ?_)
      have hex : ∃ n, ∃ s, vcN (fun s K => vc G P τ N b s K) K n s ∧ RelS Dr w0 E0 S0 N s a w := hI
      have hM : M a w = Classical.choose (least hex) := dif_pos hex
      obtain ⟨s1, hv, hr1⟩ := (Classical.choose_spec (least hex)).1
      generalize Classical.choose (least hex) = m at hM hv
      cases m with
      | zero => exact hv.elim
      | succ m =>
        refine vc_ok hG hτ hm b hv (fun e s' a' w' hk hr' => ?_) hr1
        cases e with
        | normal =>
          have hex' : ∃ n, ∃ s, vcN (fun s K => vc G P τ N b s K) K n s ∧ RelS Dr w0 E0 S0 N s a' w' := ⟨m, s', hk, hr'⟩
          refine ⟨hex', ?_⟩
          have hM' : M a' w' = Classical.choose (least hex') := dif_pos hex'
          rw [hM, hM']
          have : Classical.choose (least hex') ≤ m := (Classical.choose_spec (least hex')).2 _ ⟨s', hk, hr'⟩
          omega
        | exit id => exact hQ (.exit id) s' a' w' hk hr'
        | ret => exact hQ .ret s' a' w' hk hr'
    obtain ⟨ks, bs, α, U, I, μ, a0, hI0, hle, hround⟩ := h
    let Inv : Act → World → Prop := fun a w => ∃ x, I x ∧ RelS Dr w0 E0 S0 N ((s.keep ks bs).sets (U x)) a w
    let M : Act → World → Nat := fun a w => if h : ∃ n x, I x ∧ RelS Dr w0 E0 S0 N ((s.keep ks bs).sets (U x)) a w ∧ μ x = n then Classical.choose (least h) else 0
    refine wp_loop Inv M ⟨a0, hI0, le_rel hr hle⟩ (fun a w hI => ?_)
    have hex : ∃ n x, I x ∧ RelS Dr w0 E0 S0 N ((s.keep ks bs).sets (U x)) a w ∧ μ x = n := by
      obtain ⟨x, h1, h2⟩ := hI
      exact ⟨_, x, h1, h2, rfl⟩
    have hM : M a w = Classical.choose (least hex) := dif_pos hex
    obtain ⟨x, hx1, hx2, hx3⟩ := (Classical.choose_spec (least hex)).1
    refine vc_ok hG hτ hm b (hround x hx1) (fun e s' a' w' hk hr' => ?_) hx2
    cases e with
    | normal =>
      obtain ⟨x', k1, k2, k3⟩ := hk
      have hr2 := le_rel hr' k3
      refine ⟨⟨x', k1, hr2⟩, ?_⟩
      have hex' : ∃ n x, I x ∧ RelS Dr w0 E0 S0 N ((s.keep ks bs).sets (U x)) a' w' ∧ μ x = n := ⟨_, x', k1, hr2, rfl⟩
      have hM' : M a' w' = Classical.choose (least hex') := dif_pos hex'
      rw [hM, hM']
      have : Classical.choose (least hex') ≤ μ x' := (Classical.choose_spec (least hex')).2 _ ⟨x', k1, hr2, rfl⟩
      omega
    | exit id => exact hQ (.exit id) s' a' w' hk hr'
    | ret => exact hQ .ret s' a' w' hk hr'
  | .exit id, s, K, Q, a, w, h, hQ, hr => wp_exit (hQ (.exit id) s a w h hr)
  | .ret, s, K, Q, a, w, h, hQ, hr => wp_ret (hQ .ret s a w h hr)
  | .rangeFunc .., s, K, Q, a, w, h, hQ, hr => h.elim
  | .scope _, s, K, Q, a, w, h, hQ, hr => h.elim
  | .goto _, s, K, Q, a, w, h, hQ, hr => h.elim
  | .refuse _, s, K, Q, a, w, h, hQ, hr => h.elim
/-! ### calls -/
def resM (a : Act) (r : ResultVar) : Sem Value :=
  match r with
  | .tmp t => pure (a.tmps.getD t undef)
  | .cell q t => do loadVar t (← asAddr (a.tmps.getD q undef))
theorem results_resM (fn : Func) (a : Act) : results fn a.tmps = (fn.results.mapM (resM a) >>= fun vs => pure (if h : vs.size = 1 then vs[0] else .tuple vs)) := by
  unfold results
  congr 1
theorem cellsAt_run {s : St} (h : Rel Dr w0 E0 S0 N wr s.get a w β S) {i : Nat} : ∀ (n o : Nat) {ps : List PV}, cellsAt s i o n = some ps → ps.length = n ∧ (∀ p, p ∈ ps → p.one = true) ∧ ∀ (j : Nat) p, ps[j]? = some p → ∃ c, w.cell? ⟨β i, o + j, none⟩ = some c ∧ RepP S w c p
  | 0, o, ps, e => by cases e; exact ⟨rfl, fun p hp => by simp at hp, fun j p hp => by simp at hp⟩
  | n + 1, o, ps, e => by
    unfold cellsAt at e
    split at e
    · rename_i p ps' hp hps
      split at e
      · rename_i hone
        cases e
        obtain ⟨k1, k2, k3⟩ := cellsAt_run h n (o + 1) hps
        refine ⟨by simp [k1], fun q hq => ?_, fun j q hq => ?_⟩
        · rcases List.mem_cons.1 hq with e | e
          · subst e; exact hone
          · exact k2 q e
        · cases j with
          | zero =>
            rw [List.getElem?_cons_zero] at hq
            cases hq
            obtain ⟨h0, _⟩ := h.bx i o (by rw [hp]; simp)
            rw [hp] at h0
            obtain ⟨_, c, h1, h2, _⟩ := h0
            exact ⟨c, h1, h2⟩
          | succ j =>
            obtain ⟨c, h1, h2⟩ := k3 j q (by simpa using hq)
            rw [show o + 1 + j = o + (j + 1) from by omega] at h1
            exact ⟨c, h1, h2⟩
      · cases e
    · cases e
theorem cellsC_at {s : St} {i : Nat} : ∀ (n o : Nat) {j : Nat} {c : C}, (cellsC s i o n)[j]? = some c → j < n ∧ c = s.get (.b i (o + j))
  | 0, o, j, c, h => by simp [cellsC] at h
  | n + 1, o, j, c, h => by
    unfold cellsC at h
    cases j with
    | zero => simp at h; exact ⟨by omega, h.symm⟩
    | succ j =>
      obtain ⟨h1, h2⟩ := cellsC_at n (o + 1) (by simpa using h)
      exact ⟨by omega, by rw [h2, show o + 1 + j = o + (j + 1) from by omega]⟩
theorem cellsAt_pv {s : St} {i : Nat} : ∀ (n o : Nat) {ps : List PV}, cellsAt s i o n = some ps → ∀ (j : Nat) p, ps[j]? = some p → (s.get (.b i (o + j))).v = .pv p
  | 0, o, ps, e, j, p, hp => by cases e; simp at hp
  | n + 1, o, ps, e, j, p, hp => by
    unfold cellsAt at e
    split at e
    · rename_i q ps' hq hps
      split at e
      · cases e
        cases j with
        | zero => simp at hp; subst hp; exact hq
        | succ j =>
          have := cellsAt_pv n (o + 1) hps j p (by simpa using hp)
          rwa [show o + 1 + j = o + (j + 1) from by omega] at this
      · cases e
    · cases e
theorem resOne_run (hτ : TauOK P τ) {s : St} (h : Rel Dr w0 E0 S0 N wr s.get a w β S) (hp : PtrOK s.get) {r : ResultVar} {p : PV} {ow : Own} (e : resOne τ s r = some (p, ow)) :
    ∃ v, (resM a r).run P w = .ok v w ∧ RepP S w v p ∧ ∀ q, ow = some q → OwsL (HBl E0 w0 s.get β) w S (partsO q v) := by
  cases r with
  | tmp t =>
    simp only [resOne] at e
    split at e
    · rename_i p' ow' fr heq
      cases e
      have hg : s.get (.t t) = ⟨.pv p, ow, fr⟩ := heq
      have ht := h.tm t
      rw [hg] at ht
      refine ⟨a.tmps.getD t undef, by simp [resM], ht, fun q hq => ?_⟩
      obtain ⟨u, z1, z2⟩ := h.own (.t t) q (by rw [hg]; exact hq)
      cases z1
      exact z2
    · cases e
  | cell q t =>
    simp only [resOne] at e
    split at e
    · rename_i i o ti hq hti
      have ht := h.tm q
      have hq' : (s.get (.t q)).v = .ptr i o := hq
      rw [hq'] at ht
      have ht' : a.tmps.getD q undef = .pointer (some ⟨β i, o, none⟩) := ht
      split at e
      · rename_i hagg
        split at e
        · rename_i ps hps
          cases e
          obtain ⟨k1, k2, k3⟩ := cellsAt_run h _ _ hps
          obtain ⟨vs, r1, r2, hvs⟩ := load_aggV (S := S) (w := w) hτ hti hagg k1 k2 k3
          refine ⟨.agg vs, ?_, r2, fun q hq => ?_⟩
          · rw [← r1]
            simp [resM, ht', asAddr, Instr.loadAt, Instr.sureAddr]
          · unfold resOwn at hq
            split at hq
            · rename_i code cw hcw
              cases hq
              have hcoll : clrC i o (cellsC s i o ti.size) (decO 16 code) = some cw := by
                unfold collW at hcw
                split at hcw
                · cases hcw
                · split at hcw
                  · rename_i hh; cases hcw; exact hh
                  · cases hcw
              obtain ⟨z1, z2, z3, z4, z5⟩ := collect (vs := vs) h hp (fun j c hc => by
                obtain ⟨hlt, q1⟩ := cellsC_at _ _ hc
                obtain ⟨y1, y2⟩ := hvs j hlt
                obtain ⟨u, hu⟩ := Option.isSome_iff_exists.1 y2
                have hpl : j < ps.length := by rw [k1]; exact hlt
                have hpj := List.getElem?_eq_getElem hpl
                have hgv := cellsAt_pv _ _ hps j _ hpj
                obtain ⟨k0, c', w1, w2, _⟩ := (h.bx i (o + j) (by rw [hgv]; simp)).1.cell (by rw [hgv]; rfl)
                rw [hgv] at w2
                rw [y1, hu] at w1
                cases w1
                refine ⟨q1.symm, u, hu, by rw [rv_b k0, y1]; exact hu, fun e => ?_⟩
                rw [q1, hgv] at e
                rw [show ps[j] = .nil by simpa using e] at w2
                exact rep_nil w2) _ hcoll
              have hparts : partsO (code, 0) (.agg vs) = cutO vs (decO 16 code) := if_pos rfl
              rw [hparts]
              exact OwsL.imp z3 (fun b _ hb => ⟨hb.1.1, fun j hj => hb.1.2 j (by rw [z4]; exact hj)⟩)
            · cases hq
        · cases e
      · rename_i hagg
        split at e
        · rename_i p' hp
          cases e
          obtain ⟨h0, _⟩ := h.bx i o (by rw [hp]; simp)
          rw [hp] at h0
          obtain ⟨_, c, h1, h2, _⟩ := h0
          have r1 := load_one (P := P) hτ hti (by simpa using hagg) h1
          refine ⟨c, ?_, h2, fun q hq => by cases hq⟩
          rw [← r1]
          simp [resM, ht', asAddr, Instr.loadAt, Instr.sureAddr]
        · cases e
    · cases e
theorem resAll_run (hτ : TauOK P τ) {s : St} (h : Rel Dr w0 E0 S0 N wr s.get a w β S) (hp : PtrOK s.get) : ∀ {rs : List ResultVar} {ps : List PV}, resAll τ s rs = some ps →
    ∃ vs : List Value, (rs.mapM (resM a)).run P w = .ok vs w ∧ vs.length = ps.length ∧ ∀ (i : Nat) (v : Value) (x : PV), vs[i]? = some v → ps[i]? = some x → RepP S w v x
  | [], ps, e => by cases e; exact ⟨[], by simp, rfl, fun i v x hv => by simp at hv⟩
  | r :: rs, ps, e => by
    unfold resAll at e
    split at e
    · rename_i p ow ps' hpp hps
      cases e
      obtain ⟨vs, k1, k2, k3⟩ := resAll_run hτ h hp hps
      obtain ⟨v0, j1, j2, _⟩ := resOne_run hτ h hp hpp
      refine ⟨v0 :: vs, ?_, by simp [k2], fun i v x hv hx => ?_⟩
      · rw [List.mapM_cons]
        simp only [Sem.run_bind, j1, Result.andThen_ok, k1, Sem.run_pure]
      · cases i with
        | zero =>
          rw [List.getElem?_cons_zero] at hv hx
          cases hv
          cases hx
          exact j2
        | succ i => exact k3 i v x (by simpa using hv) (by simpa using hx)
    · cases e
theorem resOf_run (hτ : TauOK P τ) {s : St} (h : Rel Dr w0 E0 S0 N wr s.get a w β S) (hp : PtrOK s.get) {fn : Func} {p : PV} {ow : Own} (e : resOf τ s fn.results.toList = some (p, ow)) :
    ∃ v, (results fn a.tmps).run P w = .ok v w ∧ RepP S w v p ∧ ∀ q, ow = some q → OwsL (HBl E0 w0 s.get β) w S (partsO q v) := by
  unfold resOf at e
  split at e
  · rename_i r hr
    obtain ⟨v, j1, j2, j3⟩ := resOne_run hτ h hp e
    have hrs : fn.results = #[r] := by rw [← Array.toArray_toList (xs := fn.results), hr]
    refine ⟨v, ?_, j2, j3⟩
    rw [results_resM, hrs]
    simp [j1]
  · rename_i hne
    split at e
    · rename_i ps hps
      cases e
      obtain ⟨vs, k1, k2, k3⟩ := resAll_run (P := P) hτ h hp hps
      have hlen : ∀ {rs : List ResultVar} {ps : List PV}, resAll τ s rs = some ps → ps.length = rs.length := by
        intro rs
        induction rs with
        | nil => intro ps e; cases e; rfl
        | cons r rs ih =>
          intro ps e
          unfold resAll at e
          split at e
          · rename_i h2; cases e; simp [ih h2]
          · cases e
      have hl1 : ¬ (vs.toArray.size = 1) := by
        intro hone
        have : fn.results.toList.length = 1 := by rw [← hlen hps, ← k2]; simpa using hone
        obtain ⟨r, hr⟩ := List.length_eq_one_iff.1 this
        exact hne r hr
      refine ⟨.tuple vs.toArray, ?_, .tup _ _ (by simpa using k2) (fun i v x hv hx => k3 i v x (by simpa using hv) hx), fun q hq => by cases hq⟩
      rw [results_resM, Array.mapM_eq_mapM_toList]
      simp only [Sem.run_bind, Sem.run_map, k1, Result.andThen_ok, Sem.run_pure]
      rw [dif_neg hl1]
    · cases e
/-- A predicate on worlds that more memory leaves standing. -/
def Stable (G : World → Prop) : Prop := ∀ w w', G w → Below w.heap.size w w' → G w'
theorem acalls_vc (hst : Stable G) (hτ : TauOK P τ) (hm : P.follows .mixedOrders = true) {f : FuncId} {fn : Func} {c : Code} {args : List PV} {res : PV} {own : Own} (hf : P.funcs[f]? = some fn) (hname : (fn.name == "runtime.NumGoroutine") = false) (hb : fn.body = some c)
    (hargs : args.length ≤ fn.ntmps) (h : vc G P τ fn.ntmps c (St.init args fn.ntmps) (post τ fn.results.toList res own)) : ACalls G P f args res own := by
  refine ⟨⟨fn, hf, hname, by rw [hb]; rfl⟩, fun w S vs hGw hSa hrep => ?_⟩
  refine calls_of_wp hf hb ?_
  have hsz : (vs ++ Array.replicate (fn.ntmps - vs.size) undef).size = fn.ntmps := by simp [hrep.1]; omega
  have hgL : ∀ (cs : List C) (i : Nat), getL cs i = cs.getD i unC := by
    intro cs
    induction cs with
    | nil => intro i; rfl
    | cons c cs ih =>
      intro i
      cases i with
      | zero => rfl
      | succ i => simpa [getL] using ih i
  have hget : ∀ t, (St.init args fn.ntmps).get (.t t) = match args[t]? with | some p => ⟨.pv p, none, none⟩ | none => unC := fun t => by
    show getL (args.map (fun p => (⟨.pv p, none, none⟩ : C)) ++ List.replicate (fn.ntmps - args.length) unC) t = _
    rw [hgL, List.getD_eq_getElem?_getD]
    cases hp : args[t]? with
    | some p =>
      have hlt : t < args.length := (List.getElem?_eq_some_iff.1 hp).1
      rw [List.getElem?_append_left (by simpa using hlt), List.getElem?_map, hp]
      rfl
    | none =>
      have hge : args.length ≤ t := List.getElem?_eq_none_iff.1 hp
      rw [List.getElem?_append_right (by simpa using hge), List.getElem?_replicate]
      split <;> rfl
  have hinit : RelS (∀ w, G w) w (fun _ _ => False) S fn.ntmps (St.init args fn.ntmps) { tmps := vs ++ Array.replicate (fn.ntmps - vs.size) undef, defers := [] } w := by
    refine ⟨fun _ => 0, S, ?_, fun κ i e => ?_⟩
    · have hno : ∀ κ, ((St.init args fn.ntmps).get κ).own = none ∧ ((St.init args fn.ntmps).get κ).frm = none := fun κ => by
        cases κ with
        | t t => rw [hget]; cases args[t]? <;> exact ⟨rfl, rfl⟩
        | b i o => exact ⟨rfl, rfl⟩
        | al i => exact ⟨rfl, rfl⟩
      constructor
      · exact Kept.refl _ _
      · rfl
      · exact hsz
      · exact fun b o h => h
      · exact fun b o h => rfl
      · exact fun b o h => .inl h
      · exact hSa
      · intro t
        rw [hget]
        cases hp : args[t]? with
        | none => trivial
        | some p =>
          have hlt : t < vs.size := by rw [hrep.1]; exact (List.getElem?_eq_some_iff.1 hp).1
          have hv : (vs ++ Array.replicate (fn.ntmps - vs.size) undef).getD t undef = vs[t] := by
            rw [Array.getD_eq_getD_getElem?, Array.getElem?_append_left hlt, Array.getElem?_eq_getElem hlt]
            rfl
          show RepP S w ((vs ++ Array.replicate (fn.ntmps - vs.size) undef).getD t undef) p
          rw [hv]
          exact hrep.2 t _ p (Array.getElem?_eq_getElem hlt) hp
      · intro i o hne; exact absurd rfl hne
      · intro i hne; exact absurd rfl hne
      · intro i j hne; exact absurd rfl hne
      · intro κ p he; rw [(hno κ).1] at he; cases he
      · intro κ κ' v v' b _ _ h1; exact absurd (hno κ).1 (blk_ne h1)
      · intro t κ' e; rw [(hno _).2] at e; cases e
      · intro i o hne; exact absurd rfl hne
      · exact fun _ => Nat.le_refl _
    · cases κ with
      | t t => rw [hget] at e; cases hp : args[t]? <;> rw [hp] at e <;> simp [unC, FV.refs] at e
      | b j o =>
        have e' : i ∈ unC.v.refs := e
        simp [unC, FV.refs] at e'
      | al j =>
        have e' : i ∈ unC.v.refs := e
        simp [unC, FV.refs] at e'
  refine vc_ok (Dr := ∀ w, G w) (E0 := fun _ _ => False) ⟨fun w' hw' => hst w w' hGw (hw'.below (fun _ ⟨_, e⟩ => e)), id⟩ hτ hm c h (fun x s' a' w' hk hr => ?_) hinit
  have fin : ∀ s' a' w', (match resOf τ s' fn.results.toList with | some (p, ow) => p.norm = res ∧ ownLe p ow own | none => False) → RelS (∀ w, G w) w (fun _ _ => False) S fn.ntmps s' a' w' →
      a'.defers = [] ∧ ∃ v, (results fn a'.tmps).run P w' = .ok v w' ∧ ∃ v' S', Ending.returned v = .returned v' ∧ Below w.heap.size w w' ∧ G w' ∧ (∀ b o, S b o → S' b o) ∧ (∀ b o, S' b o → S b o ∨ w.heap.size ≤ b) ∧ (∀ b o, S' b o → b < w'.heap.size) ∧
        RepP S' w' v' res ∧ OwnR w.heap.size S' w' v' own ∧ ((∀ w, G w) → w.drawn ≤ w'.drawn) := by
    intro s' a' w' hk hr
    obtain ⟨β', S', hr, hptr⟩ := hr
    split at hk
    · rename_i p ow hres
      obtain ⟨v, r1, r2, r3⟩ := resOf_run (P := P) hτ hr hptr hres
      have hHm : ∀ b, HomeB (fun _ _ => False) w b → w.heap.size ≤ b := fun b hb => hb.resolve_left id
      refine ⟨hr.df, v, r1, v, S', rfl, hr.below.below (fun _ ⟨_, e⟩ => e), hst w w' hGw (hr.below.below (fun _ ⟨_, e⟩ => e)), hr.s0, fun b o hs => (hr.sn b o hs).imp id (hHm b), hr.sa, by rw [← hk.1]; exact r2.norm, ?_, hr.dr⟩
      cases own with
      | none => trivial
      | some q =>
        rcases hk.2 with e | e
        · subst e
          rw [rep_nil r2]
          exact owsL_nilv
        · exact OwsL.imp (r3 q e) (fun b _ hb => hHm b hb.1)
    · exact hk.elim
  cases x with
  | normal => exact fin s' a' w' hk hr
  | ret => exact fin s' a' w' hk hr
  | exit id => exact hk.elim
/-- A function, by the conditions of its code: 'A' stands for the calls that are known, 'τ' for the types. -/
theorem acalls_fn (hst : Stable G) (hm : P.follows .mixedOrders = true) (hτ : TauOK P τ) {f : FuncId} {fn : Func} {args : List PV} {res : PV} {own : Own} (hf : P.funcs[f]? = some fn) (hname : (fn.name == "runtime.NumGoroutine") = false) (hb : fn.body.isSome = true)
    (hargs : Nat.ble args.length fn.ntmps = true) (h : ∀ Q, (∀ f args res own, ACalls G P f args res own → ACalls G Q f args res own) → vc G Q τ fn.ntmps (fn.body.getD .skip) (St.init args fn.ntmps) (post τ fn.results.toList res own)) : ACalls G P f args res own :=
  acalls_vc hst hτ hm hf hname (by cases hq : fn.body <;> simp_all) (by simpa [Nat.ble_eq] using hargs) (h P (fun _ _ _ _ h => h))
end
end Go.Proofs.YtbjfmkmaghapgaaGreatDoor.B
