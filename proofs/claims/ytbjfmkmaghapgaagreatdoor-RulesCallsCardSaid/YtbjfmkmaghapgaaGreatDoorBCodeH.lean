/-
The logic of pure values, continued: functions that memory is handed to. Condition: none.
-/
import Derived.Test.YtbjfmkmaghapgaaGreatDoorBCode
set_option linter.unusedVariables false
set_option linter.unusedSimpArgs false
set_option linter.unnecessarySimpa false
namespace Go.Proofs.YtbjfmkmaghapgaaGreatDoor.B
open Go.RowKit

def cOf (x : FV) : C := ⟨x, none, none⟩
def cL : List FV → List C
  | [] => []
  | x :: r => cOf x :: cL r
def hsB : HS → List (Nat × List C)
  | [] => []
  | (i, xs) :: r => (i, cL xs) :: hsB r
def St.initH (args : List FV) (hs : HS) (N : Nat) : St := ⟨cL args ++ List.replicate (N - args.length) unC, hsB hs⟩
def oneA : List CV → Bool
  | [] => true
  | .pv p :: r => p.one && oneA r
  | _ :: r => oneA r
def resOneF (τ : Tau) (s : St) : ResultVar → Option FV
  | .tmp t => match (getL s.tmps t).v.isUn with
    | true => none
    | false => some (getL s.tmps t).v
  | .cell q t => match (getL s.tmps q).v, τ t with
    | .ptr i o, some ti => match isAggD ti.desc with
      | true => match cellsAt s i o ti.size with
        | some ps => some (.pv (.agg ps))
        | none => match cvsA (cellsC s i o ti.size) with
          | some vs => if oneA vs = true then some (.aggf vs) else none
          | none => none
      | false => match (s.get (.b i o)).v.isUn with
        | true => none
        | false => some (s.get (.b i o)).v
    | _, _ => none
def fvC : FV → Option CV
  | .pv p => some (.pv p)
  | .ptr i o => some (.ptr i o)
  | .mp i => some (.mp i)
  | _ => none
def resAllF (τ : Tau) (s : St) : List ResultVar → Option (List CV)
  | [] => some []
  | r :: rs => match resOneF τ s r, resAllF τ s rs with
    | some x, some cs => match fvC x with
      | some c => some (c :: cs)
      | none => none
    | _, _ => none
def resH (τ : Tau) (s : St) (rs : List ResultVar) : Option (FV × Own) :=
  match resOf τ s rs with
  | some (p, ow) => some (.pv p, ow)
  | none => match rs with
    | [r] => match resOneF τ s r with
      | some x => some (x, none)
      | none => none
    | rs => match resAllF τ s rs with
      | some cs => some (.tupf cs, none)
      | none => none
/-- One that is wanted. -/
structure Le (x y : FV) : Prop where
  out : x.leV y
theorem Le.refl (x : FV) : Le x x := ⟨.inr (.inl rfl)⟩
theorem Le.norm (x : FV) : Le x x.normV := ⟨.inr (.inr rfl)⟩
theorem Le.un (x : FV) : Le x .un := ⟨.inl rfl⟩
def boxLe : List C → List FV → Prop
  | _, [] => True
  | c :: cs, x :: xs => Le c.v x ∧ boxLe cs xs
  | [], _ :: _ => False
def boxesLe (bx : List (Nat × List C)) : HS → Prop
  | [] => True
  | (i, xs) :: r => (match getB bx i with
    | some cs => boxLe cs xs
    | none => False) ∧ boxesLe bx r
def ownLeH (x : FV) (ow : Own) (want : Own) : Prop :=
  match want with
  | none => True
  | some w => x = .pv .nil ∨ ow = some w
def postH (τ : Tau) (rs : List ResultVar) (res : FV) (own : Own) (hs' : HS) : Ex → St → Prop
  | .exit _, _ => False
  | _, s => match resH τ s rs with
    | some (x, ow) => Le x res ∧ ownLeH x ow own ∧ boxesLe s.boxes hs'
    | none => False
def handsOK : List Nat → Bool
  | [] => true
  | i :: r => handId i && handsOK r
def okH (args : List FV) (hs : HS) (hs' : HS) : Bool := handsOK (idsOf hs) && refsOK (idsOf hs) args && refsHS (idsOf hs) hs && subI (idsOf hs) (idsOf hs')
section
variable {G : World → Prop} {P : Program} {τ : Tau} {Dr : Prop} {w0 : World} {E0 : Nat → Nat → Prop} {S0 : Nat → Nat → Prop} {N : Nat} {wr : Key → Prop} {a : Act} {w : World} {β : Nat → Nat} {S : Nat → Nat → Prop}
theorem handsOK_mem {i : Nat} : ∀ {l : List Nat}, handsOK l = true → i ∈ l → handId i = true
  | [], _, h => by simp at h
  | j :: r, h, hm => by
    unfold handsOK at h
    rw [Bool.and_eq_true] at h
    rcases List.mem_cons.1 hm with rfl | hm
    · exact h.1
    · exact handsOK_mem h.2 hm
theorem cL_at : ∀ {xs : List FV} {i : Nat}, (cL xs)[i]? = (xs[i]?).map cOf
  | [], i => by simp [cL]
  | x :: xs, 0 => by simp [cL]
  | x :: xs, i + 1 => by simpa [cL] using cL_at
theorem cL_len : ∀ {xs : List FV}, (cL xs).length = xs.length
  | [] => rfl
  | x :: xs => by simp [cL, cL_len]
theorem getL_at : ∀ (cs : List C) (i : Nat), getL cs i = (cs[i]?).getD unC
  | [], i => rfl
  | c :: cs, 0 => rfl
  | c :: cs, i + 1 => by simpa [getL] using getL_at cs i
theorem getB_hs {i : Nat} : ∀ {hs : HS}, (∃ xs, (i, xs) ∈ hs ∧ getB (hsB hs) i = some (cL xs)) ∨ (i ∉ idsOf hs ∧ getB (hsB hs) i = none)
  | [] => .inr ⟨by simp [idsOf], rfl⟩
  | (j, xs) :: r => by
    by_cases h : j = i
    · subst h
      exact .inl ⟨xs, List.mem_cons_self .., by simp [hsB, getB]⟩
    · have e : getB (hsB ((j, xs) :: r)) i = getB (hsB r) i := by simp [hsB, getB, h]
      rcases getB_hs (i := i) (hs := r) with ⟨ys, h1, h2⟩ | ⟨h1, h2⟩
      · exact .inl ⟨ys, List.mem_cons_of_mem _ h1, e.trans h2⟩
      · exact .inr ⟨by simp [idsOf, h1]; exact fun q => h q.symm, e.trans h2⟩
theorem cellsC_len {s : St} {i : Nat} : ∀ (n o : Nat), (cellsC s i o n).length = n
  | 0, o => rfl
  | n + 1, o => by simp [cellsC, cellsC_len n (o + 1)]
theorem cvsA_shape : ∀ {cs : List C} {vs : List CV}, cvsA cs = some vs → oneA vs = true → ∀ (j : Nat) (c : C), cs[j]? = some c → (∃ p, c.v = .pv p ∧ p.one = true) ∨ ∃ i k lo n, c.v = .slp i k lo n
  | [], vs, h, _, j, c, hc => by simp at hc
  | d :: cs, vs, h, ho, j, c, hc => by
    unfold cvsA at h
    split at h
    · rename_i p r hp hr'
      cases h
      have ho' : (p.one && oneA r) = true := ho
      rw [Bool.and_eq_true] at ho'
      cases j with
      | zero => simp at hc; subst hc; exact .inl ⟨p, hp, ho'.1⟩
      | succ j => exact cvsA_shape hr' ho'.2 j c (by simpa using hc)
    · rename_i i k lo n r hp hr'
      cases h
      cases j with
      | zero => simp at hc; subst hc; exact .inr ⟨i, k, lo, n, hp⟩
      | succ j => exact cvsA_shape hr' ho j c (by simpa using hc)
    · cases h
theorem resOneF_run (hτ : TauOK P τ) {s : St} (h : Rel Dr w0 E0 S0 N wr s.get a w β S) {r : ResultVar} {x : FV} (e : resOneF τ s r = some x) : ∃ v, (resM a r).run P w = .ok v w ∧ RepF β S w v x := by
  cases r with
  | tmp t =>
    simp only [resOneF] at e
    split at e
    · cases e
    · cases e
      exact ⟨a.tmps.getD t undef, by simp [resM], h.tm t⟩
  | cell q t =>
    simp only [resOneF] at e
    split at e
    · rename_i i o ti hq hti
      have ht := h.tm q
      have hq' : (s.get (.t q)).v = .ptr i o := hq
      rw [hq'] at ht
      have ht' : a.tmps.getD q undef = .pointer (some ⟨β i, o, none⟩) := ht
      split at e
      · rename_i hagg
        split at e
        · rename_i ps hps
          cases e
          obtain ⟨k1, k2, k3⟩ := cellsAt_run h _ _ hps
          obtain ⟨v, r1, r2⟩ := load_agg (S := S) (w := w) hτ hti hagg k1 k2 k3
          refine ⟨v, ?_, r2⟩
          rw [← r1]
          simp [resM, ht', asAddr, Instr.loadAt, Instr.sureAddr]
        · split at e
          · rename_i vs hvs
            split at e
            · rename_i hone
              cases e
              have hsh := cvsA_shape hvs hone
              obtain ⟨us, u1, u2, u3⟩ := load_cells (P := P) (w := w) (b := β i) (off := o) (n := ti.size) (R := fun j u => u.oneCell' = true ∧ ∀ c, (cellsC s i o ti.size)[j]? = some c → RepF β S w u c.v) (fun j hj => by
                have hlt : j < (cellsC s i o ti.size).length := by rw [cellsC_len]; exact hj
                have hcj := List.getElem?_eq_getElem hlt
                have q1 := (cellsC_at _ _ hcj).2
                have hor := hsh j _ hcj
                have hne : (s.get (.b i (o + j))).v.isUn = false := by rw [← q1]; rcases hor with ⟨p, q2, _⟩ | ⟨_, _, _, _, q2⟩ <;> rw [q2] <;> rfl
                obtain ⟨_, u, k1, k2, _⟩ := (h.bx i (o + j) (fun e => by rw [e] at hne; cases hne)).1.cell hne
                rw [← q1] at k2
                refine ⟨u, k1, ?_, fun c hc => by rw [hcj] at hc; cases hc; exact k2⟩
                rcases hor with ⟨p, q2, q3⟩ | ⟨_, _, _, _, q2⟩
                · rw [q2] at k2
                  exact RepP.one k2 q3
                · rw [q2] at k2
                  obtain ⟨_, _, _, e, _⟩ := k2
                  rw [e]
                  rfl)
              refine ⟨.agg us.toArray, ?_, us, rfl, cvsA_rep hvs (by rw [u1, cellsC_len]) (fun j u c hu hc => (u3 j u hu).2 c hc), fun u hu => ?_⟩
              · simp [resM, ht', asAddr, loadVar, run_isAggD hτ hti, run_sizeD hτ hti, hagg, u2]
              · obtain ⟨j, hj, rfl⟩ := List.mem_iff_getElem.1 hu
                exact (u3 j _ (List.getElem?_eq_getElem hj)).1
            · cases e
          · cases e
      · rename_i hagg
        split at e
        · cases e
        · rename_i hu
          cases e
          obtain ⟨h0, _⟩ := h.bx i o (fun q => by rw [q] at hu; cases hu)
          obtain ⟨_, c, h1, h2, _⟩ := h0.cell hu
          have r1 := load_one (P := P) hτ hti (by simpa using hagg) h1
          refine ⟨c, ?_, h2⟩
          rw [← r1]
          simp [resM, ht', asAddr, Instr.loadAt, Instr.sureAddr]
    · cases e
theorem fvC_rep {v : Value} {x : FV} {c : CV} (h : RepF β S w v x) (hc : fvC x = some c) : RepCV β S w v c := by
  cases x <;> simp [fvC] at hc <;> subst hc <;> exact h
theorem resAllF_run (hτ : TauOK P τ) {s : St} (h : Rel Dr w0 E0 S0 N wr s.get a w β S) : ∀ {rs : List ResultVar} {cs : List CV}, resAllF τ s rs = some cs → ∃ vs, (rs.mapM (resM a)).run P w = .ok vs w ∧ vs.length = rs.length ∧ RepC β S w vs cs
  | [], cs, e => by cases e; exact ⟨[], by simp, rfl, trivial⟩
  | r :: rs, cs, e => by
    unfold resAllF at e
    split at e
    · rename_i x ds hx hds
      split at e
      · rename_i c hc
        cases e
        obtain ⟨v, v1, v2⟩ := resOneF_run hτ h hx
        obtain ⟨vs, k1, k2, k3⟩ := resAllF_run hτ h hds
        refine ⟨v :: vs, ?_, by simp [k2], fvC_rep v2 hc, k3⟩
        rw [List.mapM_cons]
        simp only [Sem.run_bind, v1, Result.andThen_ok, k1, Sem.run_pure]
      · cases e
    · cases e
theorem resH_run (hτ : TauOK P τ) {s : St} (h : Rel Dr w0 E0 S0 N wr s.get a w β S) (hp : PtrOK s.get) {fn : Func} {x : FV} {ow : Own} (e : resH τ s fn.results.toList = some (x, ow)) :
    ∃ v, (results fn a.tmps).run P w = .ok v w ∧ RepF β S w v x ∧ ∀ q, ow = some q → OwsL (HBl E0 w0 s.get β) w S (partsO q v) := by
  unfold resH at e
  split at e
  · rename_i p ow' hres
    cases e
    exact resOf_run hτ h hp hres
  · split at e
    · rename_i r hr
      split at e
      · rename_i x' hx
        cases e
        obtain ⟨v, j1, j2⟩ := resOneF_run hτ h hx
        have hrs : fn.results = #[r] := by rw [← Array.toArray_toList (xs := fn.results), hr]
        refine ⟨v, ?_, j2, fun q hq => by cases hq⟩
        rw [results_resM, hrs]
        simp [j1]
      · cases e
    · rename_i hne
      split at e
      · rename_i cs hcs
        cases e
        obtain ⟨vs, k1, k2, k3⟩ := resAllF_run (P := P) hτ h hcs
        have hl1 : ¬ (vs.toArray.size = 1) := by
          intro hone
          have : fn.results.toList.length = 1 := by rw [← k2]; simpa using hone
          obtain ⟨r, hr⟩ := List.length_eq_one_iff.1 this
          exact hne r hr
        refine ⟨.tuple vs.toArray, ?_, ⟨vs, rfl, k3⟩, fun q hq => by cases hq⟩
        rw [results_resM, Array.mapM_eq_mapM_toList]
        simp only [Sem.run_bind, Sem.run_map, k1, Result.andThen_ok, Sem.run_pure]
        rw [dif_neg hl1]
      · cases e
theorem boxLe_at : ∀ {cs : List C} {xs : List FV} {o : Nat} {x : FV}, boxLe cs xs → xs[o]? = some x → (getL cs o).v.leV x
  | _, [], o, x, _, h => by simp at h
  | [], _ :: _, o, x, h, _ => h.elim
  | c :: cs, y :: ys, 0, x, h, hx => by simp at hx; subst hx; exact h.1.out
  | c :: cs, y :: ys, o + 1, x, h, hx => boxLe_at (o := o) h.2 (by simpa using hx)
theorem boxesLe_at {bx : List (Nat × List C)} {i : Nat} {xs : List FV} : ∀ {hs : HS}, boxesLe bx hs → (i, xs) ∈ hs → ∃ cs, getB bx i = some cs ∧ boxLe cs xs
  | [], _, h => by simp at h
  | (j, ys) :: r, h, hm => by
    rcases List.mem_cons.1 hm with e | hm
    · cases e
      have h1 := h.1
      split at h1
      · rename_i cs hcs
        exact ⟨cs, hcs, h1⟩
      · exact h1.elim
    · exact boxesLe_at h.2 hm
theorem hcalls_vc (hτ : TauOK P τ) (hm : P.follows .mixedOrders = true) {f : FuncId} {fn : Func} {c : Code} {args : List FV} {hs hs' : HS} {res : FV} {own : Own} (hf : P.funcs[f]? = some fn) (hname : (fn.name == "runtime.NumGoroutine") = false) (hb : fn.body = some c)
    (hargs : args.length ≤ fn.ntmps) (hok : okH args hs hs' = true) (h : vc G P τ fn.ntmps c (St.initH args hs fn.ntmps) (postH τ fn.results.toList res own hs')) : HCalls G P f args hs res own hs' := by
  refine ⟨⟨fn, hf, hname, by rw [hb]; rfl⟩, fun w S β vs hG hSa hpre hrep => ?_⟩
  unfold okH at hok
  simp only [Bool.and_eq_true] at hok
  obtain ⟨⟨⟨ok1, ok2⟩, ok3⟩, ok4⟩ := hok
  refine calls_of_wp hf hb ?_
  have hsz : (vs ++ Array.replicate (fn.ntmps - vs.size) undef).size = fn.ntmps := by simp [hrep.1]; omega
  have hget : ∀ t, (St.initH args hs fn.ntmps).get (.t t) = match args[t]? with | some p => ⟨p, none, none⟩ | none => unC := fun t => by
    show getL (cL args ++ List.replicate (fn.ntmps - args.length) unC) t = _
    rw [getL_at]
    cases hp : args[t]? with
    | some p =>
      have hlt : t < args.length := (List.getElem?_eq_some_iff.1 hp).1
      rw [List.getElem?_append_left (by rw [cL_len]; exact hlt), cL_at, hp]
      rfl
    | none =>
      have hge : args.length ≤ t := List.getElem?_eq_none_iff.1 hp
      rw [List.getElem?_append_right (by rw [cL_len]; exact hge), List.getElem?_replicate]
      split <;> rfl
  have hgb : ∀ i o, (∃ xs, (i, xs) ∈ hs ∧ (St.initH args hs fn.ntmps).get (.b i o) = ((xs[o]?).map cOf).getD unC ∧ (St.initH args hs fn.ntmps).get (.al i) = liveC) ∨ ((St.initH args hs fn.ntmps).get (.b i o) = unC ∧ (St.initH args hs fn.ntmps).get (.al i) = unC) := fun i o => by
    rcases getB_hs (i := i) (hs := hs) with ⟨xs, h1, h2⟩ | ⟨h1, h2⟩
    · refine .inl ⟨xs, h1, ?_, ?_⟩
      · show (match getB (hsB hs) i with | some cs => getL cs o | none => unC) = _
        rw [h2]
        show getL (cL xs) o = _
        rw [getL_at, cL_at]
      · show (match getB (hsB hs) i with | some _ => liveC | none => unC) = _
        rw [h2]
    · refine .inr ⟨?_, ?_⟩
      · show (match getB (hsB hs) i with | some cs => getL cs o | none => unC) = _
        rw [h2]
      · show (match getB (hsB hs) i with | some _ => liveC | none => unC) = _
        rw [h2]
  have hlv : ∀ i, ((St.initH args hs fn.ntmps).get (.al i)).v ≠ .un → i ∈ idsOf hs := fun i hi => by
    rcases hgb i 0 with ⟨xs, h1, _⟩ | ⟨_, h2⟩
    · exact ids_mem h1
    · rw [h2] at hi; exact absurd rfl hi
  have hlv' : ∀ i, i ∈ idsOf hs → ((St.initH args hs fn.ntmps).get (.al i)).v ≠ .un := fun i hi => by
    rcases getB_hs (i := i) (hs := hs) with ⟨xs, h1, h2⟩ | ⟨h1, h2⟩
    · show ((match getB (hsB hs) i with | some _ => liveC | none => unC) : C).v ≠ .un
      rw [h2]; simp [liveC]
    · exact absurd hi h1
  have hinit : RelS (∀ w, G w) w (EH β hs) S fn.ntmps (St.initH args hs fn.ntmps) { tmps := vs ++ Array.replicate (fn.ntmps - vs.size) undef, defers := [] } w := by
    have hno : ∀ κ, ((St.initH args hs fn.ntmps).get κ).own = none ∧ ((St.initH args hs fn.ntmps).get κ).frm = none := fun κ => by
      cases κ with
      | t t => rw [hget]; cases args[t]? <;> exact ⟨rfl, rfl⟩
      | b i o =>
        rcases hgb i o with ⟨xs, _, h2, _⟩ | ⟨h2, _⟩
        · rw [h2]; cases xs[o]? <;> exact ⟨rfl, rfl⟩
        · rw [h2]; exact ⟨rfl, rfl⟩
      | al i =>
        rcases hgb i 0 with ⟨xs, _, _, h2⟩ | ⟨_, h2⟩
        · rw [h2]; exact ⟨rfl, rfl⟩
        · rw [h2]; exact ⟨rfl, rfl⟩
    refine ⟨β, S, ?_, fun κ i e => ?_⟩
    · constructor
      · exact Kept.refl _ _
      · rfl
      · exact hsz
      · exact fun b o h => h
      · exact fun b o h => rfl
      · exact fun b o h => .inl h
      · exact hSa
      · intro t
        rw [hget]
        cases hp : args[t]? with
        | none => trivial
        | some p =>
          have hlt : t < vs.size := by rw [hrep.1]; exact (List.getElem?_eq_some_iff.1 hp).1
          have hv : (vs ++ Array.replicate (fn.ntmps - vs.size) undef).getD t undef = vs[t] := by
            rw [Array.getD_eq_getD_getElem?, Array.getElem?_append_left hlt, Array.getElem?_eq_getElem hlt]
            rfl
          show RepF β S w ((vs ++ Array.replicate (fn.ntmps - vs.size) undef).getD t undef) p
          rw [hv]
          exact hrep.2 t _ p (Array.getElem?_eq_getElem hlt) hp
      · intro i o hne
        rcases hgb i o with ⟨xs, h1, h2, h3⟩ | ⟨h2, _⟩
        · rw [h2] at hne ⊢
          rw [h3]
          cases hx : xs[o]? with
          | none => rw [hx] at hne; exact absurd rfl hne
          | some x =>
            rw [hx] at hne
            exact ⟨hpre.holds i xs h1 o x hx hne, by simp [liveC]⟩
        · rw [h2] at hne; exact absurd rfl hne
      · intro i hi
        have hm := hlv i hi
        exact ⟨⟨fun _ => ⟨hm, rfl⟩, fun q => by rw [handsOK_mem ok1 hm] at q; cases q⟩, hpre.lt i hm⟩
      · intro i j hi hj e; exact hpre.inj i j (hlv i hi) (hlv j hj) e
      · intro κ p he; rw [(hno κ).1] at he; cases he
      · intro κ κ' v v' b _ _ h1; exact absurd (hno κ).1 (blk_ne h1)
      · intro t κ' e; rw [(hno _).2] at e; cases e
      · intro i o hne; exact absurd (hno (.b i o)).1 hne
      · exact fun _ => Nat.le_refl _
    · refine hlv' i ?_
      cases κ with
      | t t =>
        rw [hget] at e
        cases hp : args[t]? with
        | none => rw [hp] at e; simp [unC, FV.refs] at e
        | some p => rw [hp] at e; exact refsOK_mem ok2 (List.mem_of_getElem? hp) i e
      | b j o =>
        rcases hgb j o with ⟨xs, h1, h2, h3⟩ | ⟨h2, _⟩
        · rw [h2] at e
          cases hx : xs[o]? with
          | none => rw [hx] at e; simp [unC, FV.refs] at e
          | some x => rw [hx] at e; exact refsOK_mem (refsHS_mem ok3 h1) (List.mem_of_getElem? hx) i e
        · rw [h2] at e; simp [unC, FV.refs] at e
      | al j =>
        rcases hgb j 0 with ⟨xs, _, _, h2⟩ | ⟨_, h2⟩
        · rw [h2] at e; simp [liveC, FV.refs] at e
        · rw [h2] at e; simp [unC, FV.refs] at e
  refine vc_ok (Dr := ∀ w, G w) (E0 := EH β hs) ⟨hG, id⟩ hτ hm c h (fun x s' a' w' hk hr => ?_) hinit
  have fin : ∀ s' a' w', (match resH τ s' fn.results.toList with | some (x, ow) => Le x res ∧ ownLeH x ow own ∧ boxesLe s'.boxes hs' | none => False) → RelS (∀ w, G w) w (EH β hs) S fn.ntmps s' a' w' →
      a'.defers = [] ∧ ∃ v, (results fn a'.tmps).run P w' = .ok v w' ∧ ∃ v' S' β', Ending.returned v = .returned v' ∧ Kept (EB (EH β hs)) w w' ∧ (∀ b o, S b o → S' b o) ∧ (∀ b o, S' b o → S b o ∨ w.heap.size ≤ b) ∧ (∀ b o, S' b o → b < w'.heap.size) ∧
        (∀ i, i ∈ idsOf hs → β' i = β i) ∧ (∀ i, i ∈ idsOf hs' → i ∉ idsOf hs → w.heap.size ≤ β' i) ∧ HPre β' S' w' hs' ∧ RepF β' S' w' v' res ∧ OwnR w.heap.size S' w' v' own ∧ (∀ b, Blk own v' b → ∀ i, i ∈ idsOf hs' → β' i ≠ b) ∧ ((∀ w, G w) → w.drawn ≤ w'.drawn) := by
    have hHm : ∀ b, HomeB (EH β hs) w b → w.heap.size ≤ b := fun b hb => hb.resolve_left (fun q => by have := handsOK_mem ok1 q.1; simp [handId] at this)
    intro s' a' w' hk hr
    obtain ⟨β', S', hr, hptr⟩ := hr
    split at hk
    · rename_i x ow hres
      obtain ⟨k1, k2, k3⟩ := hk
      obtain ⟨v, r1, r2, r3⟩ := resH_run (P := P) hτ hr hptr hres
      have hlive : ∀ i, i ∈ idsOf hs' → (s'.get (.al i)).v ≠ .un := fun i hi => by
        obtain ⟨xs, hx⟩ := mem_ids hi
        obtain ⟨cs, hcs, _⟩ := boxesLe_at k3 hx
        show ((match getB s'.boxes i with | some _ => liveC | none => unC) : C).v ≠ .un
        rw [hcs]; simp [liveC]
      have hownX : ∀ q, own = some q → v = .slice none 0 0 ∨ OwsL (HBl (EH β hs) w s'.get β') w' S' (partsO q v) := fun q hq => by
        subst hq
        rcases k2 with e | e
        · subst e
          have r2' : RepP S' w' v .nil := r2
          exact .inl (rep_nil r2')
        · exact .inr (r3 q e)
      refine ⟨hr.df, v, r1, v, S', β', rfl, hr.below, hr.s0, fun b o hs => (hr.sn b o hs).imp id (hHm b), hr.sa, fun i hi => ?_, fun i hi hn => ?_, ⟨fun i hi => ⟨(hr.al i (hlive i hi)).2.1, (hr.al i (hlive i hi)).2.2⟩, fun i j hi hj e => hr.inj i j (hlive i hi) (hlive j hj) e, fun i xs hx o y hy hne => ?_⟩, normV_rep r2 k1.out, ?_, fun b hb i hi => ?_, hr.dr⟩
      · exact (((hr.al i (hlive i (subI_iff ok4 i hi))).1.1 (handsOK_mem ok1 hi)).2).symm
      · cases hh : handId i with
        | true => exact absurd ((hr.al i (hlive i hi)).1.1 hh).1 hn
        | false => exact (hr.al i (hlive i hi)).1.2 hh
      · obtain ⟨cs, hcs, hle⟩ := boxesLe_at k3 hx
        have hl := boxLe_at hle hy
        have hg : s'.get (.b i o) = getL cs o := by
          show (match getB s'.boxes i with | some cs => getL cs o | none => unC) = _
          rw [hcs]
        rw [← hg] at hl
        have hvne : (s'.get (.b i o)).v ≠ .un := fun e => by
          rw [e] at hl
          rcases hl with q | q | q
          · exact hne q
          · exact hne q.symm
          · exact hne q.symm
        exact holds_le (hr.bx i o hvne).1 hl hne
      · cases own with
        | none => trivial
        | some q =>
          rcases hownX q rfl with e | z2
          · rw [e]
            exact owsL_nilv
          · exact OwsL.imp z2 (fun b _ hb => hHm b hb.1)
      · cases own with
        | none => exact hb.elim
        | some q =>
          rcases hownX q rfl with e | z2
          · rw [e] at hb; exact absurd hb blkL_nilv
          · exact (z2.at hb).2 i (hlive i hi)
    · exact hk.elim
  cases x with
  | normal => exact fin s' a' w' hk hr
  | ret => exact fin s' a' w' hk hr
  | exit id => exact hk.elim
/-- A function that memory is handed to, by the conditions of its code: 'Q' stands for the program. -/
theorem hcalls_fn (hm : P.follows .mixedOrders = true) (hτ : TauOK P τ) {f : FuncId} {fn : Func} {args : List FV} {hs hs' : HS} {res : FV} {own : Own} (hf : P.funcs[f]? = some fn) (hname : (fn.name == "runtime.NumGoroutine") = false) (hb : fn.body.isSome = true)
    (hargs : Nat.ble args.length fn.ntmps = true) (hok : okH args hs hs' = true)
    (h : ∀ Q, (∀ f args res own, ACalls G P f args res own → ACalls G Q f args res own) → (∀ f args hs res own hs', HCalls G P f args hs res own hs' → HCalls G Q f args hs res own hs') → vc G Q τ fn.ntmps (fn.body.getD .skip) (St.initH args hs fn.ntmps) (postH τ fn.results.toList res own hs')) : HCalls G P f args hs res own hs' :=
  hcalls_vc hτ hm hf hname (by cases hq : fn.body <;> simp_all) (by simpa [Nat.ble_eq] using hargs) hok (h P (fun _ _ _ _ h => h) (fun _ _ _ _ _ _ h => h))
/-- As 'acalls_fn', with calls that memory is handed to. -/
theorem acalls_fnH (hst : Stable G) (hm : P.follows .mixedOrders = true) (hτ : TauOK P τ) {f : FuncId} {fn : Func} {args : List PV} {res : PV} {own : Own} (hf : P.funcs[f]? = some fn) (hname : (fn.name == "runtime.NumGoroutine") = false) (hb : fn.body.isSome = true)
    (hargs : Nat.ble args.length fn.ntmps = true) (h : ∀ Q, (∀ f args res own, ACalls G P f args res own → ACalls G Q f args res own) → (∀ f args hs res own hs', HCalls G P f args hs res own hs' → HCalls G Q f args hs res own hs') →
      vc G Q τ fn.ntmps (fn.body.getD .skip) (St.init args fn.ntmps) (post τ fn.results.toList res own)) : ACalls G P f args res own :=
  acalls_vc hst hτ hm hf hname (by cases hq : fn.body <;> simp_all) (by simpa [Nat.ble_eq] using hargs) (h P (fun _ _ _ _ h => h) (fun _ _ _ _ _ _ h => h))
end
end Go.Proofs.YtbjfmkmaghapgaaGreatDoor.B
