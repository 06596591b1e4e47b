/-
Closed runs: code, and calls. Condition: none.
-/
import Derived.Test.YtohcohbbmjhnfaaGreatDoorXWa
import Derived.LoopN
import Derived.Scope
set_option linter.unusedVariables false
set_option linter.unusedSectionVars false
set_option linter.unusedSimpArgs false
set_option linter.unnecessarySimpa false
namespace Go.Proofs.YtohcohbbmjhnfaaGreatDoor.X
open Go Go.RowKit
noncomputable section
variable [Tabs]
inductive Ex where
  | normal
  | exit (id : Nat)
  | ret
def exOf : Ex → Exit
  | .normal => .normal
  | .exit id => .exit id
  | .ret => .ret
abbrev Ou := Ex × St
def bindE {α : Type} (k : α → Option (List Ou)) : List α → Option (List Ou)
  | [] => some []
  | [o] => k o
  | o :: r => match k o, bindE k r with
    | some a, some b => some (a ++ b)
    | _, _ => none
theorem bindE_mem {α : Type} {k : α → Option (List Ou)} : ∀ {l : List α} {outs : List Ou}, bindE k l = some outs → ∀ o, o ∈ l → ∃ a, k o = some a ∧ ∀ x, x ∈ a → x ∈ outs
  | [], _, _, o, ho => by simp at ho
  | [y], outs, h, o, ho => by
    rw [List.mem_singleton.1 ho]
    exact ⟨outs, h, fun x hx => hx⟩
  | y :: z :: r, outs, h, o, ho => by
    unfold bindE at h
    split at h
    · rename_i a b h1 h2
      cases h
      rcases List.mem_cons.1 ho with rfl | ho
      · exact ⟨a, h1, fun x hx => List.mem_append_left _ hx⟩
      · obtain ⟨c, k1, k2⟩ := bindE_mem h2 o ho
        exact ⟨c, k1, fun x hx => List.mem_append_right _ (k2 x hx)⟩
    · cases h
def thenE (k : St → Option (List Ou)) : Ou → Option (List Ou)
  | (.normal, s) => k s
  | o => some [o]
def flushS (s : St) : St := (s.1.flush, s.2)
def norm : List St → List Ou
  | [] => []
  | s :: r => (.normal, flushS s) :: norm r
theorem norm_mem {s : St} : ∀ {l : List St}, s ∈ l → (.normal, flushS s) ∈ norm l
  | [], h => by simp at h
  | x :: r, h => by
    rcases List.mem_cons.1 h with rfl | h
    · exact List.mem_cons_self ..
    · exact List.mem_cons_of_mem _ (norm_mem h)
def outB (id : Nat) : Ex → Ex
  | .exit j => match Nat.beq j id with
    | true => .normal
    | false => .exit j
  | e => e
def blockE (id : Nat) : List Ou → List Ou
  | [] => []
  | (e, s) :: r => (outB id e, s) :: blockE id r
theorem blockE_mem {id : Nat} {e : Ex} {s : St} : ∀ {l : List Ou}, (e, s) ∈ l → (outB id e, s) ∈ blockE id l
  | [], h => by simp at h
  | (e', s') :: r, h => by
    rcases List.mem_cons.1 h with q | h
    · cases q; exact List.mem_cons_self ..
    · exact List.mem_cons_of_mem _ (blockE_mem h)
def ahead : List Ou → List St
  | [] => []
  | (.normal, s) :: r => s :: ahead r
  | _ :: r => ahead r
def donesX : List Ou → List Ou
  | [] => []
  | (.normal, _) :: r => donesX r
  | o :: r => o :: donesX r
theorem ahead_mem {s : St} : ∀ {l : List Ou}, (.normal, s) ∈ l → s ∈ ahead l
  | [], h => by simp at h
  | (e, s') :: r, h => by
    rcases List.mem_cons.1 h with q | h
    · cases q; exact List.mem_cons_self ..
    · have := ahead_mem h
      cases e <;> first | exact List.mem_cons_of_mem _ this | exact this
theorem donesX_mem {o : Ou} (ho : o.1 ≠ .normal) : ∀ {l : List Ou}, o ∈ l → o ∈ donesX l
  | [], h => by simp at h
  | (e, s') :: r, h => by
    rcases List.mem_cons.1 h with q | h
    · subst q
      cases e <;> first | exact absurd rfl ho | exact List.mem_cons_self ..
    · have := donesX_mem ho h
      cases e <;> first | exact List.mem_cons_of_mem _ this | exact this
/-- Rounds of a loop, of all states at a time. -/
def roundsX (mg : List St → List St) (k : St → Option (List Ou)) : Nat → List St → Option (List Ou)
  | 0, _ => none
  | n + 1, l => match bindE k l with
    | some outs => match ahead outs with
      | [] => some (donesX outs)
      | s :: r => match roundsX mg k n (mg (s :: r)) with
        | some b => some (donesX outs ++ b)
        | none => none
    | none => none
def normO : Option (List St) → Option (List Ou)
  | some l => some (norm l)
  | none => none
section
variable (P : Program) (ext : FuncId → Option Ek) (call : CallF) (fl N F : Nat)
def exC : Code → St → Option (List Ou)
  | .skip, s => some [(.normal, s)]
  | .label _, s => some [(.normal, s)]
  | .region _ ops draw, s => match draw with
    | true => normO (anyX P ext call fl N ops.toList s)
    | false => normO (seqX P ext call fl N ops.toList ops.toList s)
  | .seq x y, s => match exC x s with
    | some l => bindE (thenE fun s => exC y s) l
    | none => none
  | .cond c x y, s => match opnd s.1.get c with
    | some (.bool true) => exC x s
    | some (.bool false) => exC y s
    | _ => none
  | .block id b, s => match exC b s with
    | some l => some (blockE id l)
    | none => none
  | .loop b, s => roundsX (mergeC fl s.2.2 N (wrbC b (0, 0))) (fun s => exC b s) F [s]
  | .exit id, s => some [(.exit id, s)]
  | .ret, s => some [(.ret, s)]
  | .scope b, s => exC b s
  | _, _ => none
end
section
variable {P : Program} {ext : FuncId → Option Ek} {call : CallF} {B fl N F : Nat}
def Post (B fl N : Nat) (β : Ren) (s : St) (w : World) (outs : List Ou) (Q : Exit → Act → World → Prop) : Prop :=
  ∀ e s' β' a' w', (e, s') ∈ outs → Go_ B fl β s.2.1 s.2.2 w β' s'.2.1 s'.2.2 w' → EnvR β' N s'.1.get a' → Q (exOf e) a' w'
theorem exC_ok (hm : P.follows .mixedOrders = true) (hE : ExtOK P ext) (hcall : CallOK P call) : ∀ (c : Code) {β : Ren} {s : St} {a : Act} {w : World} {outs : List Ou} {Q : Exit → Act → World → Prop}, HR B β s.2.1 s.2.2 w → EnvR β N s.1.get a → B ≤ w.heap.size → fl ≤ s.2.2 →
    exC P ext call fl N F c s = some outs → Post B fl N β s w outs Q → c.wp P Q a w
  | .skip, β, s, a, w, outs, Q, hr, he, hB, hfl, hx, hQ => by
    cases hx
    exact wp_skip (hQ .normal s β a w (List.mem_cons_self ..) (Go_.refl hr) he)
  | .label l, β, s, a, w, outs, Q, hr, he, hB, hfl, hx, hQ => by
    cases hx
    exact wp_label (hQ .normal s β a w (List.mem_cons_self ..) (Go_.refl hr) he)
  | .region id ops draw, β, s, a, w, outs, Q, hr, he, hB, hfl, hx, hQ => by
    have hops : ops.toList.toArray = ops := Array.toArray_toList
    cases draw with
    | true =>
      change normO (anyX P ext call fl N ops.toList s) = some outs at hx
      cases hl : anyX P ext call fl N ops.toList s with
      | none => rw [hl] at hx; cases hx
      | some l =>
        rw [hl] at hx
        cases hx
        have := anyX_ok (Q := Q) (id := id) hm hE hcall hr he hB hfl hl (fun s' β' a' w' h1 h2 h3 => hQ .normal (flushS s') β' a' w' (norm_mem h1) h2 (h3.sub (fun t x => Loc.flush_get)))
        rwa [hops] at this
    | false =>
      change normO (seqX P ext call fl N ops.toList ops.toList s) = some outs at hx
      cases hl : seqX P ext call fl N ops.toList ops.toList s with
      | none => rw [hl] at hx; cases hx
      | some l =>
        rw [hl] at hx
        cases hx
        refine wp_region ?_
        have := seq_ok (Q := Q) (ops := ops.toList) hE hcall ops.toList.length 0 (by simp) (by simp) hr he hB hfl hl (fun s' β' a' w' h1 h2 h3 => hQ .normal (flushS s') β' a' w' (norm_mem h1) h2 (h3.sub (fun t x => Loc.flush_get)))
        rw [hops] at this
        rw [List.range_eq_range']
        simpa using this
  | .seq x y, β, s, a, w, outs, Q, hr, he, hB, hfl, hx, hQ => by
    unfold exC at hx
    split at hx
    · rename_i l hl
      refine wp_seq (exC_ok hm hE hcall x hr he hB hfl hl ?_)
      intro e s' β' a' w' hmem hg he'
      obtain ⟨o, k1, k2⟩ := bindE_mem hx _ hmem
      cases e with
      | normal => exact exC_ok hm hE hcall y hg.hr he' (Nat.le_trans hB hg.size) (Nat.le_trans hfl hg.le) k1 (fun e2 s2 β2 a2 w2 m2 g2 he2 => hQ e2 s2 β2 a2 w2 (k2 _ m2) (hg.trans g2) he2)
      | exit id => cases k1; exact hQ (.exit id) s' β' a' w' (k2 _ (List.mem_cons_self ..)) hg he'
      | ret => cases k1; exact hQ .ret s' β' a' w' (k2 _ (List.mem_cons_self ..)) hg he'
    · cases hx
  | .cond c x y, β, s, a, w, outs, Q, hr, he, hB, hfl, hx, hQ => by
    unfold exC at hx
    split at hx
    · rename_i hc
      have hv := opnd_ok he hc
      rw [VR] at hv
      exact wp_cond_true hv (exC_ok hm hE hcall x hr he hB hfl hx hQ)
    · rename_i hc
      have hv := opnd_ok he hc
      rw [VR] at hv
      exact wp_cond_false hv (exC_ok hm hE hcall y hr he hB hfl hx hQ)
    · cases hx
  | .block id b, β, s, a, w, outs, Q, hr, he, hB, hfl, hx, hQ => by
    unfold exC at hx
    split at hx
    · rename_i l hl
      cases hx
      refine wp_block (exC_ok hm hE hcall b hr he hB hfl hl ?_)
      intro e s' β' a' w' hmem hg he'
      have hmem' := blockE_mem (id := id) hmem
      cases e with
      | normal => exact hQ .normal s' β' a' w' hmem' hg he'
      | ret => exact hQ .ret s' β' a' w' hmem' hg he'
      | exit j =>
        show Exit.inBlock id Q (.exit j) a' w'
        unfold Exit.inBlock
        unfold outB at hmem'
        simp only at hmem' ⊢
        split at hmem'
        · rename_i e; rw [if_pos (beq_t e)]; exact hQ .normal s' β' a' w' hmem' hg he'
        · rename_i e; rw [if_neg (beq_f e)]; exact hQ (.exit j) s' β' a' w' hmem' hg he'
    · cases hx
  | .loop b, β, s, a, w, outs, Q, hr, he, hB, hfl, hx, hQ => by
    have hx' : roundsX (mergeC fl s.2.2 N (wrbC b (0, 0))) (fun s => exC P ext call fl N F b s) F [s] = some outs := hx
    refine wp_loop_rounds F ?_
    clear hx
    generalize hnx0 : s.2.2 = nx0 at hx'
    have key : ∀ (n : Nat) {β : Ren} {l : List St} {s : St} {a : Act} {w : World} {outs : List Ou}, s ∈ l → HR B β s.2.1 s.2.2 w → EnvR β N s.1.get a → B ≤ w.heap.size → fl ≤ s.2.2 → roundsX (mergeC fl nx0 N (wrbC b (0, 0))) (fun s => exC P ext call fl N F b s) n l = some outs → Post B fl N β s w outs Q → Code.rounds P b Q n a w := by
      intro n
      induction n with
      | zero => intro β l s a w outs _ _ _ _ _ hx _; cases hx
      | succ n ih =>
        intro β l s a w outs hs hr he hB hfl hx hQ
        unfold roundsX at hx
        cases hl : bindE (fun s => exC P ext call fl N F b s) l with
        | none => rw [hl] at hx; cases hx
        | some outs1 =>
          rw [hl] at hx
          simp only at hx
          obtain ⟨o1, k1, k2⟩ := bindE_mem hl s hs
          rw [rounds_succ]
          refine exC_ok hm hE hcall b hr he hB hfl k1 ?_
          intro e s' β' a' w' hmem hg he'
          have hmem1 := k2 _ hmem
          cases e with
          | normal =>
            have hn := ahead_mem hmem1
            split at hx
            · rename_i q; rw [q] at hn; simp at hn
            · rename_i s0 r0 q
              rw [q] at hn
              obtain ⟨s2, m1, m2⟩ := mergeC_mem (fl := fl) (nx0 := nx0) (N := N) (m := wrbC b (0, 0)) hn
              split at hx
              · rename_i b2 hb2
                cases hx
                have hg2 := hg.less m1.hp (Nat.le_refl _)
                rw [← m1.nx] at hg2
                exact ih m2 hg2.hr (m1.env he') (Nat.le_trans hB hg2.size) (Nat.le_trans hfl hg2.le) hb2 (fun e3 s3 β3 a3 w3 j1 g3 he3 => hQ e3 s3 β3 a3 w3 (List.mem_append_right _ j1) (hg2.trans g3) he3)
              · cases hx
          | exit id =>
            have hd := donesX_mem (o := (.exit id, s')) (by simp) hmem1
            refine hQ (.exit id) s' β' a' w' ?_ hg he'
            split at hx
            · cases hx; exact hd
            · split at hx
              · cases hx; exact List.mem_append_left _ hd
              · cases hx
          | ret =>
            have hd := donesX_mem (o := (.ret, s')) (by simp) hmem1
            refine hQ .ret s' β' a' w' ?_ hg he'
            split at hx
            · cases hx; exact hd
            · split at hx
              · cases hx; exact List.mem_append_left _ hd
              · cases hx
    exact key F (List.mem_cons_self ..) hr he hB hfl hx' hQ
  | .exit id, β, s, a, w, outs, Q, hr, he, hB, hfl, hx, hQ => by
    cases hx
    exact wp_exit (hQ (.exit id) s β a w (List.mem_cons_self ..) (Go_.refl hr) he)
  | .ret, β, s, a, w, outs, Q, hr, he, hB, hfl, hx, hQ => by
    cases hx
    exact wp_ret (hQ .ret s β a w (List.mem_cons_self ..) (Go_.refl hr) he)
  | .rangeFunc .., β, s, a, w, outs, Q, hr, he, hB, hfl, hx, hQ => by cases hx
  | .scope b, β, s, a, w, outs, Q, hr, he, hB, hfl, hx, hQ => by
    have hx' : exC P ext call fl N F b s = some outs := hx
    refine wp_scope_straight (exC_ok hm hE hcall b hr he hB hfl hx' ?_)
    intro e s' β' a' w' hmem hg he'
    have := hQ e s' β' a' w' hmem hg he'
    cases e <;> exact this
  | .goto _, β, s, a, w, outs, Q, hr, he, hB, hfl, hx, hQ => by cases hx
  | .refuse _, β, s, a, w, outs, Q, hr, he, hB, hfl, hx, hQ => by cases hx
end
/-! ### functions -/
def resX1 (P : Program) (s : St) : ResultVar → Option XV
  | .tmp t => s.1.get t
  | .cell q t => match s.1.get q with
    | some x => xload P s.2.1 t x
    | none => none
def resXs (P : Program) (s : St) : List ResultVar → Option (List XV)
  | [] => some []
  | r :: rs => match resX1 P s r, resXs P s rs with
    | some x, some xs => some (x :: xs)
    | _, _ => none
def resX (P : Program) (s : St) : List ResultVar → Option XV
  | [r] => resX1 P s r
  | rs => match resXs P s rs with
    | some xs => some (.tup xs)
    | none => none
def outsX (P : Program) (rs : List ResultVar) : List Ou → Option Outs
  | [] => some []
  | (e, s) :: r => match e with
    | .exit _ => none
    | _ => match resX P s rs, outsX P rs r with
      | some x, some l => some ((x, s.2.1, s.2.2) :: l)
      | _, _ => none
theorem outsX_mem {P : Program} {rs : List ResultVar} {e : Ex} {s : St} : ∀ {l : List Ou} {outs : Outs}, outsX P rs l = some outs → (e, s) ∈ l → (∀ id, e ≠ .exit id) ∧ ∃ x, resX P s rs = some x ∧ (x, s.2.1, s.2.2) ∈ outs
  | [], outs, _, h => by simp at h
  | (e', s') :: r, outs, hx, h => by
    unfold outsX at hx
    split at hx
    · cases hx
    · rename_i hne
      split at hx
      · rename_i x l h1 h2
        cases hx
        rcases List.mem_cons.1 h with q | h
        · cases q; exact ⟨fun id z => hne id z, x, h1, List.mem_cons_self ..⟩
        · obtain ⟨k1, y, k2, k3⟩ := outsX_mem h2 h
          exact ⟨k1, y, k2, List.mem_cons_of_mem _ k3⟩
      · cases hx
def resM (a : Act) (r : ResultVar) : Sem Value :=
  match r with
  | .tmp t => pure (a.tmps.getD t undef)
  | .cell q t => do loadVar t (← asAddr (a.tmps.getD q undef))
theorem results_resM (fn : Func) (a : Act) : results fn a.tmps = (fn.results.mapM (resM a) >>= fun vs => pure (if h : vs.size = 1 then vs[0] else .tuple vs)) := by
  unfold results
  congr 1
section
variable {P : Program} {ext : FuncId → Option Ek} {call : CallF} {B fl N F : Nat} {β : Ren} {a : Act} {w : World}
theorem resX1_ok {s : St} (hr : HR B β s.2.1 s.2.2 w) (he : EnvR β N s.1.get a) {r : ResultVar} {x : XV} (hx : resX1 P s r = some x) : ∃ v, (resM a r).run P w = .ok v w ∧ VR β x v := by
  cases r with
  | tmp t => exact ⟨_, by simp [resM], he.tm t x hx⟩
  | cell q t =>
    change (match s.1.get q with
      | some x => xload P s.2.1 t x
      | none => none) = some x at hx
    cases hy : s.1.get q with
    | none => rw [hy] at hx; cases hx
    | some y =>
      rw [hy] at hx
      have hx : xload P s.2.1 t y = some x := hx
      have hv := he.tm q y hy
      obtain ⟨u, k1, k2⟩ := xload_ok (P := P) hr hv hx
      refine ⟨u, ?_, k2⟩
      have hptr : ∃ ad, a.tmps.getD q undef = .pointer (some ad) := by
        unfold xload at hx
        split at hx
        · obtain ⟨bi, _, e⟩ := hv; exact ⟨_, e⟩
        · cases hx
      obtain ⟨ad, hp⟩ := hptr
      rw [hp] at k1
      rw [← k1]
      simp [resM, hp, asAddr, Instr.loadAt, Instr.sureAddr]
theorem resXs_ok {s : St} (hr : HR B β s.2.1 s.2.2 w) (he : EnvR β N s.1.get a) : ∀ {rs : List ResultVar} {xs : List XV}, resXs P s rs = some xs → ∃ vs, (rs.mapM (resM a)).run P w = .ok vs w ∧ VRs β xs vs ∧ xs.length = rs.length
  | [], xs, h => by cases h; exact ⟨[], by simp, .nil, rfl⟩
  | r :: rs, xs, h => by
    unfold resXs at h
    split at h
    · rename_i x ys h1 h2
      cases h
      obtain ⟨vs, k1, k2, k3⟩ := resXs_ok hr he h2
      obtain ⟨v, j1, j2⟩ := resX1_ok (P := P) hr he h1
      refine ⟨v :: vs, ?_, .cons j2 k2, by simp [k3]⟩
      rw [List.mapM_cons]
      simp only [Sem.run_bind, j1, Result.andThen_ok, k1, Sem.run_pure]
    · cases h
theorem resX_ok {s : St} (hr : HR B β s.2.1 s.2.2 w) (he : EnvR β N s.1.get a) {fn : Func} {x : XV} (hx : resX P s fn.results.toList = some x) : ∃ v, (results fn a.tmps).run P w = .ok v w ∧ VR β x v := by
  unfold resX at hx
  split at hx
  · rename_i r hrr
    obtain ⟨v, j1, j2⟩ := resX1_ok (P := P) hr he hx
    have hrs : fn.results = #[r] := by rw [← Array.toArray_toList (xs := fn.results), hrr]
    refine ⟨v, ?_, j2⟩
    rw [results_resM, hrs]
    simp [j1]
  · rename_i hne
    split at hx
    · rename_i xs hxs
      cases hx
      obtain ⟨vs, k1, k2, k3⟩ := resXs_ok (P := P) hr he hxs
      have hl1 : ¬ (vs.toArray.size = 1) := by
        intro hone
        have : fn.results.toList.length = 1 := by rw [← k3, ← k2.length]; simpa using hone
        obtain ⟨r, hr⟩ := List.length_eq_one_iff.1 this
        exact hne r hr
      refine ⟨.tuple vs.toArray, ?_, vs.toArray, rfl, by simpa using k2⟩
      rw [results_resM, Array.mapM_eq_mapM_toList]
      simp only [Sem.run_bind, Sem.run_map, k1, Result.andThen_ok, Sem.run_pure]
      rw [dif_neg hl1]
    · cases hx
end
def fillU : Nat → List XV → List XV
  | 0, _ => []
  | n + 1, [] => .tup [] :: fillU n []
  | n + 1, x :: xs => x :: fillU n xs
/-- The temporaries that are read behind the statement that writes them. -/
def maskOps (l : List Oper) : Nat → Nat → Nat :=
  List.rec (motive := fun _ => Nat → Nat → Nat) (fun _ M => M) (fun o _ ih w M => ih (Option.rec (motive := fun _ => Nat) w (fun d => Nat.lor w (Nat.shiftLeft 1 d)) o.dst) (Nat.lor M (Nat.sub (opReads o.op) (Nat.land (opReads o.op) w)))) l
def maskC (c : Code) : Nat :=
  Code.rec (motive := fun _ => Nat) 0 (fun _ ops _ => maskOps ops.toList 0 0) (fun _ _ a b => Nat.lor a b) (fun c _ _ a b => Nat.lor (rd1 c) (Nat.lor a b)) (fun _ _ a => a) (fun _ a => a) (fun _ _ _ _ _ _ => 0) (fun _ => 0) (fun _ a => a) (fun _ => 0) (fun _ => 0) 0 (fun _ => 0) c
def maskR (l : List ResultVar) : Nat :=
  List.rec (motive := fun _ => Nat) 0 (fun r _ ih => Nat.lor (ResultVar.rec (motive := fun _ => Nat) (fun t => Nat.shiftLeft 1 t) (fun t _ => Nat.shiftLeft 1 t) r) ih) l
/-- A frame's start. -/
def zeroT (n : Nat) : Tr XV := Tr.nil.puts 0 (fillU n [])
def numL (xs : List XV) : Nat → List (Nat × XV) :=
  List.rec (motive := fun _ => Nat → List (Nat × XV)) (fun _ => []) (fun x _ ih i => (i, x) :: ih (Nat.succ i)) xs
def initE (n : Nat) (xs : List XV) (m : Nat) : Loc := ⟨numL xs 0, zeroT n, m, Nat.pred (Nat.shiftLeft 1 xs.length)⟩
theorem numL_look {t : Nat} {r : Option XV} : ∀ {xs : List XV} {i : Nat} {x : XV}, lookL (numL xs i) t r = some x → (i ≤ t ∧ xs[t - i]? = some x) ∨ ((t < i ∨ i + xs.length ≤ t) ∧ r = some x)
  | [], i, x, h => .inr ⟨by simp; omega, h⟩
  | y :: xs, i, x, h => by
    have h' : Bool.rec (motive := fun _ => Option XV) (lookL (numL xs (i + 1)) t r) (some y) (Nat.beq i t) = some x := h
    cases q : Nat.beq i t with
    | true =>
      rw [q] at h'
      cases h'
      have := beq_t q
      subst this
      exact .inl ⟨Nat.le_refl _, by simp⟩
    | false =>
      rw [q] at h'
      have hne := beq_f q
      rcases numL_look h' with ⟨h1, h2⟩ | ⟨h1, h2⟩
      · refine .inl ⟨by omega, ?_⟩
        rw [show t - i = (t - (i + 1)) + 1 by omega]
        simpa using h2
      · exact .inr ⟨by simp; omega, h2⟩
theorem fillU_get : ∀ {n : Nat} {xs : List XV} {i : Nat} {x : XV}, (fillU n xs)[i]? = some x → i < n ∧ (xs[i]? = some x ∨ (xs.length ≤ i ∧ x = .tup []))
  | 0, xs, i, x, h => by simp [fillU] at h
  | n + 1, [], i, x, h => by
    unfold fillU at h
    cases i with
    | zero => simp at h; exact ⟨by omega, .inr ⟨by simp, h.symm⟩⟩
    | succ i =>
      obtain ⟨k1, k2⟩ := fillU_get (n := n) (xs := []) (i := i) (by simpa using h)
      exact ⟨by omega, .inr ⟨by simp, by simpa using k2⟩⟩
  | n + 1, y :: xs, i, x, h => by
    unfold fillU at h
    cases i with
    | zero => simp at h; exact ⟨by omega, .inl (by simpa using h)⟩
    | succ i =>
      obtain ⟨k1, k2⟩ := fillU_get (n := n) (xs := xs) (i := i) (by simpa using h)
      exact ⟨by omega, by simpa using k2⟩
theorem initE_get {n m t : Nat} {xs : List XV} {x : XV} (h : (initE n xs m).get t = some x) : xs[t]? = some x ∨ (xs.length ≤ t ∧ x = .tup []) := by
  have last : ∀ {y : XV}, lastT (zeroT n) m t = some y → y = .tup [] := by
    intro y hy
    have hy : Bool.rec (motive := fun _ => Option XV) none ((zeroT n).get t) (bitN m t) = some y := hy
    cases q : bitN m t with
    | false => rw [q] at hy; cases hy
    | true =>
      rw [q] at hy
      rcases (fillU_get (cells_get hy)).2 with z | z
      · simp at z
      · exact z.2
  have h' : Bool.rec (motive := fun _ => Option XV) (lastT (zeroT n) m t) (lookL (numL xs 0) t (lastT (zeroT n) m t)) (bitN (Nat.pred (Nat.shiftLeft 1 xs.length)) t) = some x := h
  cases q : bitN (Nat.pred (Nat.shiftLeft 1 xs.length)) t with
  | true =>
    rw [q] at h'
    rcases numL_look h' with ⟨_, h2⟩ | ⟨h1, h2⟩
    · exact .inl h2
    · exact .inr ⟨by omega, last h2⟩
  | false =>
    rw [q] at h'
    refine .inr ⟨?_, last h'⟩
    rw [bitN_eq] at q
    have e : Nat.pred (Nat.shiftLeft 1 xs.length) = 2 ^ xs.length - 1 := by
      show (1 <<< xs.length) - 1 = _
      rw [Nat.shiftLeft_eq, Nat.one_mul]
    rw [e, Nat.testBit_two_pow_sub_one] at q
    simpa using q
/-! ### outcomes that are alike -/
def cleanO (nx0 : Nat) (p : XV × Heap × Nat) : XV × Heap × Nat := (p.1, dropB nx0 (reachX p.2.1 100000 [p.1] []) (Nat.sub p.2.2 nx0) p.2.1, p.2.2)
def beqOu (p q : XV × Heap × Nat) : Bool :=
  match Nat.beq p.2.2 q.2.2, beqX p.1 q.1 with
  | true, true => beqH p.2.1 q.2.1
  | _, _ => false
theorem beqOu_ok {p q : XV × Heap × Nat} (h : beqOu p q = true) : p = q := by
  obtain ⟨a, b, c⟩ := p
  obtain ⟨a', b', c'⟩ := q
  unfold beqOu at h
  split at h
  · rename_i e1 e2
    have h1 : c = c' := beq_t e1
    have h2 : a = a' := beqX_ok e2
    have h3 : b = b' := beqH_ok h
    rw [h1, h2, h3]
  · cases h
def memO (p : XV × Heap × Nat) : Outs → Bool
  | [] => false
  | q :: r => match beqOu p q with
    | true => true
    | false => memO p r
theorem memO_ok {p : XV × Heap × Nat} : ∀ {l : Outs}, memO p l = true → p ∈ l
  | [], h => by cases h
  | q :: r, h => by
    unfold memO at h
    split at h
    · rename_i e; rw [beqOu_ok e]; exact List.mem_cons_self ..
    · exact List.mem_cons_of_mem _ (memO_ok h)
def mergeO1 (nx0 : Nat) : Outs → Outs
  | [] => []
  | p :: r => match memO (cleanO nx0 p) (mergeO1 nx0 r) with
    | true => mergeO1 nx0 r
    | false => cleanO nx0 p :: mergeO1 nx0 r
def mergeO (nx0 : Nat) : Outs → Outs
  | [] => []
  | [p] => [p]
  | p :: q :: r => mergeO1 nx0 (p :: q :: r)
theorem cleanO_ok (nx0 : Nat) (p : XV × Heap × Nat) : Drops nx0 p.2.1 (cleanO nx0 p).2.1 := dropB_ok _ (Drops.refl _ _)
theorem mergeO1_mem {nx0 : Nat} {p : XV × Heap × Nat} : ∀ {l : Outs}, p ∈ l → cleanO nx0 p ∈ mergeO1 nx0 l
  | [], h => by simp at h
  | q :: r, h => by
    unfold mergeO1
    split
    · rename_i e
      rcases List.mem_cons.1 h with rfl | h
      · exact memO_ok e
      · exact mergeO1_mem h
    · rcases List.mem_cons.1 h with rfl | h
      · exact List.mem_cons_self ..
      · exact List.mem_cons_of_mem _ (mergeO1_mem h)
theorem mergeO_mem {nx0 : Nat} {x : XV} {h : Heap} {nx : Nat} {l : Outs} (hm : (x, h, nx) ∈ l) : ∃ h2, Drops nx0 h h2 ∧ (x, h2, nx) ∈ mergeO nx0 l := by
  match l, hm with
  | [p], hm =>
    rw [List.mem_singleton] at hm
    subst hm
    exact ⟨h, Drops.refl _ _, List.mem_cons_self ..⟩
  | p :: q :: r, hm =>
    refine ⟨_, cleanO_ok nx0 (x, h, nx), ?_⟩
    exact mergeO1_mem hm
def mergeOO (nx0 : Nat) : Option Outs → Option Outs
  | some l => some (mergeO nx0 l)
  | none => none
/-- A call: so many deep; by 'prim' where that knows. -/
def runF (P : Program) (ext : FuncId → Option Ek) (prim : CallF) (F : Nat) : Nat → CallF
  | 0, _, _, _, _, _ => none
  | n + 1, fl, f, xs, h, nx => match prim fl f xs h nx with
    | some outs => some outs
    | none => match P.funcs[f]? with
      | none => none
      | some fn => match fn.body with
        | none => none
        | some c => match Nat.ble xs.length fn.ntmps with
          | true => match exC P ext (runF P ext prim F n) fl fn.ntmps F c (initE fn.ntmps xs (Nat.lor (maskC c) (maskR fn.results.toList)), h, nx) with
            | some l => mergeOO nx (outsX P fn.results.toList l)
            | none => none
          | false => none
/-- No function with a body has the name that the machine knows. -/
def numFree (P : Program) : Bool := P.funcs.toList.all fun fn => (fn.body.isNone || !(fn.name == "runtime.NumGoroutine"))
theorem runF_ok {P : Program} {ext : FuncId → Option Ek} {prim : CallF} {F : Nat} (hm : P.follows .mixedOrders = true) (hE : ExtOK P ext) (hno : numFree P = true) (hprim : CallOK P prim) (n : Nat) : CallOK P (runF P ext prim F n) := by
  induction n with
  | zero => intro B fl f xs h nx outs hx; cases hx
  | succ n ih =>
    intro B fl f xs h nx outs hx β w vs hr hB hfl hv
    unfold runF at hx
    split at hx
    · rename_i outs' hp
      cases hx
      exact hprim hp hr hB hfl hv
    split at hx
    · cases hx
    · rename_i fn hf
      split at hx
      · cases hx
      · rename_i c hb
        split at hx
        · rename_i hle
          have hname : (fn.name == "runtime.NumGoroutine") = false := by
            have hmem : fn ∈ P.funcs.toList := by
              obtain ⟨h1, h2⟩ := Array.getElem?_eq_some_iff.1 hf
              rw [← h2]
              exact Array.getElem_mem_toList h1
            have := List.all_eq_true.1 hno fn hmem
            rw [hb] at this
            simpa using this
          have hle : xs.length ≤ fn.ntmps := Nat.le_of_ble_eq_true hle
          split at hx
          · rename_i l hl
            refine ⟨⟨fn, hf, hname, by rw [hb]; rfl⟩, ?_⟩
            refine calls_of_wp hf hb ?_
            have hlen := hv.length
            have he : EnvR β fn.ntmps (initE fn.ntmps xs (Nat.lor (maskC c) (maskR fn.results.toList))).get { tmps := vs.toArray ++ Array.replicate (fn.ntmps - vs.toArray.size) undef, defers := [] } := by
              refine ⟨rfl, by simp [hlen]; omega, fun t x e => ?_⟩
              have q2 := initE_get e
              show VR β x ((vs.toArray ++ Array.replicate (fn.ntmps - vs.toArray.size) undef).getD t undef)
              rw [Array.getD_eq_getD_getElem?]
              rcases q2 with q2 | ⟨q2, rfl⟩
              · obtain ⟨v, v1, v2⟩ := hv.get q2
                have hlt : t < vs.toArray.size := by have := (List.getElem?_eq_some_iff.1 v1).1; simpa using this
                rw [Array.getElem?_append_left hlt]
                simp [v1, v2]
              · rw [Array.getElem?_append_right (by simpa [hlen] using q2), Array.getElem?_replicate]
                split <;> exact undef_ok β
            refine exC_ok (B := B) (fl := fl) hm hE ih c (s := (initE fn.ntmps xs (Nat.lor (maskC c) (maskR fn.results.toList)), h, nx)) hr he hB hfl hl ?_
            intro e s' β' a' w' hmem hg he'
            obtain ⟨outs0, hx0, hx1⟩ : ∃ outs0, outsX P fn.results.toList l = some outs0 ∧ mergeO nx outs0 = outs := by
              cases q : outsX P fn.results.toList l with
              | none => rw [q] at hx; cases hx
              | some o => rw [q] at hx; cases hx; exact ⟨o, rfl, rfl⟩
            obtain ⟨k1, x, k2, k3'⟩ := outsX_mem hx0 hmem
            obtain ⟨h2, k4, k3⟩ := mergeO_mem (nx0 := nx) k3'
            rw [hx1] at k3
            have hg2 := hg.drops k4 hfl
            obtain ⟨v, v1, v2⟩ := resX_ok (P := P) hg.hr he' k2
            have fin : a'.defers = [] ∧ ∃ v, (results fn a'.tmps).run P w' = .ok v w' ∧ ∃ x h' nx', (x, h', nx') ∈ outs ∧ ∃ v' β', Ending.returned v = .returned v' ∧ Go_ B fl β h nx w β' h' nx' w' ∧ VR β' x v' := ⟨he'.df, v, v1, x, _, _, k3, v, β', rfl, hg2, v2⟩
            cases e with
            | normal => exact fin
            | ret => exact fin
            | exit id => exact absurd rfl (k1 id)
          · cases hx
        · cases hx
end
end Go.Proofs.YtohcohbbmjhnfaaGreatDoor.X
