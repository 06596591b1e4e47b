/-
Closed runs: a statement's operations carried out. Condition: none.
-/
import Derived.Test.YtohcohbbmjhnfaaGreatDoorXQ
set_option linter.unusedVariables false
set_option linter.unusedSectionVars false
set_option linter.unusedSimpArgs false
set_option linter.unnecessarySimpa false
namespace Go.Proofs.YtohcohbbmjhnfaaGreatDoor.X
open Go Go.RowKit
noncomputable section
variable [Tabs]
def isHeavy (o : Oper) : Bool :=
  match o.op with
  | .store .. => true
  | .insert .. => true
  | .mapUpdate .. => true
  | .mapEntry .. => true
  | .entryStore .. => true
  | .range .. => true
  | .next .. => true
  | .call c => match c.callee with
    | .builtin .len => false
    | .builtin .cap => false
    | .builtin .max => false
    | .builtin .min => false
    | .builtin .unsafeSliceData => false
    | _ => true
  | _ => false
/-- Is the operation wanted? -/
def wantX (ops : List Oper) (g : Env) (o : Oper) : Option Bool :=
  match o.guard with
  | none => some true
  | some (j, want) => match ops[j]? with
    | some oj => match oj.dst with
      | some d => match g d with
        | some (.bool b) => some (beqB b want)
        | some (.tup []) => some false
        | _ => none
      | none => none
    | none => none
abbrev St := Loc × Heap × Nat
def bindS {α : Type} (k : α → Option (List St)) : List α → Option (List St)
  | [] => some []
  | s :: r => match k s, bindS k r with
    | some a, some b => some (a ++ b)
    | _, _ => none
theorem bindS_mem {α : Type} {k : α → Option (List St)} : ∀ {l : List α} {outs : List St}, bindS k l = some outs → ∀ s, s ∈ l → ∃ a, k s = some a ∧ ∀ x, x ∈ a → x ∈ outs
  | [], _, _, s, hs => by simp at hs
  | y :: r, outs, h, s, hs => by
    unfold bindS at h
    split at h
    · rename_i a b h1 h2
      cases h
      rcases List.mem_cons.1 hs with rfl | hs
      · exact ⟨a, h1, fun x hx => List.mem_append_left _ hx⟩
      · obtain ⟨c, k1, k2⟩ := bindS_mem h2 s hs
        exact ⟨c, k1, fun x hx => List.mem_append_right _ (k2 x hx)⟩
    · cases h
section
variable {P : Program} {ext : FuncId → Option Ek} {call : CallF} {B fl N : Nat}
def putO (E : Loc) (dst : Option Tmp) (N : Nat) : Outs → Option (List St)
  | [] => some []
  | (x, h, nx) :: r => match setD E dst N x, putO E dst N r with
    | some E', some l => some ((E', h, nx) :: l)
    | _, _ => none
theorem putO_mem {E : Loc} {dst : Option Tmp} : ∀ {l : Outs} {outs : List St}, putO E dst N l = some outs → ∀ x h nx, (x, h, nx) ∈ l → ∃ E', setD E dst N x = some E' ∧ (E', h, nx) ∈ outs
  | [], _, _, x, h, nx, hm => by simp at hm
  | (y, g, n) :: r, outs, hp, x, h, nx, hm => by
    unfold putO at hp
    split at hp
    · rename_i E' l h1 h2
      cases hp
      rcases List.mem_cons.1 hm with e | hm
      · cases e; exact ⟨E', h1, List.mem_cons_self ..⟩
      · obtain ⟨E2, k1, k2⟩ := putO_mem h2 x h nx hm
        exact ⟨E2, k1, List.mem_cons_of_mem _ k2⟩
    · cases hp
/-- One operation, in the text's order. -/
def stepX (P : Program) (ext : FuncId → Option Ek) (call : CallF) (fl N : Nat) (ops : List Oper) (o : Oper) (s : St) : Option (List St) :=
  match wantX ops s.1.get o with
  | none => none
  | some false => putO s.1 o.dst N [(.tup [], s.2.1, s.2.2)]
  | some true => match isHeavy o with
    | true => match heavyX P ext call fl s.1.get s.2.1 s.2.2 o with
      | some outs => putO s.1 o.dst N outs
      | none => none
    | false => match liteX P s.1.get s.2.1 s.2.2 o with
      | some (x, none) => putO s.1 o.dst N [(x, s.2.1, s.2.2)]
      | some (x, some ob) => putO s.1 o.dst N [(x, s.2.1.set s.2.2 ob, Nat.succ s.2.2)]
      | none => none
def seqX (P : Program) (ext : FuncId → Option Ek) (call : CallF) (fl N : Nat) (ops : List Oper) : List Oper → St → Option (List St)
  | [], s => some [s]
  | o :: r, s => match stepX P ext call fl N ops o s with
    | some l => bindS (seqX P ext call fl N ops r) l
    | none => none
variable {β : Ren} {h : Heap} {nx : Nat} {w : World} {a : Act}
theorem want_ok {ops : List Oper} {g : Env} {o : Oper} {r : Bool} (he : ∀ j want oj d, o.guard = some (j, want) → ops[j]? = some oj → oj.dst = some d → ∀ x, g d = some x → VR β x (a.tmps.getD d undef)) (hx : wantX ops g o = some r) : Region.wanted o (yielded ops.toArray a.tmps) = r := by
  unfold wantX at hx
  split at hx
  · rename_i hg
    cases hx
    simp [Region.wanted, hg]
  · rename_i j want hg
    split at hx
    · rename_i oj hj
      split at hx
      · rename_i d hd
        have hgetD : ∀ v, a.tmps.getD d undef = v → v ≠ undef ∨ v = undef → (yielded ops.toArray a.tmps j = match v with | .bool b => (if d < a.tmps.size then some b else none) | _ => none) := by
          intro v hv _
          have hq : ((ops.toArray[j]?).bind (·.dst)) = some d := by simp [hj, hd]
          unfold yielded
          rw [hq, Option.bind_some]
          rw [Array.getD_eq_getD_getElem?] at hv
          cases hx : a.tmps[d]? with
          | none =>
            have : ¬ d < a.tmps.size := fun q => by rw [Array.getElem?_eq_getElem q] at hx; cases hx
            cases v <;> simp [this]
          | some u =>
            rw [hx] at hv
            have hv : u = v := hv
            subst hv
            have : d < a.tmps.size := (Array.getElem?_eq_some_iff.1 hx).1
            cases u <;> simp [this]
        split at hx
        · rename_i b hb
          cases hx
          have hv := he j want oj d hg hj hd _ hb
          rw [VR] at hv
          have hlt : d < a.tmps.size := by
            rcases Nat.lt_or_ge d a.tmps.size with q | q
            · exact q
            · rw [Array.getD_eq_getD_getElem?, Array.getElem?_eq_none q] at hv; simp [undef] at hv
          have hy := hgetD _ hv (.inl (by simp [undef]))
          simp only [if_pos hlt] at hy
          rw [beqB_ok]
          simp [Region.wanted, hg, hy]
        · rename_i hb
          cases hx
          have hv := he j want oj d hg hj hd _ hb
          obtain ⟨vs, hvs, _⟩ := hv
          have hy := hgetD _ hvs (Classical.em _).symm
          simp [Region.wanted, hg, hy]
        · cases hx
      · cases hx
    · cases hx
/-- A lite operation that is carried out, at a state that may hold more. -/
theorem lite_wp (hr : HR B β h nx w) {g : Env} (he : EnvR β N g a) {o : Oper} {id : Nat} {x : XV} {ob : Option AO} (hx : liteX P g h id o = some (x, ob)) {K : Act → World → Prop} {Q : Exit → Act → World → Prop}
    (h1 : ob = none → ∀ v, VR β x v → K (a.put o.dst v) w) (h2 : ∀ ob', ob = some ob' → ∀ v w', NewB 0 β id w w' x v ob' → K (a.put o.dst v) w') : o.wp P a w K Q := by
  have := lite_ok (P := P) hr he hx
  cases ob with
  | none =>
    obtain ⟨v, k1, k2⟩ := this
    exact wp_of_value k1 (h1 rfl v k2)
  | some ob' =>
    obtain ⟨v, w', k1, k2⟩ := this
    exact wp_of_value k1 (h2 ob' rfl v w' k2)
theorem hr_none (hr : HR B β h nx w) {b : Nat} (hb : nx ≤ b) : β b = none := by
  cases q : β b with
  | none => rfl
  | some bi => have := (hr.lt b bi q).1; omega
theorem put_none (a : Act) (v : Value) : a.put none v = a := rfl
theorem step_ok (hE : ExtOK P ext) (hcall : CallOK P call) {ops : List Oper} {o : Oper} {i : Nat} (ho : ops[i]? = some o) {s : St} {outs : List St} (hr : HR B β s.2.1 s.2.2 w) (he : EnvR β N s.1.get a) (hB : B ≤ w.heap.size) (hfl : fl ≤ s.2.2)
    (hx : stepX P ext call fl N ops o s = some outs) {K : Act → World → Prop} {Q : Exit → Act → World → Prop}
    (hK : ∀ s' β' a' w', s' ∈ outs → Go_ B fl β s.2.1 s.2.2 w β' s'.2.1 s'.2.2 w' → EnvR β' N s'.1.get a' → K a' w') : wpOp P ops.toArray Q i K a w := by
  obtain ⟨E, h, nx⟩ := s
  unfold wpOp
  rw [show ops.toArray[i]? = some o by simpa using ho]
  show if Region.wanted o (yielded ops.toArray a.tmps) = true then _ else _
  unfold stepX at hx
  simp only at hx hr he hK hfl
  split at hx
  · cases hx
  · rename_i hw
    rw [want_ok (fun j want oj d _ _ _ x e => he.tm d x e) hw, if_neg (by simp)]
    obtain ⟨E', k1, k2⟩ := putO_mem hx _ _ _ (List.mem_cons_self ..)
    exact hK _ β _ w k2 (Go_.refl hr) (setD_ok he (undef_ok β) k1)
  · rename_i hw
    rw [want_ok (fun j want oj d _ _ _ x e => he.tm d x e) hw, if_pos rfl]
    refine .inl ?_
    split at hx
    · split at hx
      · rename_i outs' hh
        refine heavy_ok hE hcall hr he hB hfl hh ?_
        intro x h' nx' β' v w' hm hg hv
        obtain ⟨E', k1, k2⟩ := putO_mem hx _ _ _ hm
        exact hK _ β' _ w' k2 hg (setD_ok (he.mono hg.ext) hv k1)
      · cases hx
    · split at hx
      · rename_i x hl
        obtain ⟨E', k1, k2⟩ := putO_mem hx _ _ _ (List.mem_cons_self ..)
        exact lite_wp hr he hl (fun _ v hv => hK _ β _ w k2 (Go_.refl hr) (setD_ok he hv k1)) (fun ob' q => by cases q)
      · rename_i x ob hl
        obtain ⟨E', k1, k2⟩ := putO_mem hx _ _ _ (List.mem_cons_self ..)
        refine lite_wp hr he hl (fun q => by cases q) (fun ob' q v w' hnew => ?_)
        cases q
        obtain ⟨bi, b1, b2, b3, b4, b5⟩ := hnew.out
        obtain ⟨β', hid, hgo⟩ := hr.alloc (B := B) (fl := fl) (id := nx) (nx' := nx + 1) (o := ob) (bi := bi) (hr_none hr (Nat.le_refl _)) hfl hB (by omega) (by omega) (.inr trivial) b1 b2 b3 (b4.mono hB) (Nat.le_refl _) (fun β' hext hid => (b5 β' hext hid).1)
        exact hK _ β' _ w' k2 hgo (setD_ok (he.mono hgo.ext) (b5 β' hgo.ext hid).2 k1)
      · cases hx
theorem seq_ok (hE : ExtOK P ext) (hcall : CallOK P call) {ops : List Oper} {Q : Exit → Act → World → Prop} : ∀ (m i : Nat) {rest : List Oper}, i + m = ops.length → rest = ops.drop i → ∀ {s : St} {outs : List St} {β : Ren} {a : Act} {w : World}, HR B β s.2.1 s.2.2 w → EnvR β N s.1.get a → B ≤ w.heap.size → fl ≤ s.2.2 →
    seqX P ext call fl N ops rest s = some outs → (∀ s' β' a' w', s' ∈ outs → Go_ B fl β s.2.1 s.2.2 w β' s'.2.1 s'.2.2 w' → EnvR β' N s'.1.get a' → Q .normal a' w') → wpOps P ops.toArray Q (List.range' i m) a w
  | 0, i, rest, him, hrest, s, outs, β, a, w, hr, he, hB, hfl, hx, hQ => by
    have : rest = [] := by rw [hrest]; exact List.drop_eq_nil_of_le (by omega)
    subst this
    cases hx
    exact hQ s β a w (List.mem_cons_self ..) (Go_.refl hr) he
  | m + 1, i, rest, him, hrest, s, outs, β, a, w, hr, he, hB, hfl, hx, hQ => by
    have hi : i < ops.length := by omega
    rw [List.drop_eq_getElem_cons hi] at hrest
    subst hrest
    unfold seqX at hx
    split at hx
    · rename_i l hl
      rw [List.range'_succ, wpOps_cons]
      refine step_ok hE hcall (List.getElem?_eq_getElem hi) hr he hB hfl hl ?_
      intro s' β' a' w' hm hg he'
      obtain ⟨l', k1, k2⟩ := bindS_mem hx s' hm
      exact seq_ok hE hcall m (i + 1) (by omega) rfl hg.hr he' (Nat.le_trans hB hg.size) (Nat.le_trans hfl hg.le) k1 (fun s2 β2 a2 w2 hm2 hg2 he2 => hQ s2 β2 a2 w2 (k2 _ hm2) (hg.trans hg2) he2)
    · cases hx
end
end
end Go.Proofs.YtohcohbbmjhnfaaGreatDoor.X
