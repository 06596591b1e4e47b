/-
Closed runs: the operations that change nothing, but for new memory. Condition: none.
-/
import Derived.Test.YtohcohbbmjhnfaaGreatDoorXM
set_option linter.unusedVariables false
set_option linter.unusedSectionVars false
set_option linter.unusedSimpArgs false
namespace Go.Proofs.YtohcohbbmjhnfaaGreatDoor.X
open Go Go.RowKit
noncomputable section
variable [Tabs]
section
variable {P : Program} {B fl : Nat} {β : Ren} {h : Heap} {nx N : Nat} {w : World} {E : Env} {a : Act}
def xnil : XV → Option XV
  | .ptr b o => some (.ptr b o)
  | .iface t v => some (.iface t v)
  | .fn (.func f) first caps => some (.fn (.func f) first caps)
  | .map b => some (.map b)
  | _ => none
def pr : Option XV → Option (XV × Option AO)
  | some x => some (x, none)
  | none => none
def al : Option (XV × AO) → Option (XV × Option AO)
  | some (x, o) => some (x, some o)
  | none => none
def partsX (E : Env) : List (Nat × Operand) → Option (List (Nat × XV))
  | [] => some []
  | (i, x) :: r => match opnd E x, partsX E r with
    | some y, some l => some ((i, y) :: l)
    | _, _ => none
theorem partsX_ok (he : EnvR β N E a) : ∀ {ps : List (Nat × Operand)} {l : List (Nat × XV)}, partsX E ps = some l → PtR β l (ps.map fun p => (p.1, a.eval p.2))
  | [], l, h => by cases h; rfl
  | (i, x) :: r, l, h => by
    unfold partsX at h
    split at h
    · rename_i y l' h1 h2
      cases h
      exact ⟨_, _, rfl, opnd_ok he h1, partsX_ok he h2⟩
    · cases h
/-- An operand that may be missing. -/
def opo (E : Env) : Option Operand → Option (Option XV)
  | none => some none
  | some x => match opnd E x with
    | some y => some (some y)
    | none => none
theorem opo_ok (he : EnvR β N E a) {x : Option Operand} {y : Option XV} (h : opo E x = some y) : OptR β y (x.map a.eval) := by
  cases x with
  | none => cases h; trivial
  | some x =>
    cases hz : opnd E x with
    | none => simp [opo, hz] at h
    | some z =>
      simp [opo, hz] at h
      subst h
      exact opnd_ok he hz
def liteX (P : Program) (E : Env) (h : Heap) (id : Nat) (o : Oper) : Option (XV × Option AO) :=
  match o.op with
  | .move x => pr (opnd E x)
  | .assign x => pr (opnd E x)
  | .pick c x y => match opnd E c with
    | some (.bool true) => pr (opnd E x)
    | some (.bool false) => pr (opnd E y)
    | _ => none
  | .alloc e => al (xalloc P id e)
  | .box e x => match opnd E x with
    | some v => al (xbox id e v)
    | none => none
  | .build t ps => match partsX E ps.toList with
    | some l => pr (xbuild P t l)
    | none => none
  | .buildSlice t n ps => match partsX E ps.toList with
    | some l => al (xbuildSlice P id t n l)
    | none => none
  | .load t x => match opnd E x with
    | some v => pr (xload P h t v)
    | none => none
  | .nilCheck x => match opnd E x with
    | some v => pr (xnil v)
    | none => none
  | .binOp op t x y _ => match opnd E x, opnd E y with
    | some v, some u => pr (xbin P op t x y v u)
    | _, _ => none
  | .unOp op _ x => match opnd E x with
    | some v => pr (xun op v)
    | none => none
  | .convert s t x => match opnd E x with
    | some v => pr (xconv P h s t v)
    | none => none
  | .makeInterface t x => match opnd E x with
    | some v => pr (xmakeIface P t v)
    | none => none
  | .makeFunc fn first caps => match opnds E first.toList, opnds E caps.toList with
    | some xs, some ys => some (.fn fn xs ys, none)
    | _, _ => none
  | .makeMap t r => match opo E r with
    | some r => al (xmakeMap P id t r)
    | none => none
  | .makeSlice t l c => match opnd E l, opnd E c with
    | some l, some c => al (xmakeSlice P id t l c)
    | _, _ => none
  | .slice t x lo hi mx => match opnd E x, opo E lo, opo E hi, opo E mx with
    | some v, some lo, some hi, some mx => pr (xslice P h t v lo hi mx)
    | _, _, _, _ => none
  | .fieldAddr s x f => match opnd E x with
    | some v => pr (xfieldAddr P s v f)
    | none => none
  | .field t x f => match opnd E x with
    | some v => pr (xfield P t v f)
    | none => none
  | .indexAddr t x i => match opnd E x, opnd E i with
    | some v, some i => pr (xindexAddr P t v i)
    | _, _ => none
  | .index t x i => match opnd E x, opnd E i with
    | some v, some i => pr (xindex P t v i)
    | _, _ => none
  | .lookup t x i ok => match opnd E x, opnd E i with
    | some v, some i => pr (xlookup P h t v i ok)
    | _, _ => none
  | .entry x => match opnd E x with
    | some v => pr (xentry h v)
    | none => none
  | .typeAssert x _ t ok => match opnd E x with
    | some v => pr (xassert P v t ok)
    | none => none
  | .extract x i => match opnd E x with
    | some v => pr (xextract v i)
    | none => none
  | .call c => match c.callee, opnds E c.args.toList, c.argTypes[0]? with
    | .builtin .len, some [v], some t => pr (xlen P h t v)
    | .builtin .cap, some [v], some t => pr (xcap P t v)
    | .builtin .max, some (v :: vs), _ => pr (xmm true v vs)
    | .builtin .min, some (v :: vs), _ => pr (xmm false v vs)
    | .builtin .unsafeSliceData, some [v], _ => pr (xsliceData v)
    | _, _, _ => none
  | _ => none
theorem pr_some {x : Option XV} {y : XV} {al : Option AO} (h : pr x = some (y, al)) : x = some y ∧ al = none := by
  cases x with
  | none => cases h
  | some x => cases h; exact ⟨rfl, rfl⟩
theorem al_some {x : Option (XV × AO)} {y : XV} {ob : Option AO} (h : al x = some (y, ob)) : ∃ o, x = some (y, o) ∧ ob = some o := by
  cases x with
  | none => cases h
  | some x => obtain ⟨x, o⟩ := x; cases h; exact ⟨o, rfl, rfl⟩
/-- What such an operation comes to. -/
def LiteR (P : Program) (w : World) (β : Ren) (id : Nat) (s : Sem Next) (x : XV) : Option AO → Prop
  | none => ∃ v, s.run P w = .ok (.value v) w ∧ VR β x v
  | some ob => ∃ v w', s.run P w = .ok (.value v) w' ∧ NewB 0 β id w w' x v ob
theorem lite_v {s : Sem Value} {x : XV} {id : Nat} (h : RunV P w β s x) : LiteR P w β id (do pure (.value (← s))) x none := by
  obtain ⟨v, h1, h2⟩ := h
  exact ⟨v, by simp [h1], h2⟩
theorem lite_a {s : Sem Value} {x : XV} {id : Nat} {ob : AO} (h : RunA P w β id s x ob) : LiteR P w β id (do pure (.value (← s))) x (some ob) := by
  obtain ⟨v, w', h1, h2⟩ := h
  exact ⟨v, w', by simp [h1], h2⟩
def okNil : Value → Prop
  | .pointer none | .nilIface | .nilFunc => False
  | .func (.method _) _ _ => False
  | _ => True
theorem xnil_ok {x y : XV} {v : Value} (hv : VR β x v) (h : xnil x = some y) : VR β y v ∧ okNil v := by
  unfold xnil at h
  split at h
  · cases h; exact ⟨hv, by obtain ⟨bi, _, rfl⟩ := hv; trivial⟩
  · cases h; exact ⟨hv, by obtain ⟨u, rfl, _⟩ := hv; trivial⟩
  · cases h; exact ⟨hv, by obtain ⟨fs, cs, rfl, _⟩ := hv; trivial⟩
  · cases h; exact ⟨hv, by obtain ⟨bi, _, rfl⟩ := hv; trivial⟩
  · cases h
theorem vrs1 {x : XV} {vs : List Value} (h : VRs β [x] vs) : ∃ v, vs = [v] ∧ VR β x v := by
  obtain ⟨v, us, rfl, h1, h2⟩ := h
  rw [show us = [] from h2]
  exact ⟨v, rfl, h1⟩
theorem lite_ok (hr : HR B β h nx w) (he : EnvR β N E a) {o : Oper} {id : Nat} {x : XV} {ob : Option AO} (hx : liteX P E h id o = some (x, ob)) : LiteR P w β id (execOp a.eval o) x ob := by
  unfold liteX at hx
  split at hx
  · rename_i y ho
    obtain ⟨h1, rfl⟩ := pr_some hx
    exact ⟨_, by simp [execOp, ho], opnd_ok he h1⟩
  · rename_i y ho
    obtain ⟨h1, rfl⟩ := pr_some hx
    exact ⟨_, by simp [execOp, ho], opnd_ok he h1⟩
  · rename_i c y z ho
    split at hx
    · rename_i hc
      obtain ⟨h1, rfl⟩ := pr_some hx
      have hcv := opnd_ok he hc
      rw [VR] at hcv
      exact ⟨_, by simp [execOp, ho, hcv, asBool], opnd_ok he h1⟩
    · rename_i hc
      obtain ⟨h1, rfl⟩ := pr_some hx
      have hcv := opnd_ok he hc
      rw [VR] at hcv
      exact ⟨_, by simp [execOp, ho, hcv, asBool], opnd_ok he h1⟩
    · cases hx
  · rename_i e ho
    obtain ⟨ob', h1, rfl⟩ := al_some hx
    have := lite_a (xalloc_ok (P := P) (w := w) (β := β) h1)
    simpa only [execOp, ho] using this
  · rename_i e y ho
    split at hx
    · rename_i v hv
      obtain ⟨ob', h1, rfl⟩ := al_some hx
      have := lite_a (xbox_ok (P := P) (w := w) (opnd_ok he hv) h1)
      simpa only [execOp, ho] using this
    · cases hx
  · rename_i t ps ho
    split at hx
    · rename_i l hl
      obtain ⟨h1, rfl⟩ := pr_some hx
      have := lite_v (id := id) (xbuild_ok (P := P) (w := w) (parts := ps.map fun (i, x) => (i, a.eval x)) (by simpa using partsX_ok he hl) h1)
      simpa only [execOp, ho] using this
    · cases hx
  · rename_i t n ps ho
    split at hx
    · rename_i l hl
      obtain ⟨ob', h1, rfl⟩ := al_some hx
      have := lite_a (xbuildSlice_ok (P := P) (w := w) (parts := ps.map fun (i, x) => (i, a.eval x)) (by simpa using partsX_ok he hl) h1)
      simpa only [execOp, ho] using this
    · cases hx
  · rename_i t y ho
    split at hx
    · rename_i v hv
      obtain ⟨h1, rfl⟩ := pr_some hx
      have := lite_v (id := id) (xload_ok (P := P) hr (opnd_ok he hv) h1)
      simpa only [execOp, ho] using this
    · cases hx
  · rename_i y ho
    split at hx
    · rename_i v hv
      obtain ⟨h1, rfl⟩ := pr_some hx
      obtain ⟨k1, k2⟩ := xnil_ok (opnd_ok he hv) h1
      refine ⟨a.eval y, ?_, k1⟩
      simp only [execOp, ho]
      generalize a.eval y = q at k2
      cases q with
      | pointer p => cases p with
        | none => exact k2.elim
        | some p => rfl
      | func f fs cs => cases f with
        | method n => exact k2.elim
        | _ => rfl
      | nilIface => exact k2.elim
      | nilFunc => exact k2.elim
      | _ => rfl
    · cases hx
  · rename_i op t y z yt ho
    split at hx
    · rename_i v u hv hu
      obtain ⟨h1, rfl⟩ := pr_some hx
      have := lite_v (id := id) (xbin_ok (P := P) (w := w) (opnd_ok he hv) (opnd_ok he hu) h1)
      simpa only [execOp, ho] using this
    · cases hx
  · rename_i op t y ho
    split at hx
    · rename_i v hv
      obtain ⟨h1, rfl⟩ := pr_some hx
      have := lite_v (id := id) (xun_ok (P := P) (w := w) (opnd_ok he hv) h1)
      simpa only [execOp, ho] using this
    · cases hx
  · rename_i s t y ho
    split at hx
    · rename_i v hv
      obtain ⟨h1, rfl⟩ := pr_some hx
      have := lite_v (id := id) (xconv_ok (P := P) hr (opnd_ok he hv) h1)
      simpa only [execOp, ho] using this
    · cases hx
  · rename_i t y ho
    split at hx
    · rename_i v hv
      obtain ⟨h1, rfl⟩ := pr_some hx
      have := lite_v (id := id) (xmakeIface_ok (P := P) (w := w) (opnd_ok he hv) h1)
      simpa only [execOp, ho] using this
    · cases hx
  · rename_i fn first caps ho
    split at hx
    · rename_i xs ys h1 h2
      cases hx
      refine ⟨.func fn (first.map a.eval) (caps.map a.eval), by simp [execOp, ho, Instr.makeFunc], _, _, rfl, ?_, ?_⟩
      · simpa using opnds_ok he h1
      · simpa using opnds_ok he h2
    · cases hx
  · rename_i t r ho
    split at hx
    · rename_i r' hr'
      obtain ⟨ob', h1, rfl⟩ := al_some hx
      have hq := opo_ok he hr'
      have := lite_a (xmakeMap_ok (P := P) (w := w) (β := β) (u := r.map a.eval) (by
        cases r' <;> cases r <;> first | trivial | exact hq) h1)
      simpa only [execOp, ho] using this
    · cases hx
  · rename_i t l c ho
    split at hx
    · rename_i l' c' hl hc
      obtain ⟨ob', h1, rfl⟩ := al_some hx
      have := lite_a (xmakeSlice_ok (P := P) (w := w) (opnd_ok he hl) (opnd_ok he hc) h1)
      simpa only [execOp, ho] using this
    · cases hx
  · rename_i t y lo hi mx ho
    split at hx
    · rename_i v lo' hi' mx' hv hlo hhi hmx
      obtain ⟨h1, rfl⟩ := pr_some hx
      have := lite_v (id := id) (xslice_ok (P := P) hr (opnd_ok he hv) (opo_ok he hlo) (opo_ok he hhi) (opo_ok he hmx) h1)
      simpa only [execOp, ho] using this
    · cases hx
  · rename_i s y f ho
    split at hx
    · rename_i v hv
      obtain ⟨h1, rfl⟩ := pr_some hx
      have := lite_v (id := id) (xfieldAddr_ok (P := P) (w := w) (opnd_ok he hv) h1)
      simpa only [execOp, ho] using this
    · cases hx
  · rename_i t y f ho
    split at hx
    · rename_i v hv
      obtain ⟨h1, rfl⟩ := pr_some hx
      have := lite_v (id := id) (xfield_ok (P := P) (w := w) (opnd_ok he hv) h1)
      simpa only [execOp, ho] using this
    · cases hx
  · rename_i t y i ho
    split at hx
    · rename_i v i' hv hi
      obtain ⟨h1, rfl⟩ := pr_some hx
      have := lite_v (id := id) (xindexAddr_ok (P := P) (w := w) (opnd_ok he hv) (opnd_ok he hi) h1)
      simpa only [execOp, ho] using this
    · cases hx
  · rename_i t y i ho
    split at hx
    · rename_i v i' hv hi
      obtain ⟨h1, rfl⟩ := pr_some hx
      have := lite_v (id := id) (xindex_ok (P := P) (w := w) (opnd_ok he hv) (opnd_ok he hi) h1)
      simpa only [execOp, ho] using this
    · cases hx
  · rename_i t y i ok ho
    split at hx
    · rename_i v i' hv hi
      obtain ⟨h1, rfl⟩ := pr_some hx
      have := lite_v (id := id) (xlookup_ok (P := P) hr (opnd_ok he hv) (opnd_ok he hi) h1)
      simpa only [execOp, ho] using this
    · cases hx
  · rename_i y ho
    split at hx
    · rename_i v hv
      obtain ⟨h1, rfl⟩ := pr_some hx
      have := lite_v (id := id) (xentry_ok (P := P) hr (opnd_ok he hv) h1)
      simpa only [execOp, ho] using this
    · cases hx
  · rename_i y xt t ok ho
    split at hx
    · rename_i v hv
      obtain ⟨h1, rfl⟩ := pr_some hx
      have := lite_v (id := id) (xassert_ok (P := P) (w := w) (xt := xt) (opnd_ok he hv) h1)
      simpa only [execOp, ho] using this
    · cases hx
  · rename_i y i ho
    split at hx
    · rename_i v hv
      obtain ⟨h1, rfl⟩ := pr_some hx
      have := lite_v (id := id) (xextract_ok (P := P) (w := w) (opnd_ok he hv) h1)
      simpa only [execOp, ho] using this
    · cases hx
  · rename_i c ho
    split at hx
    · rename_i v t hc hv ht
      obtain ⟨h1, rfl⟩ := pr_some hx
      obtain ⟨u, hu, k⟩ := vrs1 (opnds_ok he hv)
      have ha : c.args.map a.eval = #[u] := by apply Array.ext'; simpa using hu
      obtain ⟨r, q1, q2⟩ := xlen_ok (P := P) (ty := o.type) hr k h1 ht
      exact ⟨r, by simp [execOp, ho, resolve, hc, invoke, builtin, ha, q1], q2⟩
    · rename_i v t hc hv ht
      obtain ⟨h1, rfl⟩ := pr_some hx
      obtain ⟨u, hu, k⟩ := vrs1 (opnds_ok he hv)
      have ha : c.args.map a.eval = #[u] := by apply Array.ext'; simpa using hu
      obtain ⟨r, q1, q2⟩ := xcap_ok (P := P) (w := w) (ty := o.type) k h1 ht
      exact ⟨r, by simp [execOp, ho, resolve, hc, invoke, builtin, ha, q1], q2⟩
    · rename_i v vs q0 hc hv
      obtain ⟨h1, rfl⟩ := pr_some hx
      obtain ⟨u, us, hu, k1, k2⟩ := opnds_ok he hv
      have ha : (c.args.map a.eval).toList = u :: us := by simpa using hu
      obtain ⟨r, q1, q2⟩ := xmax_ok (P := P) (w := w) h1 k1 k2
      exact ⟨r, by simp only [execOp, ho, resolve, hc, invoke, builtin, Sem.run_bind, Sem.run_pure, Result.andThen_ok, Builtin.max_, ha, q1], q2⟩
    · rename_i v vs q0 hc hv
      obtain ⟨h1, rfl⟩ := pr_some hx
      obtain ⟨u, us, hu, k1, k2⟩ := opnds_ok he hv
      have ha : (c.args.map a.eval).toList = u :: us := by simpa using hu
      obtain ⟨r, q1, q2⟩ := xmin_ok (P := P) (w := w) h1 k1 k2
      exact ⟨r, by simp only [execOp, ho, resolve, hc, invoke, builtin, Sem.run_bind, Sem.run_pure, Result.andThen_ok, Builtin.min_, ha, q1], q2⟩
    · rename_i v q0 hc hv
      obtain ⟨h1, rfl⟩ := pr_some hx
      obtain ⟨u, hu, k⟩ := vrs1 (opnds_ok he hv)
      have ha : c.args.map a.eval = #[u] := by apply Array.ext'; simpa using hu
      obtain ⟨r, q1, q2⟩ := xsliceData_ok (P := P) (w := w) (ts := c.argTypes) (ty := o.type) k h1
      exact ⟨r, by simp [execOp, ho, resolve, hc, invoke, builtin, ha, q1], q2⟩
    · cases hx
  · cases hx
end
end
end Go.Proofs.YtohcohbbmjhnfaaGreatDoor.X
