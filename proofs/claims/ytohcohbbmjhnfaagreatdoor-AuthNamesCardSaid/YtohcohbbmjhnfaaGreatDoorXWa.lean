/-
Closed runs: what may be dropped; several states in one. Condition: none.
-/
import Derived.Test.YtohcohbbmjhnfaaGreatDoorXV
set_option linter.unusedVariables false
set_option linter.unusedSectionVars false
set_option linter.unusedSimpArgs false
set_option linter.unnecessarySimpa false
namespace Go.Proofs.YtohcohbbmjhnfaaGreatDoor.X
open Go Go.RowKit
noncomputable section
variable [Tabs]
/-! ### the temporaries that last -/
def rd1 (x : Operand) : Nat := Operand.rec (motive := fun _ => Nat) (fun t => Nat.shiftLeft 1 t) (fun _ => 0) (fun _ => 0) (fun _ => 0) x
def rdO (x : Option Operand) : Nat := Option.rec (motive := fun _ => Nat) 0 rd1 x
def rdL (l : List Operand) : Nat := List.rec (motive := fun _ => Nat) 0 (fun x _ ih => Nat.lor (rd1 x) ih) l
def rdP (l : List (Nat × Operand)) : Nat := List.rec (motive := fun _ => Nat) 0 (fun x _ ih => Nat.lor (rd1 x.2) ih) l
def rdC (c : Call) : Nat := Nat.lor (Callee.rec (motive := fun _ => Nat) (fun f => rd1 f) (fun r _ => rd1 r) (fun _ => 0) c.callee) (rdL c.args.toList)
def opReads (o : Op) : Nat := Op.rec (motive := fun _ => Nat)
    (fun x => rd1 x)
    (fun x => rd1 x)
    (fun c a b => Nat.lor (rd1 c) (Nat.lor (rd1 a) (rd1 b)))
    (fun elem => 0)
    (fun elem v => rd1 v)
    (fun t parts => rdP parts.toList)
    (fun t len parts => rdP parts.toList)
    (fun mt m k v => Nat.lor (rd1 m) (Nat.lor (rd1 k) (rd1 v)))
    (fun t addr => rd1 addr)
    (fun t addr val => Nat.lor (rd1 addr) (rd1 val))
    (fun g => 0)
    (fun g => 0)
    (fun x => rd1 x)
    (fun op xt x y yt => Nat.lor (rd1 x) (rd1 y))
    (fun op xt x => rd1 x)
    (fun s d x => rd1 x)
    (fun d x => rd1 x)
    (fun xt x => rd1 x)
    (fun fn first captured => Nat.lor (rdL first.toList) (rdL captured.toList))
    (fun t reserve => rdO reserve)
    (fun t size => rd1 size)
    (fun t len cap => Nat.lor (rd1 len) (rd1 cap))
    (fun xt x lo hi mx => Nat.lor (rd1 x) (Nat.lor (rdO lo) (Nat.lor (rdO hi) (rdO mx))))
    (fun xt x f => rd1 x)
    (fun xt x f => rd1 x)
    (fun xt x i => Nat.lor (rd1 x) (rd1 i))
    (fun xt x i => Nat.lor (rd1 x) (rd1 i))
    (fun xt x i ok => Nat.lor (rd1 x) (rd1 i))
    (fun mt m k v => Nat.lor (rd1 m) (Nat.lor (rd1 k) (rd1 v)))
    (fun mt m k => Nat.lor (rd1 m) (rd1 k))
    (fun mt m s v => Nat.lor (rd1 m) (Nat.lor (rd1 s) (rd1 v)))
    (fun xt x => rd1 x)
    (fun it b => rd1 it)
    (fun it => rd1 it)
    (fun x xt as ok => rd1 x)
    (fun t i => rd1 t)
    (fun c => rdC c)
    (fun c => 0)
    (fun c => 0)
    (fun x => rd1 x)
    (fun c x => Nat.lor (rd1 c) (rd1 x))
    (fun ct c ok => rd1 c)
    (fun cases b => 0)
    o
/-! ### outcomes that are alike -/
theorem Go_.drops {B fl : Nat} {β β' : Ren} {h h' h2 : Heap} {nx nx' : Nat} {w w' : World} (g : Go_ B fl β h nx w β' h' nx' w') (hd : Drops nx h' h2) (hfl : fl ≤ nx) : Go_ B fl β h nx w β' h2 nx' w' :=
  ⟨g.ext, g.none, g.le, g.hr.drops hd, g.below, g.size, fun b hb => (hd.1 b (Nat.lt_of_lt_of_le hb hfl)).trans (g.floor b hb)⟩
/-- A block's content. -/
def inB (h : Heap) (b : Nat) : List XV :=
  match h.get b with
  | some (.cells t k _ _ _) => match t.gets 0 k with
    | some xs => xs
    | none => []
  | some (.map es _) => es.map (·.key) ++ es.map (·.val)
  | some (.umap es _) => es.map (·.key) ++ es.map (·.val)
  | some (.lmap es _) => es.map (·.key) ++ es.map (·.val)
  | some (.miter (some m) _ _ _ _) => [.map m]
  | some (.uiter m _ _ _ _) => [.map m]
  | _ => []
/-- What a value leads to: a block, more values. -/
def ledX : XV → Option Nat × List XV
  | .ptr b _ => (some b, [])
  | .sl b _ _ _ _ _ => (some b, [])
  | .map b => (some b, [])
  | .fn _ xs ys => (none, xs ++ ys)
  | .iface _ v => (none, [v])
  | .agg xs => (none, xs)
  | .tup xs => (none, xs)
  | _ => (none, [])
/-- What is reached: so many steps. -/
def reachX (h : Heap) (n : Nat) : List XV → List Nat → List Nat :=
  Nat.rec (motive := fun _ => List XV → List Nat → List Nat) (fun _ seen => seen) (fun _ ih l seen => match l with
    | [] => seen
    | x :: r => match ledX x with
      | (none, xs) => ih (xs ++ r) seen
      | (some b, _) => match memN b seen with
        | true => ih r seen
        | false => ih (inB h b ++ r) (b :: seen)) n
def dropB (nx0 : Nat) (seen : List Nat) : Nat → Heap → Heap
  | 0, h => h
  | k + 1, h => match memN (Nat.add nx0 k) seen with
    | true => dropB nx0 seen k h
    | false => dropB nx0 seen k (h.set (Nat.add nx0 k) .dead)
theorem dropB_ok {nx0 : Nat} {seen : List Nat} : ∀ (k : Nat) {h h2 : Heap}, Drops nx0 h h2 → Drops nx0 h (dropB nx0 seen k h2)
  | 0, h, h2, hd => hd
  | k + 1, h, h2, hd => by
    unfold dropB
    split
    · exact dropB_ok k hd
    · exact dropB_ok k (hd.set (Nat.le_add_right _ _))
/-! ### several states at a loop's head -/
/-- What is written; what is read before it is written. -/
def wrbO (l : List Oper) (p : Nat × Nat) : Nat × Nat :=
  l.foldl (fun p o => ((match o.dst with | some d => Nat.lor p.1 (Nat.shiftLeft 1 d) | none => p.1), Nat.lor p.2 (Nat.sub (opReads o.op) (Nat.land (opReads o.op) p.1)))) p
def wrbC : Code → Nat × Nat → Nat × Nat
  | .region _ ops _, p => wrbO ops.toList p
  | .seq x y, p => wrbC y (wrbC x p)
  | .cond c x y, p => match wrbC x (p.1, Nat.lor p.2 (Nat.sub (rd1 c) (Nat.land (rd1 c) p.1))), wrbC y (p.1, Nat.lor p.2 (Nat.sub (rd1 c) (Nat.land (rd1 c) p.1))) with
    | a, b => (Nat.lor a.1 b.1, Nat.lor a.2 b.2)
  | .block _ b, p => wrbC b p
  | .loop b, p => wrbC b p
  | .scope b, p => wrbC b p
  | _, p => p
/-- Is a temporary kept at a loop's head? -/
def keepM (m : Nat × Nat) (t : Nat) : Bool := match bitN m.1 t with
  | true => bitN m.2 t
  | false => true
def unT (m : Nat × Nat) : Nat → Tr XV → Tr XV
  | 0, t => t
  | n + 1, t => match keepM m n with
    | true => unT m n t
    | false => unT m n (t.set n .un)
theorem unT_get {m : Nat × Nat} {k : Nat} {x : XV} : ∀ {n : Nat} {t : Tr XV}, (unT m n t).get k = some x → x = .un ∨ t.get k = some x
  | 0, t, h => .inr h
  | n + 1, t, h => by
    unfold unT at h
    split at h
    · exact unT_get h
    · rcases unT_get h with q | q
      · exact .inl q
      · rcases Tr.get_set q with ⟨_, e⟩ | ⟨_, e⟩
        · exact .inl e
        · exact .inr e
def forget (m : Nat × Nat) (N : Nat) (E : Loc) : Loc := match E.l with
  | [] => ⟨[], unT m N E.t, E.m, E.w⟩
  | _ => E
theorem forget_get {m : Nat × Nat} {N : Nat} {E : Loc} {t : Nat} {x : XV} (h : (forget m N E).get t = some x) : x = .un ∨ E.get t = some x := by
  obtain ⟨l, tr, mk, ww⟩ := E
  unfold forget at h
  split at h
  · rename_i e
    have e : l = [] := e
    subst e
    have h0 : Bool.rec (motive := fun _ => Option XV) (lastT (unT m N tr) mk t) (lookL [] t (lastT (unT m N tr) mk t)) (bitN ww t) = some x := h
    have h' : Bool.rec (motive := fun _ => Option XV) none ((unT m N tr).get t) (bitN mk t) = some x := by
      cases z : bitN ww t with
      | true => rw [z] at h0; exact h0
      | false => rw [z] at h0; exact h0
    have back : Loc.get ⟨[], tr, mk, ww⟩ t = Bool.rec (motive := fun _ => Option XV) none (tr.get t) (bitN mk t) := by
      show Bool.rec (motive := fun _ => Option XV) (lastT tr mk t) (lookL [] t (lastT tr mk t)) (bitN ww t) = _
      cases bitN ww t <;> rfl
    rw [back]
    cases q : bitN mk t with
    | true => rw [q] at h'; exact unT_get h'
    | false => rw [q] at h'; cases h'
  · exact .inr h
def Tr.vals {α : Type} : Tr α → List α → List α
  | .nil, r => r
  | .node x l r, s => x :: l.vals (r.vals s)
def locVals (E : Loc) : List XV := E.l.map (·.2) ++ E.t.vals []
/-- Iterators over maps: what was met in rising order, the last one forgotten. -/
def evenO : AO → AO
  | .miter m s hd seen last => .miter m s none (sortN seen) last
  | .uiter m s hd seen last => .uiter m s none (sortN seen) last
  | o => o
theorem evenO_less (o : AO) : LessO o (evenO o) := by
  cases o with
  | miter m s hd seen last =>
    refine ⟨fun {β w bi} hb => ?_, id, id⟩
    obtain ⟨h0, mr, arr, h1, h2, h3, h4⟩ := hb
    exact ⟨h0, mr, arr, h1, fun x => (h2 x).trans sortN_mem.symm, (fun _ e => by cases e), h4⟩
  | uiter m s hd seen last =>
    refine ⟨fun {β w bi} hb => ?_, id, id⟩
    obtain ⟨h0, arr, bm, h1, h2, h3, h4, h5⟩ := hb
    exact ⟨h0, arr, bm, h1, h2, (fun e he => h3 e (sortN_mem.1 he)), (fun x => (h4 x).trans ⟨fun ⟨e, a, b⟩ => ⟨e, sortN_mem.2 a, b⟩, fun ⟨e, a, b⟩ => ⟨e, sortN_mem.1 a, b⟩⟩), (fun _ e => by cases e)⟩
  | _ => exact LessO.refl _
def evenH (fl : Nat) : List XV → Heap → Heap
  | [], h => h
  | .ptr b 0 :: r, h => match Nat.ble fl b, h.get b with
    | true, some (.miter m s hd seen last) => evenH fl r (h.set b (evenO (.miter m s hd seen last)))
    | true, some (.uiter m s hd seen last) => evenH fl r (h.set b (evenO (.uiter m s hd seen last)))
    | _, _ => evenH fl r h
  | _ :: r, h => evenH fl r h
theorem evenH_ok {fl : Nat} : ∀ {l : List XV} {h : Heap}, Drops fl h (evenH fl l h)
  | [], h => Drops.refl _ _
  | x :: r, h => by
    unfold evenH
    split
    · rename_i e; cases e
    · rename_i b r' h' e
      cases e
      split
      · rename_i m s hd seen last q1 q2
        exact (Drops.one (Nat.le_of_ble_eq_true q1) q2 (evenO_less _)).trans evenH_ok
      · rename_i m s hd seen last q1 q2
        exact (Drops.one (Nat.le_of_ble_eq_true q1) q2 (evenO_less _)).trans evenH_ok
      · exact evenH_ok
    · rename_i e
      cases e
      exact evenH_ok
/-- A state at a loop's head: what no round reads is forgotten, blocks that nothing leads to are dropped. -/
def cleanS (fl nx0 N : Nat) (m : Nat × Nat) (s : St) : St := match forget m N s.1 with
  | E => match locVals E with
    | vs => match evenH fl vs s.2.1 with
      | h => match Nat.ble fl nx0 with
        | true => (E, dropB nx0 (reachX h 100000 vs []) (Nat.sub s.2.2 nx0) h, s.2.2)
        | false => (E, h, s.2.2)
def mergeC1 (fl nx0 N : Nat) (m : Nat × Nat) : List St → List St
  | [] => []
  | s :: r => match cleanS fl nx0 N m s, mergeC1 fl nx0 N m r with
    | s', r' => match memS s' r' with
      | true => r'
      | false => s' :: r'
def mergeC (fl nx0 N : Nat) (m : Nat × Nat) : List St → List St
  | [] => []
  | [s] => [s]
  | s :: t :: r => mergeC1 fl nx0 N m (s :: t :: r)
/-- What a state is turned into: less is known. -/
structure Less (nx0 : Nat) (s s' : St) : Prop where
  nx : s'.2.2 = s.2.2
  hp : Drops nx0 s.2.1 s'.2.1
  lo : ∀ t x, s'.1.get t = some x → x = .un ∨ s.1.get t = some x
theorem Less.refl (nx0 : Nat) (s : St) : Less nx0 s s := ⟨rfl, Drops.refl _ _, fun _ _ h => .inr h⟩
theorem cleanS_less (fl nx0 N : Nat) (m : Nat × Nat) (s : St) : Less fl s (cleanS fl nx0 N m s) := by
  unfold cleanS
  simp only
  split
  · rename_i q
    exact ⟨rfl, evenH_ok.trans ((dropB_ok _ (Drops.refl _ _)).down (Nat.le_of_ble_eq_true q)), fun _ _ h => forget_get h⟩
  · exact ⟨rfl, evenH_ok, fun _ _ h => forget_get h⟩
theorem mergeC1_mem {fl nx0 N : Nat} {m : Nat × Nat} {s : St} : ∀ {l : List St}, s ∈ l → cleanS fl nx0 N m s ∈ mergeC1 fl nx0 N m l
  | [], h => by simp at h
  | q :: r, h => by
    unfold mergeC1
    simp only
    split
    · rename_i e
      rcases List.mem_cons.1 h with rfl | h
      · exact memS_ok e
      · exact mergeC1_mem h
    · rcases List.mem_cons.1 h with rfl | h
      · exact List.mem_cons_self ..
      · exact List.mem_cons_of_mem _ (mergeC1_mem h)
theorem mergeC_mem {fl nx0 N : Nat} {m : Nat × Nat} {s : St} : ∀ {l : List St}, s ∈ l → ∃ s', Less fl s s' ∧ s' ∈ mergeC fl nx0 N m l
  | [], h => by simp at h
  | [q], h => ⟨s, Less.refl _ _, h⟩
  | q :: t :: r, h => ⟨_, cleanS_less fl nx0 N m s, mergeC1_mem h⟩
theorem Less.env {nx0 : Nat} {s s' : St} (h : Less nx0 s s') {β : Ren} {N : Nat} {a : Act} (he : EnvR β N s.1.get a) : EnvR β N s'.1.get a :=
  ⟨he.df, he.size, fun t x e => by
    rcases h.lo t x e with rfl | q
    · trivial
    · exact he.tm t x q⟩
theorem Go_.less {B fl : Nat} {β β' : Ren} {h h' h2 : Heap} {nx nx' nx0 : Nat} {w w' : World} (g : Go_ B fl β h nx w β' h' nx' w') (hd : Drops nx0 h' h2) (hfl : fl ≤ nx0) : Go_ B fl β h nx w β' h2 nx' w' :=
  ⟨g.ext, g.none, g.le, g.hr.drops hd, g.below, g.size, fun b hb => (hd.1 b (Nat.lt_of_lt_of_le hb hfl)).trans (g.floor b hb)⟩
end
end Go.Proofs.YtohcohbbmjhnfaaGreatDoor.X
