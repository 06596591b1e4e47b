/-
The logic of pure values: joined from the parts BVal, BRel, BApp, BOp, BVc, BOk, BOk2, BOk3. Condition: none.
-/
import Derived.Below
import Derived.Laws.AppendOwn
import Derived.Laws.OwnMore
import Derived.Deep.AppendLies
import Derived.Orders
import Derived.Laws.NewBlocks
import Derived.Laws.StructEq
import Derived.ShutString
import Derived.Lib.IndexLaws
set_option linter.unusedVariables false
namespace Go.Proofs.YtpflimghkckpjaaGreatDoor.B
open Go.RowKit

/-- A pure value: a value of one cell as it is; no list; a list, row by row; the cells of a struct or array; several results. -/
inductive PV where
  | lit (v : Value)
  | nil
  | sl (xs : List (List PV))
  | agg (cs : List PV)
  | tup (vs : List PV)

abbrev Own := Option (TypeId × Nat)

inductive RepP (S : Nat → Nat → Prop) (w : World) : Value → PV → Prop
  | lit (v : Value) : v.oneCell' = true → RepP S w v (.lit v)
  | nil : RepP S w (.slice none 0 0) .nil
  | nil' : RepP S w (.slice none 0 0) (.sl [])
  | sl (b off k cap : Nat) (xs : List (List PV)) (c : Nat → Nat → Value) : xs.length ≤ cap → (∀ r, r ∈ xs → r.length = k) →
      (∀ i j : Nat, i < xs.length → j < k → S b (off + i * k + j)) → (∀ i j : Nat, i < xs.length → j < k → w.cell? ⟨b, off + i * k + j, none⟩ = some (c i j) ∧ (c i j).oneCell' = true) →
      (∀ (i j : Nat) (r : List PV) (x : PV), xs[i]? = some r → r[j]? = some x → RepP S w (c i j) x) → RepP S w (.slice (some ⟨b, off, none⟩) xs.length cap) (.sl xs)
  | agg (vs : Array Value) (cs : List PV) : vs.size = cs.length → (∀ v, v ∈ vs → v.oneCell' = true) → (∀ (i : Nat) (v : Value) (x : PV), vs[i]? = some v → cs[i]? = some x → RepP S w v x) → RepP S w (.agg vs) (.agg cs)
  | tup (vs : Array Value) (cs : List PV) : vs.size = cs.length → (∀ (i : Nat) (v : Value) (x : PV), vs[i]? = some v → cs[i]? = some x → RepP S w v x) → RepP S w (.tuple vs) (.tup cs)

theorem RepP.mono {S S' : Nat → Nat → Prop} {w w' : World} {v : Value} {p : PV} (h : RepP S w v p) (hS : ∀ b o, S b o → S' b o) (hc : ∀ b o, S b o → w'.cell? ⟨b, o, none⟩ = w.cell? ⟨b, o, none⟩) :
    RepP S' w' v p := by
  induction h with
  | lit v h => exact .lit v h
  | nil => exact .nil
  | nil' => exact .nil'
  | sl b off k cap xs c h1 h2 h3 h4 h5 ih => exact .sl b off k cap xs c h1 h2 (fun i j hi hj => hS _ _ (h3 i j hi hj)) (fun i j hi hj => ⟨(hc _ _ (h3 i j hi hj)).trans (h4 i j hi hj).1, (h4 i j hi hj).2⟩) ih
  | agg vs cs h1 h2 h3 ih => exact .agg vs cs h1 h2 ih
  | tup vs cs h1 h2 ih => exact .tup vs cs h1 ih

/-- One cell? -/
def PV.one : PV → Bool
  | .lit _ | .nil | .sl _ => true
  | _ => false
theorem RepP.one {S : Nat → Nat → Prop} {w : World} {v : Value} {p : PV} (h : RepP S w v p) (hp : p.one = true) : v.oneCell' = true := by
  cases h <;> first | assumption | rfl | (cases hp)

/-- Lists without an element, whichever. -/
def PV.n1 : PV → PV
  | .nil => .sl []
  | p => p
def PV.n2 : PV → PV
  | .nil => .sl []
  | .agg cs => .agg (cs.map PV.n1)
  | p => p
def PV.norm : PV → PV
  | .nil => .sl []
  | .agg cs => .agg (cs.map PV.n1)
  | .tup cs => .tup (cs.map PV.n2)
  | p => p
theorem RepP.nil1 {S : Nat → Nat → Prop} {w : World} {v : Value} {p : PV} (h : RepP S w v p) : RepP S w v p.n1 := by
  cases p with
  | nil => cases h; exact .nil'
  | _ => exact h
theorem RepP.nilAgg {S : Nat → Nat → Prop} {w : World} {v : Value} {cs : List PV} (h : RepP S w v (.agg cs)) : RepP S w v (.agg (cs.map PV.n1)) := by
  cases h with
  | agg vs _ h1 h2 h3 =>
    refine .agg vs _ (by simpa using h1) h2 (fun i v x hv hx => ?_)
    rw [List.getElem?_map] at hx
    cases hc : cs[i]? with
    | none => rw [hc] at hx; cases hx
    | some q =>
      rw [hc] at hx
      simp only [Option.map_some, Option.some.injEq] at hx
      subst hx
      exact (h3 i v q hv hc).nil1
theorem RepP.norm {S : Nat → Nat → Prop} {w : World} {v : Value} {p : PV} (h : RepP S w v p) : RepP S w v p.norm := by
  cases p with
  | nil => cases h; exact .nil'
  | agg cs => exact h.nilAgg
  | tup cs =>
    cases h with
    | tup vs _ h1 h3 =>
      refine .tup vs _ (by simpa using h1) (fun i v x hv hx => ?_)
      rw [List.getElem?_map] at hx
      cases hc : cs[i]? with
      | none => rw [hc] at hx; cases hx
      | some q =>
        rw [hc] at hx
        simp only [Option.map_some, Option.some.injEq] at hx
        subst hx
        have hq := h3 i v q hv hc
        cases q with
        | nil => cases hq; exact .nil'
        | agg ds => exact hq.nilAgg
        | _ => exact hq
  | _ => exact h

/-- What a call of a function comes to: 'own': the result is a list in memory of its own, to which more may be appended. -/
def OwnR (base : Nat) (S : Nat → Nat → Prop) (w : World) (v : Value) : Own → Prop
  | none => True
  | some (e, k) => ∃ n xs, w.ownsRow base e k v n xs ∧ ∀ b, v.ownBlock = some b → ∀ o, S b o → o < n * k
def RepL (S : Nat → Nat → Prop) (w : World) (vs : Array Value) (ps : List PV) : Prop := vs.size = ps.length ∧ ∀ (i : Nat) (v : Value) (p : PV), vs[i]? = some v → ps[i]? = some p → RepP S w v p
def Callable (P : Program) (f : FuncId) : Prop := ∃ fn, P.funcs[f]? = some fn ∧ (fn.name == "runtime.NumGoroutine") = false ∧ fn.body.isSome = true
def ACalls (G : World → Prop) (P : Program) (f : FuncId) (args : List PV) (res : PV) (own : Own) : Prop :=
  Callable P f ∧ ∀ (w : World) (S : Nat → Nat → Prop) (vs : Array Value), G w → (∀ b o, S b o → b < w.heap.size) → RepL S w vs args →
    Calls P f vs w fun e w' => ∃ v S', e = .returned v ∧ Below w.heap.size w w' ∧ G w' ∧ (∀ b o, S b o → S' b o) ∧ (∀ b o, S' b o → S b o ∨ w.heap.size ≤ b) ∧ (∀ b o, S' b o → b < w'.heap.size) ∧
      RepP S' w' v res ∧ OwnR w.heap.size S' w' v own

/-! ### the state of a frame -/
inductive Key where
  | t (i : Nat)
  | b (i o : Nat)
  | al (i : Nat)
  deriving DecidableEq
/-- What a temporary or a cell of a variable in memory holds: nothing that is known; a pure value; a pointer to a variable's cell; one to a cell of a list's row. -/
inductive FV where
  | un
  | pv (p : PV)
  | ptr (i o : Nat)
  | ept (row : List PV) (j : Nat)
structure C where
  v : FV
  own : Own
  frm : Option Key
def RowAt (S : Nat → Nat → Prop) (w : World) (b base : Nat) (row : List PV) : Prop := ∀ (j : Nat) (x : PV), row[j]? = some x → S b (base + j) ∧ ∃ c, w.cell? ⟨b, base + j, none⟩ = some c ∧ RepP S w c x ∧ c.oneCell' = true
def RepF (β : Nat → Nat) (S : Nat → Nat → Prop) (w : World) (v : Value) : FV → Prop
  | .un => True
  | .pv p => RepP S w v p
  | .ptr i o => v = .pointer (some ⟨β i, o, none⟩)
  | .ept row j => ∃ b base, v = .pointer (some ⟨b, base + j, none⟩) ∧ RowAt S w b base row
def rv (β : Nat → Nat) (a : Act) (w : World) : Key → Option Value
  | .t i => some (a.tmps.getD i undef)
  | .b i o => w.cell? ⟨β i, o, none⟩
  | .al _ => none
theorem RowAt.mono {S S' : Nat → Nat → Prop} {w w' : World} {b base : Nat} {row : List PV} (h : RowAt S w b base row) (hS : ∀ b o, S b o → S' b o) (hc : ∀ b o, S b o → w'.cell? ⟨b, o, none⟩ = w.cell? ⟨b, o, none⟩) : RowAt S' w' b base row :=
  fun j x hx => let ⟨h1, c, h2, h3, h4⟩ := h j x hx; ⟨hS _ _ h1, c, (hc _ _ h1).trans h2, h3.mono hS hc, h4⟩
theorem RepF.mono {β : Nat → Nat} {S S' : Nat → Nat → Prop} {w w' : World} {v : Value} {x : FV} (h : RepF β S w v x) (hS : ∀ b o, S b o → S' b o) (hc : ∀ b o, S b o → w'.cell? ⟨b, o, none⟩ = w.cell? ⟨b, o, none⟩) : RepF β S' w' v x := by
  cases x with
  | un => trivial
  | pv p => exact RepP.mono h hS hc
  | ptr i o => exact h
  | ept row j => obtain ⟨b, base, h1, h2⟩ := h; exact ⟨b, base, h1, h2.mono hS hc⟩

structure Rel (w0 : World) (S0 : Nat → Nat → Prop) (N : Nat) (wr : Key → Prop) (g : Key → C) (a : Act) (w : World) (β : Nat → Nat) (S : Nat → Nat → Prop) : Prop where
  below : Below w0.heap.size w0 w
  df : a.defers = []
  tsz : a.tmps.size = N
  s0 : ∀ b o, S0 b o → S b o
  sn : ∀ b o, S b o → S0 b o ∨ w0.heap.size ≤ b
  sa : ∀ b o, S b o → b < w.heap.size
  tm : ∀ t, RepF β S w (a.tmps.getD t undef) (g (.t t)).v
  bx : ∀ i o, (g (.b i o)).v ≠ .un → ∃ c, w.cell? ⟨β i, o, none⟩ = some c ∧ RepF β S w c (g (.b i o)).v ∧ w.frozen? ⟨β i, o, none⟩ = false ∧ (g (.al i)).v ≠ .un
  al : ∀ i, (g (.al i)).v ≠ .un → w0.heap.size ≤ β i ∧ β i < w.heap.size ∧ ∀ o, ¬ S (β i) o
  inj : ∀ i j, (g (.al i)).v ≠ .un → (g (.al j)).v ≠ .un → β i = β j → i = j
  own : ∀ κ e k, (g κ).own = some (e, k) → ∃ v n xs, rv β a w κ = some v ∧ w.ownsRow w0.heap.size e k v n xs ∧ ∀ b, v.ownBlock = some b → (∀ o, S b o → o < n * k) ∧ ∀ i, (g (.al i)).v ≠ .un → β i ≠ b
  ownd : ∀ κ κ' v v' b, (g κ).own ≠ none → (g κ').own ≠ none → rv β a w κ = some v → rv β a w κ' = some v' → v.ownBlock = some b → v'.ownBlock = some b → κ = κ'
  frm : ∀ t κ', (g (.t t)).frm = some κ' → ¬ wr κ' → rv β a w (.t t) = rv β a w κ' ∧ ∀ i o, κ' = .b i o → (g (.al i)).v ≠ .un
  blv : ∀ i o, (g (.b i o)).own ≠ none → (g (.al i)).v ≠ .un

def upd (g : Key → C) (κ : Key) (c : C) : Key → C := fun κ' => if κ' = κ then c else g κ'
theorem upd_same (g : Key → C) (κ : Key) (c : C) : upd g κ c κ = c := if_pos rfl
theorem upd_ne (g : Key → C) {κ κ' : Key} (c : C) (h : κ' ≠ κ) : upd g κ c κ' = g κ' := if_neg h
end Go.Proofs.YtpflimghkckpjaaGreatDoor.B

set_option linter.unusedVariables false
set_option linter.unusedSimpArgs false
set_option linter.unnecessarySimpa false
namespace Go.Proofs.YtpflimghkckpjaaGreatDoor.B
open Go.RowKit

theorem grown_of {w w' : World} (hb : Below w.heap.size w w') : w.grownBy w' none := ⟨hb.os, hb.tape, hb.output, hb.size, fun k hk _ => hb.block k hk⟩
theorem cell_lt {w : World} {b o : Nat} {c : Value} (h : w.cell? ⟨b, o, none⟩ = some c) : b < w.heap.size := World.block_lt_of_cell? w _ h
section
variable {w0 : World} {S0 : Nat → Nat → Prop} {N : Nat} {wr : Key → Prop} {g : Key → C} {a : Act} {w : World} {β : Nat → Nat} {S : Nat → Nat → Prop}
/-- A key whose cell is there. -/
def There (g : Key → C) : Key → Prop
  | .t _ => True
  | .b i _ => (g (.al i)).v ≠ .un
  | .al _ => False
theorem rv_same {w' : World} (h : Rel w0 S0 N wr g a w β S) (hb : ∀ i, (g (.al i)).v ≠ .un → ∀ o, w'.cell? ⟨β i, o, none⟩ = w.cell? ⟨β i, o, none⟩) {κ : Key} (hκ : There g κ) : rv β a w' κ = rv β a w κ := by
  cases κ with
  | t i => rfl
  | b i o => exact hb i hκ o
  | al i => rfl
theorem there_of_own (h : Rel w0 S0 N wr g a w β S) {κ : Key} (ho : (g κ).own ≠ none) : There g κ := by
  cases κ with
  | t i => trivial
  | b i o => exact h.blv i o ho
  | al i =>
    cases hq : (g (.al i)).own with
    | none => exact absurd hq ho
    | some p => obtain ⟨v, n, xs, h1, _⟩ := h.own _ p.1 p.2 hq; cases h1
/-- What was there is as it was; there may be more memory, and more cells of lists, in it. -/
theorem Rel.grow (h : Rel w0 S0 N wr g a w β S) {w' : World} {S' : Nat → Nat → Prop} (hb : Below w.heap.size w w') (hS : ∀ b o, S b o → S' b o)
    (hn : ∀ b o, S' b o → S b o ∨ w.heap.size ≤ b) (ha : ∀ b o, S' b o → b < w'.heap.size) : Rel w0 S0 N wr g a w' β S' := by
  have hc : ∀ b o, S b o → w'.cell? ⟨b, o, none⟩ = w.cell? ⟨b, o, none⟩ := fun b o hs => hb.cell (p := ⟨b, o, none⟩) (h.sa b o hs)
  have hx : ∀ i, (g (.al i)).v ≠ .un → ∀ o, w'.cell? ⟨β i, o, none⟩ = w.cell? ⟨β i, o, none⟩ := fun i hi o => hb.cell (p := ⟨β i, o, none⟩) (h.al i hi).2.1
  have hr : ∀ κ, There g κ → rv β a w' κ = rv β a w κ := fun κ => rv_same h hx
  have hsz := h.below.size
  constructor
  · exact h.below.trans (hb.mono hsz)
  · exact h.df
  · exact h.tsz
  · exact fun b o hs => hS _ _ (h.s0 b o hs)
  · intro b o hs
    rcases hn b o hs with hs | hs
    · exact h.sn b o hs
    · exact .inr (by omega)
  · exact ha
  · exact fun t => (h.tm t).mono hS hc
  · intro i o hne
    obtain ⟨c, h1, h2, h3, h4⟩ := h.bx i o hne
    exact ⟨c, (hx i h4 o).trans h1, h2.mono hS hc, (hb.frozen (p := ⟨β i, o, none⟩) (h.al i h4).2.1).trans h3, h4⟩
  · intro i hi
    obtain ⟨h1, h2, h3⟩ := h.al i hi
    refine ⟨h1, by have := hb.size; omega, fun o hs => ?_⟩
    rcases hn _ o hs with hs | hs
    · exact h3 o hs
    · omega
  · exact h.inj
  · intro κ e k ho
    obtain ⟨v, n, xs, h1, h2, h3⟩ := h.own κ e k ho
    refine ⟨v, n, xs, (hr κ (there_of_own h (by rw [ho]; simp))).trans h1, h2.kept (grown_of hb) (by cases v.ownBlock <;> simp), fun b hv => ⟨fun o hs => ?_, (h3 b hv).2⟩⟩
    rcases hn _ o hs with hs | hs
    · exact (h3 b hv).1 o hs
    · have := (h2.lt b hv).2; omega
  · intro κ κ' v v' b h1 h2 h3 h4
    rw [hr κ (there_of_own h h1)] at h3
    rw [hr κ' (there_of_own h h2)] at h4
    exact h.ownd κ κ' v v' b h1 h2 h3 h4
  · intro t κ' h1 h2
    obtain ⟨h3, h4⟩ := h.frm t κ' h1 h2
    refine ⟨?_, h4⟩
    cases κ' with
    | b i o => rw [hr (.b i o) (h4 i o rfl)]; exact h3
    | _ => exact h3
  · exact h.blv
theorem Rel.world (h : Rel w0 S0 N wr g a w β S) {w' : World} (hb : Below w.heap.size w w') : Rel w0 S0 N wr g a w' β S :=
  h.grow hb (fun _ _ h => h) (fun _ _ h => .inl h) (fun b o hs => Nat.lt_of_lt_of_le (h.sa b o hs) hb.size)
theorem Rel.wider (h : Rel w0 S0 N wr g a w β S) {wr' : Key → Prop} (hw : ∀ κ, wr κ → wr' κ) : Rel w0 S0 N wr' g a w β S :=
  { h with frm := fun t κ' h1 h2 => h.frm t κ' h1 (fun h3 => h2 (hw _ h3)) }
theorem getD_put {ts : Array Value} {d : Nat} (hd : d < ts.size) (v : Value) (t : Nat) : (ts.setIfInBounds d v).getD t undef = if t = d then v else ts.getD t undef := by
  rw [Array.getD_eq_getD_getElem?, Array.getD_eq_getD_getElem?, Array.getElem?_setIfInBounds]
  by_cases h : d = t
  · subst h
    simp [hd]
  · rw [if_neg h, if_neg (fun e => h e.symm)]
theorem rv_put {d : Nat} (hd : d < a.tmps.size) (v : Value) (κ : Key) : rv β (a.put (some d) v) w κ = if κ = .t d then some v else rv β a w κ := by
  cases κ with
  | t i =>
    show some ((a.tmps.setIfInBounds d v).getD i undef) = _
    rw [getD_put hd]
    by_cases h : i = d
    · subst h; simp
    · rw [if_neg h, if_neg (by simpa using h)]; rfl
  | b i o => rw [if_neg (by simp)]; rfl
  | al i => rw [if_neg (by simp)]; rfl
/-- A list of one's own, apart from all others. -/
def OwnV (w0 : World) (g : Key → C) (a : Act) (w : World) (β : Nat → Nat) (S : Nat → Nat → Prop) (κ : Key) (v : Value) (ow : Own) : Prop :=
  ∀ e k, ow = some (e, k) → ∃ n xs, w.ownsRow w0.heap.size e k v n xs ∧ ∀ b, v.ownBlock = some b → (∀ o, S b o → o < n * k) ∧ (∀ i, (g (.al i)).v ≠ .un → β i ≠ b) ∧
    ∀ κ' v', κ' ≠ κ → (g κ').own ≠ none → rv β a w κ' = some v' → v'.ownBlock ≠ some b
theorem ownV_none (κ : Key) (v : Value) : OwnV w0 g a w β S κ v none := fun e k h => by cases h
/-- A temporary is written. -/
theorem Rel.put (h : Rel w0 S0 N wr g a w β S) {d : Nat} (hd : d < N) {v : Value} {c : C} (hv : RepF β S w v c.v) (ho : OwnV w0 g a w β S (.t d) v c.own)
    (hf : ∀ κ', c.frm = some κ' → κ' ≠ .t d → ¬ wr κ' → rv β a w κ' = some v ∧ ∀ i o, κ' = .b i o → (g (.al i)).v ≠ .un) {wr' : Key → Prop} (hw : ∀ κ, wr κ → wr' κ) (hwd : wr' (.t d)) :
    Rel w0 S0 N wr' (upd g (.t d) c) (a.put (some d) v) w β S := by
  have hd' : d < a.tmps.size := by rw [h.tsz]; exact hd
  have hal : ∀ i, upd g (.t d) c (.al i) = g (.al i) := fun i => upd_ne g c (by simp)
  have hb : ∀ i o, upd g (.t d) c (.b i o) = g (.b i o) := fun i o => upd_ne g c (by simp)
  have hown : ∀ κ, κ ≠ .t d → upd g (.t d) c κ = g κ := fun κ hk => upd_ne g c hk
  constructor
  · exact h.below
  · exact h.df
  · show (a.tmps.setIfInBounds d v).size = N
    simp [h.tsz]
  · exact h.s0
  · exact h.sn
  · exact h.sa
  · intro t
    show RepF β S w ((a.tmps.setIfInBounds d v).getD t undef) _
    rw [getD_put hd']
    by_cases e : t = d
    · subst e; rw [if_pos rfl, upd_same]; exact hv
    · rw [if_neg e, upd_ne g c (by simpa using e)]; exact h.tm t
  · intro i o; rw [hb, hal]; exact h.bx i o
  · intro i; rw [hal]; exact h.al i
  · intro i j; rw [hal, hal]; exact h.inj i j
  · intro κ e k hk
    by_cases hκ : κ = .t d
    · subst hκ
      rw [upd_same] at hk
      obtain ⟨n, xs, h1, h2⟩ := ho e k hk
      refine ⟨v, n, xs, by rw [rv_put hd', if_pos rfl], h1, fun b hv' => ⟨(h2 b hv').1, fun i => ?_⟩⟩
      rw [hal]; exact (h2 b hv').2.1 i
    · rw [hown κ hκ] at hk
      obtain ⟨v', n, xs, h1, h2, h3⟩ := h.own κ e k hk
      exact ⟨v', n, xs, by rw [rv_put hd', if_neg hκ]; exact h1, h2, fun b hv' => ⟨(h3 b hv').1, fun i => by rw [hal]; exact (h3 b hv').2 i⟩⟩
  · intro κ κ' v1 v2 b h1 h2 h3 h4 h5 h6
    rw [rv_put hd'] at h3 h4
    by_cases hκ : κ = .t d
    · by_cases hκ' : κ' = .t d
      · rw [hκ, hκ']
      · exfalso
        subst hκ
        rw [if_pos rfl] at h3
        rw [if_neg hκ'] at h4
        rw [hown κ' hκ'] at h2
        rw [upd_same] at h1
        cases h3
        cases hc : c.own with
        | none => exact h1 hc
        | some p =>
          obtain ⟨n, xs, _, q⟩ := ho p.1 p.2 hc
          exact (q b h5).2.2 κ' v2 hκ' h2 h4 h6
    · by_cases hκ' : κ' = .t d
      · exfalso
        subst hκ'
        rw [if_pos rfl] at h4
        rw [if_neg hκ] at h3
        rw [hown κ hκ] at h1
        rw [upd_same] at h2
        cases h4
        cases hc : c.own with
        | none => exact h2 hc
        | some p =>
          obtain ⟨n, xs, _, q⟩ := ho p.1 p.2 hc
          exact (q b h6).2.2 κ v1 hκ h1 h3 h5
      · rw [if_neg hκ] at h3
        rw [if_neg hκ'] at h4
        rw [hown κ hκ] at h1
        rw [hown κ' hκ'] at h2
        exact h.ownd κ κ' v1 v2 b h1 h2 h3 h4 h5 h6
  · intro t κ' h1 h2
    have hne : κ' ≠ .t d := fun e => h2 (e ▸ hwd)
    have h2' : ¬ wr κ' := fun e => h2 (hw _ e)
    rw [rv_put hd', rv_put hd', if_neg hne]
    by_cases e : t = d
    · subst e
      rw [upd_same] at h1
      obtain ⟨q1, q2⟩ := hf κ' h1 hne h2'
      rw [if_pos rfl]
      exact ⟨q1.symm, fun i o he => by rw [hal]; exact q2 i o he⟩
    · rw [upd_ne g c (by simpa using e)] at h1
      rw [if_neg (by simpa using e)]
      obtain ⟨q1, q2⟩ := h.frm t κ' h1 h2'
      exact ⟨q1, fun i o he => by rw [hal]; exact q2 i o he⟩
  · intro i o; rw [hb, hal]; exact h.blv i o
/-- A key forgets what it has of its own. -/
theorem Rel.drop (h : Rel w0 S0 N wr g a w β S) (κ : Key) (hκ : ∀ i, κ ≠ .al i) : Rel w0 S0 N wr (upd g κ { g κ with own := none }) a w β S := by
  have hv : ∀ κ', (upd g κ { g κ with own := none } κ').v = (g κ').v := fun κ' => by
    by_cases e : κ' = κ
    · subst e; rw [upd_same]
    · rw [upd_ne g _ e]
  have hfr : ∀ κ', (upd g κ { g κ with own := none } κ').frm = (g κ').frm := fun κ' => by
    by_cases e : κ' = κ
    · subst e; rw [upd_same]
    · rw [upd_ne g _ e]
  have ho : ∀ κ' p, (upd g κ { g κ with own := none } κ').own = some p → (g κ').own = some p := fun κ' p hp => by
    by_cases e : κ' = κ
    · subst e; rw [upd_same] at hp; cases hp
    · rw [upd_ne g _ e] at hp; exact hp
  have hn : ∀ κ', (upd g κ { g κ with own := none } κ').own ≠ none → (g κ').own ≠ none := fun κ' hp hq => by
    cases hr : (upd g κ { g κ with own := none } κ').own with
    | none => exact hp hr
    | some p => rw [ho κ' p hr] at hq; cases hq
  constructor
  · exact h.below
  · exact h.df
  · exact h.tsz
  · exact h.s0
  · exact h.sn
  · exact h.sa
  · intro t; rw [hv]; exact h.tm t
  · intro i o; rw [hv, hv]; exact h.bx i o
  · intro i; rw [hv]; exact h.al i
  · intro i j; rw [hv, hv]; exact h.inj i j
  · intro κ' e k hk
    obtain ⟨v, n, xs, h1, h2, h3⟩ := h.own κ' e k (ho _ _ hk)
    exact ⟨v, n, xs, h1, h2, fun b hb => ⟨(h3 b hb).1, fun i => by rw [hv]; exact (h3 b hb).2 i⟩⟩
  · intro κ1 κ2 v1 v2 b h1 h2
    exact h.ownd κ1 κ2 v1 v2 b (hn _ h1) (hn _ h2)
  · intro t κ' h1 h2
    rw [hfr] at h1
    obtain ⟨q1, q2⟩ := h.frm t κ' h1 h2
    exact ⟨q1, fun i o he => by rw [hv]; exact q2 i o he⟩
  · intro i o hp; rw [hv]; exact h.blv i o (hn _ hp)

/-! ### a new variable in memory -/
def upds (g : Key → C) : List (Key × C) → Key → C
  | [] => g
  | (κ, c) :: ws => upds (upd g κ c) ws
def boxW (i : Nat) (o : Nat) : List PV → List (Key × C)
  | [] => []
  | x :: xs => (.b i o, ⟨.pv x, none, none⟩) :: boxW i (o + 1) xs
theorem upds_boxW (i : Nat) : ∀ (xs : List PV) (o : Nat) (g : Key → C) (κ : Key),
    (∀ i' o', κ = .b i' o' → ¬ (i' = i ∧ o ≤ o')) → upds g (boxW i o xs) κ = g κ
  | [], o, g, κ, _ => rfl
  | x :: xs, o, g, κ, h => by
    show upds (upd g (.b i o) _) (boxW i (o + 1) xs) κ = _
    rw [upds_boxW i xs (o + 1) _ κ (fun i' o' e hh => h i' o' e ⟨hh.1, by omega⟩), upd_ne]
    intro e
    exact h i o e ⟨rfl, Nat.le_refl _⟩
theorem upds_boxW_at (i : Nat) : ∀ (xs : List PV) (o : Nat) (g : Key → C) (o' : Nat), o ≤ o' →
    upds g (boxW i o xs) (.b i o') = match xs[o' - o]? with | some x => ⟨.pv x, none, none⟩ | none => g (.b i o')
  | [], o, g, o', _ => by simp [boxW, upds]
  | x :: xs, o, g, o', h => by
    show upds (upd g (.b i o) _) (boxW i (o + 1) xs) (.b i o') = _
    by_cases e : o' = o
    · subst e
      rw [upds_boxW i xs (o' + 1) _ _ (fun i1 o1 e1 hh => by cases e1; omega), upd_same]
      simp
    · rw [upds_boxW_at i xs (o + 1) _ o' (by omega), upd_ne _ _ (by simpa using e)]
      have : o' - o = (o' - (o + 1)) + 1 := by omega
      rw [this]
      rfl
def liveC : C := ⟨.pv .nil, none, none⟩
/-- No key points to a variable that is not there. -/
def PtrOK (g : Key → C) : Prop := ∀ κ i o, (g κ).v = .ptr i o → (g (.al i)).v ≠ .un
theorem Rel.alloc (h : Rel w0 S0 N wr g a w β S) {i : Nat} (hp : PtrOK g) (hfree : (g (.al i)).v = .un) (cs : Array Value) (T : TypeId) (xs : List PV) (hlen : cs.size = xs.length)
    (hrep : ∀ (o : Nat) v x, cs[o]? = some v → xs[o]? = some x → RepP S w v x) :
    ∃ β', β' i = w.heap.size ∧ Rel w0 S0 N wr (upds (upd g (.al i) liveC) (boxW i 0 xs)) a (w.alloc (.cells cs T)) β' S := by
  have hW : Below w.heap.size w (w.alloc (.cells cs T)) := (Below.refl _ _).alloc (Nat.le_refl _) _
  have h' := h.world hW
  generalize hw1 : w.alloc (.cells cs T) = w1 at hW h'
  have hcell : ∀ o, w1.cell? ⟨w.heap.size, o, none⟩ = cs[o]? := fun o => by rw [← hw1]; exact World.cell?_alloc_at _ _ _ _ rfl
  have hfro : ∀ o, w1.frozen? ⟨w.heap.size, o, none⟩ = false := fun o => by rw [← hw1]; exact World.frozen?_alloc_at _ _ _ _ rfl
  have hsz1 : w1.heap.size = w.heap.size + 1 := by rw [← hw1]; exact World.size_alloc _ _
  have hsz := h.below.size
  let β' : Nat → Nat := fun j => if j = i then w.heap.size else β j
  have hβi : β' i = w.heap.size := if_pos rfl
  have hβ : ∀ j, j ≠ i → β' j = β j := fun j hj => if_neg hj
  have gt : ∀ t, upds (upd g (.al i) liveC) (boxW i 0 xs) (.t t) = g (.t t) := fun t => by rw [upds_boxW _ _ _ _ _ (fun _ _ e => by cases e), upd_ne _ _ (by simp)]
  have gal : ∀ j, upds (upd g (.al i) liveC) (boxW i 0 xs) (.al j) = if j = i then liveC else g (.al j) := fun j => by
    rw [upds_boxW _ _ _ _ _ (fun _ _ e => by cases e)]
    by_cases e : j = i
    · subst e; rw [upd_same, if_pos rfl]
    · rw [upd_ne _ _ (by simpa using e), if_neg e]
  have gb : ∀ j o, j ≠ i → upds (upd g (.al i) liveC) (boxW i 0 xs) (.b j o) = g (.b j o) := fun j o e => by
    rw [upds_boxW _ _ _ _ _ (fun _ _ e1 hh => by cases e1; exact e hh.1), upd_ne _ _ (by simp)]
  have hunb : ∀ o, (g (.b i o)).v = .un := fun o => by
    cases hv : (g (.b i o)).v with
    | un => rfl
    | _ => exact absurd hfree (h.bx i o (by rw [hv]; simp)).choose_spec.2.2.2
  have hob : ∀ o, (g (.b i o)).own = none := fun o => by
    cases hv : (g (.b i o)).own with
    | none => rfl
    | some p => exact absurd hfree (h.blv i o (by rw [hv]; simp))
  have gbi : ∀ o, upds (upd g (.al i) liveC) (boxW i 0 xs) (.b i o) = match xs[o]? with | some x => ⟨.pv x, none, none⟩ | none => g (.b i o) := fun o => by
    rw [upds_boxW_at _ _ _ _ _ (Nat.zero_le _), upd_ne _ _ (by simp)]
    rfl
  have lv : ∀ j, (upds (upd g (.al i) liveC) (boxW i 0 xs) (.al j)).v ≠ .un → j = i ∨ (g (.al j)).v ≠ .un := fun j hj => by
    rw [gal] at hj
    by_cases e : j = i
    · exact .inl e
    · rw [if_neg e] at hj; exact .inr hj
  have lv' : ∀ j, (g (.al j)).v ≠ .un → (upds (upd g (.al i) liveC) (boxW i 0 xs) (.al j)).v ≠ .un := fun j hj => by
    rw [gal]
    by_cases e : j = i
    · rw [if_pos e]; simp [liveC]
    · rw [if_neg e]; exact hj
  have hne : ∀ j, (g (.al j)).v ≠ .un → j ≠ i := fun j hj e => hj (e ▸ hfree)
  -- pointers do not lead to the new variable yet
  have hrf : ∀ κ v x, RepF β S w1 v (g κ).v → x = (g κ).v → RepF β' S w1 v x := fun κ v x hv hx => by
    subst hx
    cases hg : (g κ).v with
    | ptr j o => rw [hg] at hv; rw [RepF] at hv ⊢; rw [hβ j (hne j (hp κ j o hg))]; exact hv
    | _ => rw [hg] at hv; exact hv
  have own_ne : ∀ κ, (upds (upd g (.al i) liveC) (boxW i 0 xs) κ).own ≠ none → (g κ).own ≠ none ∧ upds (upd g (.al i) liveC) (boxW i 0 xs) κ = g κ ∧ rv β' a w1 κ = rv β a w1 κ := fun κ hκ => by
    cases κ with
    | t t => rw [gt] at hκ ⊢; exact ⟨hκ, rfl, rfl⟩
    | al j =>
      rw [gal] at hκ ⊢
      by_cases e : j = i
      · rw [if_pos e] at hκ; exact absurd rfl hκ
      · rw [if_neg e] at hκ ⊢; exact ⟨hκ, rfl, rfl⟩
    | b j o =>
      by_cases e : j = i
      · subst e
        rw [gbi] at hκ
        cases hx : xs[o]? with
        | some x => rw [hx] at hκ; exact absurd rfl hκ
        | none => rw [hx] at hκ; exact absurd (hob o) hκ
      · rw [gb j o e] at hκ ⊢
        exact ⟨hκ, rfl, by show w1.cell? ⟨β' j, o, none⟩ = w1.cell? ⟨β j, o, none⟩; rw [hβ j e]⟩
  refine ⟨β', hβi, ?_⟩
  constructor
  · exact h'.below
  · exact h'.df
  · exact h'.tsz
  · exact h'.s0
  · exact h'.sn
  · exact h'.sa
  · intro t; rw [gt]; exact hrf (.t t) _ _ (h'.tm t) rfl
  · intro j o hv
    by_cases e : j = i
    · subst e
      rw [gbi] at hv ⊢
      cases hx : xs[o]? with
      | none => rw [hx] at hv; exact absurd (hunb o) hv
      | some x =>
        have hlt : o < cs.size := by rw [hlen]; exact (List.getElem?_eq_some_iff.1 hx).1
        have hc : cs[o]? = some cs[o] := Array.getElem?_eq_getElem hlt
        refine ⟨cs[o], by rw [hβi, hcell, hc], ?_, by rw [hβi]; exact hfro o, by rw [gal, if_pos rfl]; simp [liveC]⟩
        show RepP S w1 _ x
        exact (hrep o _ x hc hx).mono (fun _ _ h => h) (fun b o hs => hW.cell (p := ⟨b, o, none⟩) (h.sa b o hs))
    · rw [gb j o e] at hv ⊢
      obtain ⟨c, h1, h2, h3, h4⟩ := h'.bx j o hv
      exact ⟨c, by rw [hβ j e]; exact h1, hrf (.b j o) _ _ h2 rfl, by rw [hβ j e]; exact h3, lv' j h4⟩
  · intro j hj
    by_cases e : j = i
    · subst e
      rw [hβi]
      exact ⟨hsz, by omega, fun o hs => by have := h.sa _ _ hs; omega⟩
    · rcases lv j hj with e' | hj
      · exact absurd e' e
      · rw [hβ j e]; exact h'.al j hj
  · intro j j' hj hj' heq
    by_cases e : j = i
    · by_cases e' : j' = i
      · rw [e, e']
      · exfalso
        subst e
        rcases lv j' hj' with q | q
        · exact e' q
        · rw [hβi, hβ j' e'] at heq
          have := (h.al j' q).2.1; omega
    · by_cases e' : j' = i
      · exfalso
        subst e'
        rcases lv j hj with q | q
        · exact e q
        · rw [hβi, hβ j e] at heq
          have := (h.al j q).2.1; omega
      · rw [hβ j e, hβ j' e'] at heq
        exact h.inj j j' ((lv j hj).resolve_left e) ((lv j' hj').resolve_left e') heq
  · intro κ e k hκ
    obtain ⟨q1, q2, q3⟩ := own_ne κ (by rw [hκ]; simp)
    rw [q2] at hκ
    obtain ⟨v, n, ys, h1, h2, h3⟩ := h'.own κ e k hκ
    refine ⟨v, n, ys, q3.trans h1, h2, fun b hb => ⟨(h3 b hb).1, fun j hj => ?_⟩⟩
    by_cases e : j = i
    · subst e
      rw [hβi]
      intro eq
      obtain ⟨v2, n2, ys2, k1, k2, _⟩ := h.own κ _ _ hκ
      have hrv : rv β a w1 κ = rv β a w κ := rv_same h (fun i hi o => hW.cell (p := ⟨β i, o, none⟩) (h.al i hi).2.1) (there_of_own h q1)
      rw [hrv, k1] at h1
      cases h1
      have := (k2.lt b hb).2
      omega
    · rw [hβ j e]; exact (h3 b hb).2 j ((lv j hj).resolve_left e)
  · intro κ κ' v v' b h1 h2 h3 h4
    obtain ⟨q1, _, q3⟩ := own_ne κ h1
    obtain ⟨q1', _, q3'⟩ := own_ne κ' h2
    rw [q3] at h3
    rw [q3'] at h4
    exact h'.ownd κ κ' v v' b q1 q1' h3 h4
  · intro t κ' h1 h2
    rw [gt] at h1
    obtain ⟨q1, q2⟩ := h'.frm t κ' h1 h2
    cases κ' with
    | b j o =>
      have hj := q2 j o rfl
      refine ⟨?_, fun i2 o2 e => by cases e; exact lv' j hj⟩
      show some _ = w1.cell? ⟨β' j, o, none⟩
      rw [hβ j (hne j hj)]
      exact q1
    | t t' => exact ⟨q1, fun _ _ e => by cases e⟩
    | al j => exact ⟨q1, fun _ _ e => by cases e⟩
  · intro j o hj
    obtain ⟨q1, _, _⟩ := own_ne (.b j o) hj
    exact lv' j (h.blv j o q1)
/-! ### a variable's cell is written -/
theorem ownsRow_setCell {w : World} {base : Nat} {e : TypeId} {k : Nat} {v : Value} {n : Nat} {xs : List Value} (h : w.ownsRow base e k v n xs) {p : Addr} (hp : ∀ b, v.ownBlock = some b → p.block ≠ b) (u : Value) :
    (w.setCell p u).ownsRow base e k v n xs := by
  obtain ⟨h1, h2⟩ := h
  refine ⟨h1, ?_⟩
  rcases h2 with h2 | ⟨g, cap, cur, hv, hg, hh, r⟩
  · exact .inl h2
  · refine .inr ⟨g, cap, cur, hv, hg, ?_, r⟩
    rw [Below.heap_setCell _ _ _ _ (fun e => hp g (by rw [hv]; rfl) e.symm)]
    exact hh
theorem Rel.store (h : Rel w0 S0 N wr g a w β S) {i o : Nat} (hold : (g (.b i o)).v ≠ .un) {v : Value} {c : C} (hv : RepF β S w v c.v)
    (ho : OwnV w0 g a w β S (.b i o) v c.own) (hf : c.frm = none) (hc : c.v ≠ .un) {wr' : Key → Prop} (hw : ∀ κ, wr κ → wr' κ) (hwd : wr' (.b i o)) :
    Rel w0 S0 N wr' (upd g (.b i o) c) a (w.setCell ⟨β i, o, none⟩ v) β S := by
  obtain ⟨old, hb1, _, hb3, hb4⟩ := h.bx i o hold
  obtain ⟨ha1, ha2, ha3⟩ := h.al i hb4
  have hal : ∀ j, upd g (.b i o) c (.al j) = g (.al j) := fun j => upd_ne g c (by simp)
  have ht : ∀ t, upd g (.b i o) c (.t t) = g (.t t) := fun t => upd_ne g c (by simp)
  have hS : ∀ b o', S b o' → (w.setCell ⟨β i, o, none⟩ v).cell? ⟨b, o', none⟩ = w.cell? ⟨b, o', none⟩ := fun b o' hs =>
    World.cell?_setCell_other _ _ _ _ (fun e => by cases e; exact ha3 _ hs)
  have hoth : ∀ j o', (g (.al j)).v ≠ .un → Key.b j o' ≠ .b i o → (w.setCell ⟨β i, o, none⟩ v).cell? ⟨β j, o', none⟩ = w.cell? ⟨β j, o', none⟩ := fun j o' hj hne =>
    World.cell?_setCell_other _ _ _ _ (fun e => hne (by
      simp only [Addr.mk.injEq, and_true] at e
      rw [h.inj i j hb4 hj e.1, e.2]))
  have hrv : ∀ κ, There g κ → κ ≠ .b i o → rv β a (w.setCell ⟨β i, o, none⟩ v) κ = rv β a w κ := fun κ hκ hne => by
    cases κ with
    | t t => rfl
    | al j => rfl
    | b j o' => exact hoth j o' hκ hne
  have hrs : rv β a (w.setCell ⟨β i, o, none⟩ v) (.b i o) = some v := World.cell?_setCell_same _ _ _ hb1
  have hown : ∀ κ, κ ≠ .b i o → upd g (.b i o) c κ = g κ := fun κ hk => upd_ne g c hk
  constructor
  · exact h.below.setCell (p := ⟨β i, o, none⟩) ha1 v
  · exact h.df
  · exact h.tsz
  · exact h.s0
  · exact h.sn
  · intro b o' hs; simpa using h.sa b o' hs
  · intro t; rw [ht]; exact (h.tm t).mono (fun _ _ h => h) hS
  · intro j o' hj
    rw [hal]
    by_cases e : Key.b j o' = .b i o
    · cases e
      rw [upd_same] at hj ⊢
      exact ⟨v, hrs, hv.mono (fun _ _ h => h) hS, by simpa using hb3, hb4⟩
    · rw [upd_ne g c e] at hj ⊢
      obtain ⟨c', h1, h2, h3, h4⟩ := h.bx j o' hj
      exact ⟨c', (hoth j o' h4 e).trans h1, h2.mono (fun _ _ h => h) hS, by simpa using h3, h4⟩
  · intro j hj; rw [hal] at hj
    obtain ⟨q1, q2, q3⟩ := h.al j hj
    exact ⟨q1, by simpa using q2, q3⟩
  · intro j j'; rw [hal, hal]; exact h.inj j j'
  · intro κ e k hκ
    by_cases hk : κ = .b i o
    · subst hk
      rw [upd_same] at hκ
      obtain ⟨n, xs, h1, h2⟩ := ho e k hκ
      refine ⟨v, n, xs, hrs, ownsRow_setCell h1 (fun b hb => (h2 b hb).2.1 i hb4) v, fun b hb => ⟨(h2 b hb).1, fun j hj => ?_⟩⟩
      rw [hal] at hj; exact (h2 b hb).2.1 j hj
    · rw [hown κ hk] at hκ
      obtain ⟨v', n, xs, h1, h2, h3⟩ := h.own κ e k hκ
      refine ⟨v', n, xs, (hrv κ (there_of_own h (by rw [hκ]; simp)) hk).trans h1, ownsRow_setCell h2 (fun b hb => (h3 b hb).2 i hb4) v, fun b hb => ⟨(h3 b hb).1, fun j hj => ?_⟩⟩
      rw [hal] at hj; exact (h3 b hb).2 j hj
  · intro κ κ' v1 v2 b h1 h2 h3 h4 h5 h6
    by_cases hκ : κ = .b i o
    · by_cases hκ' : κ' = .b i o
      · rw [hκ, hκ']
      · exfalso
        subst hκ
        rw [hrs] at h3
        rw [hown κ' hκ'] at h2
        rw [hrv κ' (there_of_own h h2) hκ'] at h4
        rw [upd_same] at h1
        cases h3
        cases hc : c.own with
        | none => exact h1 hc
        | some p =>
          obtain ⟨n, xs, _, q⟩ := ho p.1 p.2 hc
          exact (q b h5).2.2 κ' v2 hκ' h2 h4 h6
    · by_cases hκ' : κ' = .b i o
      · exfalso
        subst hκ'
        rw [hrs] at h4
        rw [hown κ hκ] at h1
        rw [hrv κ (there_of_own h h1) hκ] at h3
        rw [upd_same] at h2
        cases h4
        cases hc : c.own with
        | none => exact h2 hc
        | some p =>
          obtain ⟨n, xs, _, q⟩ := ho p.1 p.2 hc
          exact (q b h6).2.2 κ v1 hκ h1 h3 h5
      · rw [hown κ hκ] at h1
        rw [hown κ' hκ'] at h2
        rw [hrv κ (there_of_own h h1) hκ] at h3
        rw [hrv κ' (there_of_own h h2) hκ'] at h4
        exact h.ownd κ κ' v1 v2 b h1 h2 h3 h4 h5 h6
  · intro t κ' h1 h2
    rw [ht] at h1
    obtain ⟨q1, q2⟩ := h.frm t κ' h1 (fun q => h2 (hw _ q))
    refine ⟨?_, fun j o' e => by rw [hal]; exact q2 j o' e⟩
    have hne : κ' ≠ .b i o := fun e => h2 (e ▸ hwd)
    show some _ = _
    cases κ' with
    | b j o' => rw [hrv (.b j o') (q2 j o' rfl) hne]; exact q1
    | _ => exact q1
  · intro j o' hj
    rw [hal]
    by_cases e : Key.b j o' = .b i o
    · cases e; exact hb4
    · rw [upd_ne g c e] at hj; exact h.blv j o' hj
end
end Go.Proofs.YtpflimghkckpjaaGreatDoor.B

set_option linter.unusedVariables false
set_option linter.unusedSimpArgs false
set_option linter.unnecessarySimpa false
namespace Go.Proofs.YtpflimghkckpjaaGreatDoor.B
open Go.RowKit

/-- 'append' onto a list in memory of one's own: in its place, or in a new block. -/
theorem append_run {P : Program} (w : World) (base : Nat) (t ty e : TypeId) (i : TypeInfo) (z : Value) (k bytes : Nat) (ht : P.underlying t = some (.slice e)) (hi : P.info? e = some i) (hz : i.zero = some z)
    (hsize : i.size = k) (hby : i.bytes = bytes) (hzs : z.cells.size = k) (v : Value) (n : Nat) (xs : List Value) (hown : w.ownsRow base e k v n xs)
    (x : Value) (m : Nat) (news : List Value) (hl : news.length = m * k) (h1 : ∀ u ∈ news, u.oneCell' = true)
    (hx : (x = .slice none 0 0 ∧ m = 0) ∨ ∃ ad c, x = .slice (some ad) m c ∧ ∀ (j : Nat) u, news[j]? = some u → w.cell? (ad.add j) = some u)
    (h63 : n + m ≤ maxLen) (hbytes : (n + m) * bytes ≤ 140737488355328) (hbase : base ≤ w.heap.size) :
    ∃ v' w', (Builtin.append_ #[t, t] ty #[v, x]).run P w = .ok v' w' ∧ w'.ownsRow base e k v' (n + m) (xs ++ news) ∧
      ((v'.ownBlock = v.ownBlock ∧ w.grownBy w' v.ownBlock) ∨ (v'.ownBlock = some w.heap.size ∧ Below w.heap.size w w')) := by
  subst hsize
  subst hby
  have hsmall : n + m ≤ 9223372036854775807 := by simp only [maxLen] at h63; omega
  have hlen : (xs ++ news).length = (n + m) * i.size := by rw [List.length_append, hown.1, hl, Nat.add_mul]
  rcases hx with ⟨rfl, rfl⟩ | ⟨ad, c, rfl, hnews⟩
  · have hn : news = [] := List.eq_nil_of_length_eq_zero (by simpa using hl)
    subst hn
    rcases hown.2 with ⟨rfl, rfl⟩ | ⟨g, cap, cur, rfl, hbg, hg, hnc, hcm, hcs, htake⟩
    · refine ⟨.slice none 0 0, w, ?_, by simpa using hown, .inl ⟨rfl, ⟨rfl, rfl, rfl, Nat.le_refl _, fun _ _ _ => rfl⟩⟩⟩
      simp [Builtin.append_, run_underlying ht, sizeOf, typeInfo, hi, Builtin.lenOf, Builtin.firstCells, loadCells, loadCellsFrom]
    · refine ⟨.slice (some ⟨g, 0, none⟩) n cap, w, ?_, by simpa using hown, .inl ⟨rfl, ⟨rfl, rfl, rfl, Nat.le_refl _, fun _ _ _ => rfl⟩⟩⟩
      simp [Builtin.append_, run_underlying ht, sizeOf, typeInfo, hi, Builtin.lenOf, Builtin.firstCells, hnc, storeCells]
  have grown : ∀ (old : Nat), old < n + m →
      (w.drew.alloc (.cells (xs.toArray ++ news.toArray ++ Builtin.zeroCells z.cells (grownCap w (n + m) old e - (n + m))) e)).ownsRow base e i.size
        (.slice (some ⟨w.heap.size, 0, none⟩) (n + m) (grownCap w (n + m) old e)) (n + m) (xs ++ news) := by
    intro old ho
    have hge := grownCap_ge w (n + m) old e
    have hcm : grownCap w (n + m) old e ≤ maxLen := grownCap_le_maxLen w (n + m) old e h63
    refine ⟨hlen, .inr ⟨w.heap.size, _, _, rfl, hbase, heap_alloc_new w.drew _, hge, hcm, ?_, ?_⟩⟩
    · simp only [Array.size_append, List.size_toArray, size_zeroCells, hzs, hown.1, hl, ← Nat.add_mul]
      congr 1
      omega
    · simp only [Array.toList_append, List.append_assoc]
      rw [← List.append_assoc, ← hlen]
      exact List.take_left
  have gbel : ∀ o, Below w.heap.size w (w.drew.alloc o) := fun o => ((Below.refl _ _).drew).alloc (Nat.le_refl _) _
  rcases hown.2 with ⟨rfl, rfl⟩ | ⟨g, cap, cur, rfl, hbg, hg, hnc, hcm, hcs, htake⟩
  · have hx : xs = [] := List.eq_nil_of_length_eq_zero (by simpa using hown.1)
    subst hx
    by_cases hm : m = 0
    · subst hm
      have hn : news = [] := List.eq_nil_of_length_eq_zero (by simpa using hl)
      subst hn
      refine ⟨.slice none 0 0, w, ?_, by simpa using hown, .inl ⟨rfl, ⟨rfl, rfl, rfl, Nat.le_refl _, fun _ _ _ => rfl⟩⟩⟩
      simp [Builtin.append_, run_underlying ht, sizeOf, typeInfo, hi, Builtin.lenOf, Builtin.firstCells, loadCells, loadCellsFrom]
    · have hr := run_append_nil (P := P) w t ty e i z ht hi hz ad m c news hl hnews (by omega) (by omega) (by have hb := hbytes; simp only [Nat.zero_add] at hb; omega)
      have hgr := grown 0 (by omega)
      simp only [Nat.zero_add, List.nil_append, Array.empty_append] at hgr ⊢
      exact ⟨_, _, hr, hgr, .inr ⟨rfl, gbel _⟩⟩
  · by_cases hroom : n + m ≤ cap
    · obtain ⟨w', r1, r2, r3⟩ := run_append_fits (P := P) w base t ty e i i.size ht hi rfl g n cap xs hown ad m c news hl hnews h1 hroom
      exact ⟨_, w', r1, r2, .inl ⟨rfl, r3⟩⟩
    · have holds : ∀ j u, xs[j]? = some u → w.cell? ((⟨g, 0, none⟩ : Addr).add j) = some u := hown.cells (g := g) rfl
      have hr := run_append_grow (P := P) w t ty e i z ht hi hz ⟨g, 0, none⟩ n cap xs hown.1 holds ad m c news hl hnews (by omega) (by omega) (growslice_fits (by omega) hbytes)
      exact ⟨_, _, hr, grown cap (by omega), .inr ⟨rfl, gbel _⟩⟩

section
variable {w0 : World} {S0 : Nat → Nat → Prop} {N : Nat} {wr : Key → Prop} {g : Key → C} {a : Act} {w : World} {β : Nat → Nat} {S : Nat → Nat → Prop}
/-- More cells of lists, and whatever else no list and no variable holds. -/
theorem Rel.moved (h : Rel w0 S0 N wr g a w β S) {w' : World} {S' : Nat → Nat → Prop} (hb : Below w0.heap.size w0 w') (hsz : w.heap.size ≤ w'.heap.size)
    (hc : ∀ b o, S b o → w'.cell? ⟨b, o, none⟩ = w.cell? ⟨b, o, none⟩) (hx : ∀ i, (g (.al i)).v ≠ .un → w'.heap[β i]? = w.heap[β i]?)
    (hS : ∀ b o, S b o → S' b o) (hn : ∀ b o, S' b o → S b o ∨ (w0.heap.size ≤ b ∧ b < w'.heap.size ∧ (∀ i, (g (.al i)).v ≠ .un → β i ≠ b) ∧ ∀ κ v, (g κ).own ≠ none → rv β a w κ = some v → v.ownBlock ≠ some b))
    (hk : ∀ κ v e k n xs, (g κ).own ≠ none → rv β a w κ = some v → w.ownsRow w0.heap.size e k v n xs → w'.ownsRow w0.heap.size e k v n xs) : Rel w0 S0 N wr g a w' β S' := by
  have hxc : ∀ i, (g (.al i)).v ≠ .un → ∀ o, w'.cell? ⟨β i, o, none⟩ = w.cell? ⟨β i, o, none⟩ := fun i hi o => World.cell?_of_block (w := w) (a := ⟨β i, o, none⟩) (hx i hi)
  have hr : ∀ κ, There g κ → rv β a w' κ = rv β a w κ := fun κ => rv_same h hxc
  constructor
  · exact hb
  · exact h.df
  · exact h.tsz
  · exact fun b o hs => hS _ _ (h.s0 b o hs)
  · intro b o hs
    rcases hn b o hs with hs | hs
    · exact h.sn b o hs
    · exact .inr hs.1
  · intro b o hs
    rcases hn b o hs with hs | hs
    · exact Nat.lt_of_lt_of_le (h.sa b o hs) hsz
    · exact hs.2.1
  · exact fun t => (h.tm t).mono hS hc
  · intro i o hne
    obtain ⟨c, h1, h2, h3, h4⟩ := h.bx i o hne
    exact ⟨c, (hxc i h4 o).trans h1, h2.mono hS hc, (World.frozen?_of_block (w := w) (a := ⟨β i, o, none⟩) (hx i h4)).trans h3, h4⟩
  · intro i hi
    obtain ⟨h1, h2, h3⟩ := h.al i hi
    refine ⟨h1, by omega, fun o hs => ?_⟩
    rcases hn _ o hs with hs | hs
    · exact h3 o hs
    · exact hs.2.2.1 i hi rfl
  · exact h.inj
  · intro κ e k ho
    obtain ⟨v, n, xs, h1, h2, h3⟩ := h.own κ e k ho
    refine ⟨v, n, xs, (hr κ (there_of_own h (by rw [ho]; simp))).trans h1, hk κ v e k n xs (by rw [ho]; simp) h1 h2, fun b hv => ⟨fun o hs => ?_, (h3 b hv).2⟩⟩
    rcases hn _ o hs with hs | hs
    · exact (h3 b hv).1 o hs
    · exact absurd hv (hs.2.2.2 κ v (by rw [ho]; simp) h1)
  · intro κ κ' v v' b h1 h2 h3 h4
    rw [hr κ (there_of_own h h1)] at h3
    rw [hr κ' (there_of_own h h2)] at h4
    exact h.ownd κ κ' v v' b h1 h2 h3 h4
  · intro t κ' h1 h2
    obtain ⟨h3, h4⟩ := h.frm t κ' h1 h2
    refine ⟨?_, h4⟩
    cases κ' with
    | b i o => rw [hr (.b i o) (h4 i o rfl)]; exact h3
    | _ => exact h3
  · exact h.blv
/-- A value that owns its list, apart from every key. -/
def Apart (w0 : World) (g : Key → C) (a : Act) (w : World) (β : Nat → Nat) (S : Nat → Nat → Prop) (v : Value) (e : TypeId) (k n : Nat) (xs : List Value) : Prop :=
  w.ownsRow w0.heap.size e k v n xs ∧ ∀ b, v.ownBlock = some b → (∀ o, S b o → o < n * k) ∧ (∀ i, (g (.al i)).v ≠ .un → β i ≠ b) ∧ ∀ κ' v', (g κ').own ≠ none → rv β a w κ' = some v' → v'.ownBlock ≠ some b
theorem Rel.append (h : Rel w0 S0 N wr g a w β S) {v v' : Value} {e : TypeId} {k n m : Nat} {xs news : List Value} {w' : World} (hap : Apart w0 g a w β S v e k n xs)
    (ho : w'.ownsRow w0.heap.size e k v' (n + m) (xs ++ news))
    (hd : (v'.ownBlock = v.ownBlock ∧ w.grownBy w' v.ownBlock) ∨ (v'.ownBlock = some w.heap.size ∧ Below w.heap.size w w')) :
    ∃ S', (∀ b o, S b o → S' b o) ∧ (∀ b o, S b o → w'.cell? ⟨b, o, none⟩ = w.cell? ⟨b, o, none⟩) ∧ (∀ b o, v'.ownBlock = some b → o < (n + m) * k → S' b o) ∧ Rel w0 S0 N wr g a w' β S' ∧ Apart w0 g a w' β S' v' e k (n + m) (xs ++ news) := by
  have hlt := ho.lt
  have hvl := hap.1.lt
  have hsz0 := h.below.size
  refine ⟨fun b o => S b o ∨ (v'.ownBlock = some b ∧ o < (n + m) * k), fun b o hs => .inl hs, ?_, fun b o h1 h2 => .inr ⟨h1, h2⟩, ?_⟩
  · intro b o hs
    rcases hd with ⟨he, hg⟩ | ⟨he, hg⟩
    · by_cases hb : v.ownBlock = some b
      · have h1 := (hap.2 b hb).1 o hs
        have q : ∀ {W : World} {V : Value} {nn : Nat} {ys : List Value}, W.ownsRow w0.heap.size e k V nn ys → V.ownBlock = some b → ∀ u, ys[o]? = some u → W.cell? ⟨b, o, none⟩ = some u := fun hW hV u hu => by
          have := hW.cells hV o u hu
          rwa [Addr.add_lit, Nat.zero_add] at this
        have hlx : o < xs.length := by rw [hap.1.1]; exact h1
        have hu : xs[o]? = some xs[o] := List.getElem?_eq_getElem hlx
        rw [q hap.1 hb _ hu, q ho (he.trans hb) xs[o] (by rw [List.getElem?_append_left hlx]; exact hu)]
      · exact World.cell?_of_block (w := w) (a := ⟨b, o, none⟩) (hg.block b (h.sa b o hs) (fun e => hb e.symm))
    · exact hg.cell (p := ⟨b, o, none⟩) (h.sa b o hs)
  have hcell : ∀ b o, S b o → w'.cell? ⟨b, o, none⟩ = w.cell? ⟨b, o, none⟩ := by
    intro b o hs
    rcases hd with ⟨he, hg⟩ | ⟨he, hg⟩
    · by_cases hb : v.ownBlock = some b
      · have h1 := (hap.2 b hb).1 o hs
        have q : ∀ {W : World} {V : Value} {nn : Nat} {ys : List Value}, W.ownsRow w0.heap.size e k V nn ys → V.ownBlock = some b → ∀ u, ys[o]? = some u → W.cell? ⟨b, o, none⟩ = some u := fun hW hV u hu => by
          have := hW.cells hV o u hu
          rwa [Addr.add_lit, Nat.zero_add] at this
        have hlx : o < xs.length := by rw [hap.1.1]; exact h1
        have hu : xs[o]? = some xs[o] := List.getElem?_eq_getElem hlx
        rw [q hap.1 hb _ hu, q ho (he.trans hb) xs[o] (by rw [List.getElem?_append_left hlx]; exact hu)]
      · exact World.cell?_of_block (w := w) (a := ⟨b, o, none⟩) (hg.block b (h.sa b o hs) (fun e => hb e.symm))
    · exact hg.cell (p := ⟨b, o, none⟩) (h.sa b o hs)
  -- the blocks of variables and of other lists
  have hblk : ∀ b, b < w.heap.size → (v.ownBlock ≠ some b) → w'.heap[b]? = w.heap[b]? := by
    intro b hb hne
    rcases hd with ⟨he, hg⟩ | ⟨he, hg⟩
    · exact hg.block b hb (fun e => hne e.symm)
    · exact hg.block b hb
  have hszw : w.heap.size ≤ w'.heap.size := by
    rcases hd with ⟨_, hg⟩ | ⟨_, hg⟩
    · exact hg.size
    · exact hg.size
  have hbel : Below w0.heap.size w0 w' := by
    rcases hd with ⟨he, hg⟩ | ⟨he, hg⟩
    · refine h.below.trans ⟨hg.os, hg.tape, hg.output, hg.size, fun b hb => hg.block b (by omega) (fun e => ?_)⟩
      have := (hvl b e.symm).1
      omega
    · exact h.below.trans (hg.mono hsz0)
  -- the result's block: the old one, or a new one
  have hfresh : ∀ b, v'.ownBlock = some b → (v.ownBlock = some b) ∨ b = w.heap.size := by
    intro b hb
    rcases hd with ⟨he, _⟩ | ⟨he, _⟩
    · exact .inl (he ▸ hb)
    · rw [he] at hb; cases hb; exact .inr rfl
  have hxs : ∀ b, v'.ownBlock = some b → (∀ i, (g (.al i)).v ≠ .un → β i ≠ b) ∧ ∀ κ' u, (g κ').own ≠ none → rv β a w κ' = some u → u.ownBlock ≠ some b := by
    intro b hb
    rcases hfresh b hb with hb' | rfl
    · exact (hap.2 b hb').2
    · refine ⟨fun i hi e => by have := (h.al i hi).2.1; omega, fun κ' u hκ hu he => ?_⟩
      cases hq : (g κ').own with
      | none => exact hκ hq
      | some p =>
        obtain ⟨u', n', ys, k1, k2, _⟩ := h.own κ' p.1 p.2 hq
        rw [hu] at k1
        cases k1
        have := (k2.lt _ he).2
        omega
  have hkeep : ∀ κ u e' k' n' ys, (g κ).own ≠ none → rv β a w κ = some u → w.ownsRow w0.heap.size e' k' u n' ys → w'.ownsRow w0.heap.size e' k' u n' ys := by
    intro κ u e' k' n' ys h1 h2 h3
    refine ⟨h3.1, ?_⟩
    rcases h3.2 with q | ⟨g', cap, cur, hv, hb, hg, r⟩
    · exact .inl q
    · refine .inr ⟨g', cap, cur, hv, hb, ?_, r⟩
      have hu : u.ownBlock = some g' := by rw [hv]; rfl
      rw [hblk g' (h3.lt g' hu).2 (fun e => (hap.2 g' e).2.2 κ u h1 h2 hu)]
      exact hg
  refine ⟨h.moved hbel hszw hcell (fun i hi => hblk _ (h.al i hi).2.1 (fun e => (hap.2 _ e).2.1 i hi rfl)) (fun b o hs => .inl hs) ?_ hkeep, ho, fun b hb => ⟨?_, (hxs b hb).1, ?_⟩⟩
  · rintro b o (hs | ⟨hs, _⟩)
    · exact .inl hs
    · exact .inr ⟨(hlt b hs).1, (hlt b hs).2, (hxs b hs).1, (hxs b hs).2⟩
  · rintro o (hs | ⟨_, hs⟩)
    · rcases hfresh b hb with hb' | rfl
      · have := (hap.2 b hb').1 o hs
        exact Nat.lt_of_lt_of_le this (Nat.mul_le_mul_right _ (by omega))
      · have := h.sa _ o hs; omega
    · exact hs
  · intro κ' u h1 h2
    refine (hxs b hb).2 κ' u h1 ?_
    rw [← h2]
    exact (rv_same h (fun i hi o => World.cell?_of_block (w := w) (a := ⟨β i, o, none⟩) (hblk _ (h.al i hi).2.1 (fun e => (hap.2 _ e).2.1 i hi rfl))) (there_of_own h h1)).symm
end
end Go.Proofs.YtpflimghkckpjaaGreatDoor.B

set_option linter.unusedVariables false
set_option linter.unusedSimpArgs false
set_option linter.unnecessarySimpa false
namespace Go.Proofs.YtpflimghkckpjaaGreatDoor.B
open Go.RowKit

/-- What is known of a type. -/
structure TI where
  desc : TypeDesc
  size : Nat
  bytes : Nat
  zero : Value
  eqOK : Unit → Bool
abbrev Tau := TypeId → Option TI

/-- A fact that is kept shut while the conditions are computed. -/
structure Is {α : Type} (m : α) (n : Unit → α) : Prop where
  out : m = n ()
structure Req (p : Unit → Prop) : Prop where
  out : p ()
/-- An operation: it reads keys, asks for facts, and writes keys. -/
inductive T where
  | ret (ws : List (Key × C))
  | fail
  | get (k : Key) (f : C → T)
  | chk (k : Key) (t : T)
  | row (xs : List (List PV)) (i : Int) (f : List PV → T)
  | byte (s : ByteArray) (i : Int) (f : UInt8 → T)
  | ival (n : Unit → Int) (f : Int → T)
  | bval (b : Unit → Bool) (f : Bool → T)
  | sval (s : Unit → ByteArray) (f : ByteArray → T)
  | lval (xs : Unit → List (List PV)) (f : List (List PV) → T)
  | req (p : Unit → Prop) (t : T)
  | ite (b : Bool) (x y : T)
  | call (fn : FuncId) (args : List PV) (f : PV → Own → T)

def vcT (G : World → Prop) (P : Program) : T → (Key → C) → (Key → Bool) → (List Key → List (Key × C) → Prop) → Prop
  | .ret ws, g, wr, K => K [] ws
  | .fail, g, wr, K => False
  | .get k f, g, wr, K => vcT G P (f (g k)) g wr (fun rs ws => K (k :: rs) ws)
  | .chk k t, g, wr, K => wr k = false ∧ vcT G P t g wr (fun rs ws => K (k :: rs) ws)
  | .row xs i f, g, wr, K => Req (fun _ => 0 ≤ i ∧ i.toNat < xs.length) ∧ ∀ r, Is (some r) (fun _ => xs[i.toNat]?) → vcT G P (f r) g wr K
  | .byte s i f, g, wr, K => Req (fun _ => 0 ≤ i ∧ i.toNat < s.size) ∧ ∀ b, Is (some b) (fun _ => s[i.toNat]?) → vcT G P (f b) g wr K
  | .ival n f, g, wr, K => ∀ m, Is m n → vcT G P (f m) g wr K
  | .bval n f, g, wr, K => ∀ m, Is m n → vcT G P (f m) g wr K
  | .sval n f, g, wr, K => ∀ m, Is m n → vcT G P (f m) g wr K
  | .lval n f, g, wr, K => ∀ m, Is m n → vcT G P (f m) g wr K
  | .req p t, g, wr, K => Req p ∧ vcT G P t g wr K
  | .ite b x y, g, wr, K => if b = true then vcT G P x g wr K else vcT G P y g wr K
  | .call fn args f, g, wr, K => ∃ res ow, ACalls G P fn args res ow ∧ vcT G P (f res ow) g wr K

theorem vcT_ev {G : World → Prop} {P : Program} {g : Key → C} {wr : Key → Bool} : ∀ (t : T) {K : List Key → List (Key × C) → Prop}, vcT G P t g wr K →
    ∃ rs ws, vcT G P t g wr (fun r v => r = rs ∧ v = ws) ∧ K rs ws
  | .ret ws, K, h => ⟨[], ws, ⟨rfl, rfl⟩, h⟩
  | .fail, K, h => h.elim
  | .get k f, K, h => by
    obtain ⟨rs, ws, h1, h2⟩ := vcT_ev (f (g k)) (show vcT G P (f (g k)) g wr (fun rs ws => K (k :: rs) ws) from h)
    refine ⟨k :: rs, ws, ?_, h2⟩
    simpa [vcT] using h1
  | .chk k t, K, h => by
    obtain ⟨rs, ws, h1, h2⟩ := vcT_ev t (show vcT G P t g wr (fun rs ws => K (k :: rs) ws) from h.2)
    refine ⟨k :: rs, ws, ⟨h.1, ?_⟩, h2⟩
    simpa using h1
  | .row xs i f, K, h => by
    have hr := List.getElem?_eq_getElem h.1.out.2
    obtain ⟨rs, ws, h3, h4⟩ := vcT_ev (f _) (h.2 _ ⟨hr.symm⟩)
    exact ⟨rs, ws, ⟨h.1, fun r e => by have e := e.out; rw [hr] at e; cases e; exact h3⟩, h4⟩
  | .byte s i f, K, h => by
    have hr : s[i.toNat]? = some (s[i.toNat]'h.1.out.2) := getElem?_pos s i.toNat h.1.out.2
    obtain ⟨rs, ws, h3, h4⟩ := vcT_ev (f _) (h.2 _ ⟨hr.symm⟩)
    exact ⟨rs, ws, ⟨h.1, fun r e => by have e := e.out; rw [hr] at e; cases e; exact h3⟩, h4⟩
  | .ival n f, K, h => by
    obtain ⟨rs, ws, h3, h4⟩ := vcT_ev (f _) (h _ ⟨rfl⟩)
    exact ⟨rs, ws, fun m e => by have e := e.out; subst e; exact h3, h4⟩
  | .bval n f, K, h => by
    obtain ⟨rs, ws, h3, h4⟩ := vcT_ev (f _) (h _ ⟨rfl⟩)
    exact ⟨rs, ws, fun m e => by have e := e.out; subst e; exact h3, h4⟩
  | .sval n f, K, h => by
    obtain ⟨rs, ws, h3, h4⟩ := vcT_ev (f _) (h _ ⟨rfl⟩)
    exact ⟨rs, ws, fun m e => by have e := e.out; subst e; exact h3, h4⟩
  | .lval n f, K, h => by
    obtain ⟨rs, ws, h3, h4⟩ := vcT_ev (f _) (h _ ⟨rfl⟩)
    exact ⟨rs, ws, fun m e => by have e := e.out; subst e; exact h3, h4⟩
  | .req p t, K, h => by
    obtain ⟨rs, ws, h3, h4⟩ := vcT_ev t h.2
    exact ⟨rs, ws, ⟨h.1, h3⟩, h4⟩
  | .ite b x y, K, h => by
    by_cases hb : b = true
    · rw [vcT, if_pos hb] at h
      obtain ⟨rs, ws, h3, h4⟩ := vcT_ev x h
      exact ⟨rs, ws, by rw [vcT, if_pos hb]; exact h3, h4⟩
    · rw [vcT, if_neg hb] at h
      obtain ⟨rs, ws, h3, h4⟩ := vcT_ev y h
      exact ⟨rs, ws, by rw [vcT, if_neg hb]; exact h3, h4⟩
  | .call fn args f, K, h => by
    obtain ⟨res, ow, h0, h2⟩ := h
    obtain ⟨rs, ws, h3, h4⟩ := vcT_ev (f res ow) h2
    exact ⟨rs, ws, ⟨res, ow, h0, h3⟩, h4⟩
theorem vcT_local {G : World → Prop} {P : Program} {g g' : Key → C} {wr wr' : Key → Bool} : ∀ (t : T) {rs0 rs : List Key} {ws : List (Key × C)},
    vcT G P t g wr (fun r v => rs0 ++ r = rs ∧ v = ws) → (∀ k, k ∈ rs → g' k = g k) → (∀ k, k ∈ rs → wr k = false → wr' k = false) → vcT G P t g' wr' (fun r v => rs0 ++ r = rs ∧ v = ws)
  | .ret ws, rs0, rs, _, h, _, _ => h
  | .fail, _, _, _, h, _, _ => h
  | .get k f, rs0, rs, ws, h, hg, hw => by
    have h' : vcT G P (f (g k)) g wr (fun r v => (rs0 ++ [k]) ++ r = rs ∧ v = ws) := by simpa [vcT] using h
    have hk : k ∈ rs := by
      obtain ⟨r, v, _, h2, _⟩ := vcT_ev _ h'
      rw [← h2]; simp
    have := vcT_local (f (g k)) h' hg hw
    show vcT G P (f (g' k)) g' wr' _
    rw [hg k hk]
    simpa using this
  | .chk k t, rs0, rs, ws, h, hg, hw => by
    have h' : vcT G P t g wr (fun r v => (rs0 ++ [k]) ++ r = rs ∧ v = ws) := by simpa using h.2
    have hk : k ∈ rs := by
      obtain ⟨r, v, _, h2, _⟩ := vcT_ev _ h'
      rw [← h2]; simp
    have := vcT_local t h' hg hw
    exact ⟨hw k hk h.1, by simpa using this⟩
  | .row xs i f, rs0, rs, ws, h, hg, hw => ⟨h.1, fun r e => vcT_local (f r) (h.2 r e) hg hw⟩
  | .byte s i f, rs0, rs, ws, h, hg, hw => ⟨h.1, fun r e => vcT_local (f r) (h.2 r e) hg hw⟩
  | .ival n f, rs0, rs, ws, h, hg, hw => fun m e => vcT_local (f m) (h m e) hg hw
  | .bval n f, rs0, rs, ws, h, hg, hw => fun m e => vcT_local (f m) (h m e) hg hw
  | .sval n f, rs0, rs, ws, h, hg, hw => fun m e => vcT_local (f m) (h m e) hg hw
  | .lval n f, rs0, rs, ws, h, hg, hw => fun m e => vcT_local (f m) (h m e) hg hw
  | .req p t, rs0, rs, ws, h, hg, hw => ⟨h.1, vcT_local t h.2 hg hw⟩
  | .ite b x y, rs0, rs, ws, h, hg, hw => by
    by_cases hb : b = true
    · rw [vcT, if_pos hb] at h ⊢
      exact vcT_local x h hg hw
    · rw [vcT, if_neg hb] at h ⊢
      exact vcT_local y h hg hw
  | .call fn args f, rs0, rs, ws, ⟨res, ow, h0, h2⟩, hg, hw => ⟨res, ow, h0, vcT_local (f res ow) h2 hg hw⟩

/-- What a computation that asks nothing of memory yields. -/
def pureRun {α : Type} (P : Program) : Sem α → Option α
  | .pure a => some a
  | .program k => pureRun P (k P)
  | .mark _ k => pureRun P k
  | _ => none
theorem pureRun_run {α : Type} {P : Program} : ∀ {s : Sem α} {v : α}, pureRun P s = some v → ∀ w, s.run P w = .ok v w
  | .pure a, v, h, w => by cases h; rfl
  | .program k, v, h, w => pureRun_run (s := k P) h w
  | .mark m k, v, h, w => pureRun_run (s := k) h w

/-! ### the operations -/
def cellP : Value → PV
  | .slice none 0 0 => .nil
  | v => .lit v
def constF : Value → FV
  | .slice none 0 0 => .pv .nil
  | .agg cs => if cs.toList.all Value.oneCell' then .pv (.agg (cs.toList.map cellP)) else .un
  | .tuple _ => .un
  | v => .pv (.lit v)
def opnd (x : Operand) (f : C → T) : T :=
  match x with
  | .tmp t => .get (.t t) f
  | .const v => f ⟨constF v, none, none⟩
  | .global g => f ⟨.pv (.lit (.pointer (some ⟨g, 0, none⟩))), none, none⟩
  | .func n => f ⟨.pv (.lit (.func (.func n) #[] #[])), none, none⟩
def W (dst : Option Tmp) (c : C) : T :=
  match dst with
  | some d => .ret [(.t d, c)]
  | none => .ret []
def WV (dst : Option Tmp) (x : FV) : T := W dst ⟨x, none, none⟩
def WP (dst : Option Tmp) (p : PV) : T := W dst ⟨.pv p, none, none⟩
def isAggD : TypeDesc → Bool
  | .struct _ | .array _ _ => true
  | _ => false
def FV.isUn : FV → Bool
  | .un => true
  | _ => false
/-- The cells of a value of n cells. -/
def cellsP : PV → Option (List PV)
  | .lit v => some [.lit v]
  | .nil => some [.nil]
  | .sl xs => some [.sl xs]
  | .agg cs => some cs
  | .tup _ => none
def getN (i : Nat) : Nat → Nat → (List PV → T) → T
  | _, 0, f => f []
  | o, n + 1, f => .get (.b i o) fun c => match c.v with
    | .pv p => if p.one = true then getN i (o + 1) n (fun ps => f (p :: ps)) else .fail
    | _ => .fail
/-- All cells from there on are there. -/
def hasN (i : Nat) : Nat → Nat → T → T
  | _, 0, t => t
  | o, n + 1, t => .get (.b i o) fun c => if c.v.isUn = true then .fail else hasN i (o + 1) n t
def opnds : List Operand → (List C → T) → T
  | [], f => f []
  | x :: xs, f => opnd x fun c => opnds xs fun cs => f (c :: cs)
def pvs : List C → Option (List PV)
  | [] => some []
  | c :: cs => match c.v, pvs cs with
    | .pv p, some ps => some (p :: ps)
    | _, _ => none
def tmpOf : Operand → Option Key
  | .tmp t => some (.t t)
  | _ => none
def tBox (d : Tmp) (cs : List PV) : T :=
  .get (.al d) fun ca => if ca.v.isUn = true then .ret ((.al d, liveC) :: (boxW d 0 cs ++ [(.t d, ⟨.ptr d 0, none, none⟩)])) else .fail
def tLoad (τ : Tau) (dst : Option Tmp) (t : TypeId) (c : C) : T :=
  match c.v, τ t with
  | .ptr i o, some ti => if isAggD ti.desc = true then getN i o ti.size (fun ps => WP dst (.agg ps)) else .get (.b i o) fun cc => if cc.v.isUn = true then .fail else W dst ⟨cc.v, none, some (.b i o)⟩
  | .ept row j, some ti => if isAggD ti.desc = true then (if ((row.drop j).take ti.size).length = ti.size ∧ ((row.drop j).take ti.size).all PV.one = true then WP dst (.agg ((row.drop j).take ti.size)) else .fail) else match row[j]? with
    | some p => if p.one = true then WP dst p else .fail
    | none => .fail
  | _, _ => .fail
def storeOwn (cx : C) (k : Option Key) (cs : List PV) : Option ((TypeId × Nat) × Key × PV) :=
  match cx.own, k, cs with
  | some ow, some kx, [q] => some (ow, kx, q)
  | _, _, _ => none
theorem storeOwn_some {cx : C} {k : Option Key} {cs : List PV} {ow : TypeId × Nat} {kx : Key} {q : PV} (h : storeOwn cx k cs = some (ow, kx, q)) : cx.own = some ow ∧ k = some kx ∧ cs = [q] := by
  unfold storeOwn at h
  split at h
  · rename_i h1; cases h; exact ⟨h1, rfl, rfl⟩
  · cases h
def tStore (τ : Tau) (t : TypeId) (x : Operand) (ca cx : C) : T :=
  match ca.v, cx.v, τ t with
  | .ptr i o, .pv p, some ti =>
    match cellsP p with
    | some cs => if cs.length = ti.size then (match storeOwn cx (tmpOf x) cs with
      | some (ow, kx, q) => .get (.b i o) fun old => if old.v.isUn = true then .fail else .ret [(kx, ⟨cx.v, none, cx.frm⟩), (.b i o, ⟨.pv q, some ow, none⟩)]
      | none => hasN i o cs.length (.ret (boxW i o cs))) else .fail
    | none => .fail
  | _, _, _ => .fail
/-- Are two structs of scalars alike? -/
def eqLit (d : TypeDesc) (u v : PV) : Option (Unit → Bool) :=
  match d, u, v with
  | .int _, .lit (.int k a), .lit (.int k' b) => if k = k' then some (fun _ => decide (a = b)) else none
  | .string, .lit (.string a), .lit (.string b) => some (fun _ => decide (a = b))
  | .bool, .lit (.bool a), .lit (.bool b) => some (fun _ => decide (a = b))
  | _, _, _ => none
def eqFs (τ : Tau) : List Field → List PV → List PV → Option (Unit → Bool)
  | [], _, _ => some (fun _ => true)
  | f :: fs, as, bs => if f.name = "_" then none else match τ f.type, as[f.offset]?, bs[f.offset]?, eqFs τ fs as bs with
    | some ti, some u, some v, some r => match eqLit ti.desc u v with
      | some q => some (fun _ => q () && r ())
      | none => none
    | _, _, _, _ => none
def tEqS (τ : Tau) (dst : Option Tmp) (neg : Bool) (ty : TypeId) (as bs : List PV) : T :=
  match τ ty with
  | some ti => match ti.desc with
    | .struct fs => if ti.eqOK () = true then (match eqFs τ fs.toList as bs with
      | some q => .bval (fun _ => if neg = true then !(q ()) else q ()) fun b => WP dst (.lit (.bool b))
      | none => .fail) else .fail
    | _ => .fail
  | none => .fail
def tBin (P : Program) (τ : Tau) (dst : Option Tmp) (op : BinOp) (ty : TypeId) (x y : Operand) (cx cy : C) : T :=
  match cx.v, cy.v with
  | .pv (.lit a), .pv (.lit b) =>
    match op, a, b with
    | .add, .int k m, .int k' n => if k = k' then .ival (fun _ => (k.wrap (m + n))) fun r => WP dst (.lit (.int k r)) else .fail
    | .sub, .int k m, .int k' n => if k = k' then .ival (fun _ => (k.wrap (m - n))) fun r => WP dst (.lit (.int k r)) else .fail
    | .mul, .int k m, .int k' n => if k = k' then .ival (fun _ => (k.wrap (m * n))) fun r => WP dst (.lit (.int k r)) else .fail
    | .eql, .int k m, .int k' n => if k = k' then .bval (fun _ => (decide (m = n))) fun b => WP dst (.lit (.bool b)) else .fail
    | .neq, .int k m, .int k' n => if k = k' then .bval (fun _ => (decide (m ≠ n))) fun b => WP dst (.lit (.bool b)) else .fail
    | .lss, .int k m, .int k' n => if k = k' then .bval (fun _ => (decide (m < n))) fun b => WP dst (.lit (.bool b)) else .fail
    | .leq, .int k m, .int k' n => if k = k' then .bval (fun _ => (decide (m ≤ n))) fun b => WP dst (.lit (.bool b)) else .fail
    | .gtr, .int k m, .int k' n => if k = k' then .bval (fun _ => (decide (n < m))) fun b => WP dst (.lit (.bool b)) else .fail
    | .geq, .int k m, .int k' n => if k = k' then .bval (fun _ => (decide (n ≤ m))) fun b => WP dst (.lit (.bool b)) else .fail
    | .add, .string s, .string u => .req (fun _ => s.size + u.size ≤ 9223372036854775807) (.sval (fun _ => (s ++ u)) fun r => WP dst (.lit (.string r)))
    | .eql, .string s, .string u => .bval (fun _ => (decide (s = u))) fun b => WP dst (.lit (.bool b))
    | .neq, .string s, .string u => .bval (fun _ => (decide (s ≠ u))) fun b => WP dst (.lit (.bool b))
    | .lss, .string s, .string u => .bval (fun _ => (Op.bytesLess s.toList u.toList)) fun b => WP dst (.lit (.bool b))
    | .geq, .string s, .string u => .bval (fun _ => (!(Op.bytesLess s.toList u.toList))) fun b => WP dst (.lit (.bool b))
    | .leq, .string s, .string u => .bval (fun _ => (Op.bytesLess s.toList u.toList || s.toList == u.toList)) fun b => WP dst (.lit (.bool b))
    | .gtr, .string s, .string u => .bval (fun _ => (!(Op.bytesLess s.toList u.toList || s.toList == u.toList))) fun b => WP dst (.lit (.bool b))
    | .eql, .bool s, .bool u => match τ ty with
      | some ⟨.bool, _, _, _, _⟩ => .bval (fun _ => (decide (s = u))) fun b => WP dst (.lit (.bool b))
      | _ => .fail
    | .neq, .bool s, .bool u => match τ ty with
      | some ⟨.bool, _, _, _, _⟩ => .bval (fun _ => (decide (s ≠ u))) fun b => WP dst (.lit (.bool b))
      | _ => .fail
    | .quo, .int k m, .int k' n => match pureRun P (Op.intDiv .quo k m n) with
      | some v => if k = k' then (if v.oneCell' = true then WP dst (.lit v) else .fail) else .fail
      | none => .fail
    | .rem, .int k m, .int k' n => match pureRun P (Op.intDiv .rem k m n) with
      | some v => if k = k' then (if v.oneCell' = true then WP dst (.lit v) else .fail) else .fail
      | none => .fail
    | _, _, _ => .fail
  | .pv (.agg as), .pv (.agg bs) => match op with
    | .eql => tEqS τ dst false ty as bs
    | .neq => tEqS τ dst true ty as bs
    | _ => .fail
  | _, _ => .fail
def tUn (P : Program) (dst : Option Tmp) (op : UnOp) (c : C) : T :=
  match c.v with
  | .pv (.lit a) => match op, a with
    | .not, .bool b => .bval (fun _ => (!b)) fun b => WP dst (.lit (.bool b))
    | .neg, .int k n => .ival (fun _ => (k.wrap (0 - n))) fun r => WP dst (.lit (.int k r))
    | _, _ => .fail
  | _ => .fail
def tConv (τ : Tau) (dst : Option Tmp) (src ty : TypeId) (c : C) : T :=
  match c.v, τ src, τ ty with
  | .pv (.lit (.int _ n)), some s, some d => match d.desc with
    | .int k => .ival (fun _ => (k.wrap n)) fun r => WP dst (.lit (.int k r))
    | _ => .fail
  | _, _, _ => .fail
def tField (τ : Tau) (dst : Option Tmp) (ty : TypeId) (f : Nat) (c : C) : T :=
  match c.v, τ ty with
  | .pv (.agg cs), some ti => match ti.desc with
    | .struct fs => match fs[f]? with
      | some fd => match τ fd.type with
        | some ft => if isAggD ft.desc = true then (if ((cs.drop fd.offset).take ft.size).length = ft.size then WP dst (.agg ((cs.drop fd.offset).take ft.size)) else .fail) else (match cs[fd.offset]? with
          | some p => if p.one = true then WP dst p else .fail
          | none => .fail)
        | none => .fail
      | none => .fail
    | _ => .fail
  | _, _ => .fail
def tFieldAddr (τ : Tau) (dst : Option Tmp) (ty : TypeId) (f : Nat) (c : C) : T :=
  match τ ty with
  | some ti => match ti.desc with
    | .struct fs => match fs[f]? with
      | some fd => match τ fd.type with
        | some ft => if ft.size = 0 then .fail else (match c.v with
          | .ptr i o => WV dst (.ptr i (o + fd.offset))
          | .ept row j => WV dst (.ept row (j + fd.offset))
          | _ => .fail)
        | none => .fail
      | none => .fail
    | _ => .fail
  | none => .fail
def rowT (dst : Option Tmp) (size : Nat) (xs : List (List PV)) (i : Int) : T := .row xs i fun r => if r.length = size then WV dst (.ept r 0) else .fail
def tIndexAddr (τ : Tau) (dst : Option Tmp) (ty : TypeId) (cx ci : C) : T :=
  match τ ty with
  | some ti => match ti.desc, cx.v, ci.v with
    | .slice e, .pv (.sl xs), .pv (.lit (.int k i)) => match τ e with
      | some te => rowT dst te.size xs i
      | none => .fail
    | _, _, _ => .fail
  | none => .fail
def chunks (k : Nat) : Nat → List PV → List (List PV)
  | 0, _ => []
  | n + 1, cs => cs.take k :: chunks k n (cs.drop k)
def tIndex (τ : Tau) (dst : Option Tmp) (ty : TypeId) (cx ci : C) : T :=
  match τ ty with
  | some ti => match ti.desc, cx.v, ci.v with
    | .string, .pv (.lit (.string s)), .pv (.lit (.int k i)) => .byte s i fun b => .ival (fun _ => b.toNat) fun r => WP dst (.lit (.int .u8 r))
    | .array n e, .pv (.agg cs), .pv (.lit (.int k i)) => match τ e with
      | some te => if isAggD te.desc = true then .fail else if te.size = 1 then (if cs.length = n then .row (cs.map fun c => [c]) i fun r => (match r with
        | [p] => if p.one = true then WP dst p else .fail
        | _ => .fail) else .fail) else .fail
      | none => .fail
    | _, _, _ => .fail
  | none => .fail
def sliceT (dst : Option Tmp) (size : Nat) (xs : List (List PV)) (lo hi : Option C) : T :=
  match lo, hi with
  | none, none => WP dst (.sl xs)
  | some l, none => match l.v with
    | .pv (.lit (.int _ l)) => .req (fun _ => 0 ≤ l ∧ l ≤ xs.length ∧ ∀ r, r ∈ xs → r.length = size) (.lval (fun _ => (xs.drop l.toNat)) fun r => WP dst (.sl r))
    | _ => .fail
  | none, some h => match h.v with
    | .pv (.lit (.int _ h)) => .req (fun _ => 0 ≤ h ∧ h ≤ xs.length ∧ ∀ r, r ∈ xs → r.length = size) (.lval (fun _ => (xs.take h.toNat)) fun r => WP dst (.sl r))
    | _ => .fail
  | some l, some h => match l.v, h.v with
    | .pv (.lit (.int _ l)), .pv (.lit (.int _ h)) => .req (fun _ => 0 ≤ l ∧ l ≤ h ∧ h ≤ xs.length ∧ ∀ r, r ∈ xs → r.length = size) (.lval (fun _ => ((xs.take h.toNat).drop l.toNat)) fun r => WP dst (.sl r))
    | _, _ => .fail
def tSlice (τ : Tau) (dst : Option Tmp) (ty : TypeId) (cx : C) (lo hi : Option C) : T :=
  match τ ty with
  | some ti => match ti.desc, cx.v with
    | .string, .pv (.lit (.string s)) => match lo, hi with
      | none, none => (.sval (fun _ => (s.extract 0 s.size)) fun r => WP dst (.lit (.string r)))
      | some l, none => match l.v with
        | .pv (.lit (.int _ l)) => .req (fun _ => 0 ≤ l ∧ l ≤ s.size) ((.sval (fun _ => (s.extract l.toNat s.size)) fun r => WP dst (.lit (.string r))))
        | _ => .fail
      | none, some h => match h.v with
        | .pv (.lit (.int _ h)) => .req (fun _ => 0 ≤ h ∧ h ≤ s.size) ((.sval (fun _ => (s.extract 0 h.toNat)) fun r => WP dst (.lit (.string r))))
        | _ => .fail
      | some l, some h => match l.v, h.v with
        | .pv (.lit (.int _ l)), .pv (.lit (.int _ h)) => .req (fun _ => 0 ≤ l ∧ l ≤ h ∧ h ≤ s.size) ((.sval (fun _ => (s.extract l.toNat h.toNat)) fun r => WP dst (.lit (.string r))))
        | _, _ => .fail
    | .slice e, .pv (.sl xs) => match τ e with
      | some te => if te.size = 0 then .fail else sliceT dst te.size xs lo hi
      | none => .fail
    | _, _ => .fail
  | none => .fail
/-- Parts laid into cells. -/
def setCs (cs : List PV) : Nat → List PV → List PV
  | _, [] => cs
  | o, p :: ps => setCs (cs.set o p) (o + 1) ps
def layParts (place : Nat → Option (Nat × Nat)) : List PV → List (Nat × PV) → Option (List PV)
  | cs, [] => some cs
  | cs, (i, p) :: rest => match place i, cellsP p with
    | some (off, size), some ps => if ps.length = size ∧ off + ps.length ≤ cs.length then layParts place (setCs cs off ps) rest else none
    | _, _ => none
def placesOf (τ : Tau) : List Field → Option (List (Nat × Nat))
  | [] => some []
  | f :: fs => match τ f.type, placesOf τ fs with
    | some ft, some r => some ((f.offset, ft.size) :: r)
    | _, _ => none
def tBuild (τ : Tau) (dst : Option Tmp) (ty : TypeId) (is : List Nat) (cs : List C) : T :=
  match τ ty, pvs cs with
  | some ti, some ps => match ti.desc with
    | .struct fs => match placesOf τ fs.toList with
      | some pl => match layParts (fun i => pl[i]?) (ti.zero.cells.toList.map cellP) (is.zip ps) with
        | some r => WP dst (.agg r)
        | none => .fail
      | none => .fail
    | .array _ e => match τ e with
      | some te => match layParts (fun i => some (i * te.size, te.size)) (ti.zero.cells.toList.map cellP) (is.zip ps) with
        | some r => WP dst (.agg r)
        | none => .fail
      | none => .fail
    | _ => .fail
  | _, _ => .fail
/-- Rows of so many cells each. -/
def rowsOf (k : Nat) : List PV → Option (List (List PV))
  | [] => some []
  | p :: ps => match cellsP p, rowsOf k ps with
    | some cs, some r => if cs.length = k then some (cs.map PV.n1 :: r) else none
    | _, _ => none
def tBuildSlice (τ : Tau) (dst : Option Tmp) (ty : TypeId) (len : Nat) (is : List Nat) (cs : List C) : T :=
  match τ ty, pvs cs with
  | some ti, some ps => match ti.desc with
    | .slice e => match τ e with
      | some te => if is = List.range len ∧ len * te.size ≤ 16777216 ∧ 0 < te.size then (match rowsOf te.size ps with
        | some xs => if xs.length = len then W dst ⟨.pv (.sl xs), some (e, te.size), none⟩ else .fail
        | none => .fail) else .fail
      | none => .fail
    | _ => .fail
  | _, _ => .fail
def lenT (dst : Option Tmp) (τ : Tau) (ty : TypeId) (c : C) : T :=
  match τ ty with
  | some ti => match ti.desc, c.v with
    | .slice _, .pv (.sl xs) => .ival (fun _ => xs.length) fun r => WP dst (.lit (.int .i64 r))
    | .slice _, .pv .nil => WP dst (.lit (.int .i64 0))
    | .string, .pv (.lit (.string s)) => .ival (fun _ => s.size) fun r => WP dst (.lit (.int .i64 r))
    | .array n _, _ => WP dst (.lit (.int .i64 n))
    | _, _ => .fail
  | none => .fail
/-- append: rows `ys` behind a list; 'ow' the key whose own the list is. -/
def appT (dst : Option Tmp) (size bytes : Nat) (e : TypeId) (xs ys : List (List PV)) (ws : List (Key × C)) : T :=
  .req (fun _ => (xs.length + ys.length) * bytes ≤ 140737488355328 ∧ (∀ r, r ∈ xs → r.length = size) ∧ (∀ r, r ∈ ys → r.length = size)) (match dst with
    | some d => .lval (fun _ => (xs ++ ys)) fun r => .ret (ws ++ [(.t d, ⟨.pv (.sl r), some (e, size), none⟩)])
    | none => .fail)
def tAppend (τ : Tau) (dst : Option Tmp) (ty : TypeId) (x : Operand) (cx cy : C) : T :=
  match τ ty with
  | some ti => match ti.desc with
    | .slice e => match τ e with
      | some te => if te.size = 0 then .fail else if te.bytes = 0 then .fail else
        match (match cy.v with | .pv (.sl ys) => some ys | .pv .nil => some [] | _ => none) with
        | none => .fail
        | some ys => match cx.v with
          | .pv .nil => appT dst te.size te.bytes e [] ys []
          | .pv (.sl xs) => match tmpOf x with
            | none => .fail
            | some kx => match cx.own with
              | some (e', k') => if e' = e ∧ k' = te.size then appT dst te.size te.bytes e xs ys [(kx, ⟨cx.v, none, cx.frm⟩)] else .fail
              | none => match cx.frm with
                | none => .fail
                | some kf => .get kf fun cf => .chk kf (match cf.own with
                  | some (e', k') => if e' = e ∧ k' = te.size then appT dst te.size te.bytes e xs ys [(kf, ⟨cf.v, none, cf.frm⟩)] else .fail
                  | none => .fail)
          | _ => .fail
      | none => .fail
    | _ => .fail
  | none => .fail
def tMaxMin (dst : Option Tmp) (mx : Bool) (ca cb : C) : T :=
  match ca.v, cb.v with
  | .pv (.lit (.int k x)), .pv (.lit (.int _ y)) => .ival (fun _ => (if mx = true then max x y else min x y)) fun r => WP dst (.lit (.int k r))
  | _, _ => .fail
def tCall (P : Program) (τ : Tau) (o : Oper) (c : Call) : T :=
  match c.callee with
  | .value f => opnd f fun cf => match cf.v with
    | .pv (.lit (.func (.func fid) first cap)) => if first.size = 0 ∧ cap.size = 0 then opnds c.args.toList fun cs => (match pvs cs with
      | some ps => .call fid (ps.map PV.norm) fun res ow => W o.dst ⟨.pv res, ow, none⟩
      | none => .fail) else .fail
    | _ => .fail
  | .invoke _ _ => .fail
  | .builtin b => match b, c.args.toList, c.argTypes.toList with
    | .len, [x], [t] => opnd x fun cx => lenT o.dst τ t cx
    | .append, [x, y], [t, t'] => if t = t' then opnd x fun cx => opnd y fun cy => tAppend τ o.dst t x cx cy else .fail
    | .max, [x, y], _ => opnd x fun cx => opnd y fun cy => tMaxMin o.dst true cx cy
    | .min, [x, y], _ => opnd x fun cx => opnd y fun cy => tMaxMin o.dst false cx cy
    | _, _, _ => .fail
def opT (P : Program) (τ : Tau) (o : Oper) : T :=
  match o.op with
  | .move x => opnd x fun c => W o.dst ⟨c.v, none, tmpOf x⟩
  | .assign x => opnd x fun c => match c.own, tmpOf x, o.dst with
    | some p, some kx, some d => .ret [(kx, ⟨c.v, none, c.frm⟩), (.t d, ⟨c.v, some p, none⟩)]
    | _, _, _ => WV o.dst c.v
  | .pick c a b => opnd c fun cc => match cc.v with
    | .pv (.lit (.bool t)) => .ite t (opnd a fun ca => WV o.dst ca.v) (opnd b fun cb => WV o.dst cb.v)
    | _ => .fail
  | .alloc e => match o.dst, τ e with
    | some d, some ti => tBox d (ti.zero.cells.toList.map cellP)
    | _, _ => .fail
  | .box e x => opnd x fun c => match o.dst, c.v with
    | some d, .pv p => match cellsP p with
      | some cs => tBox d cs
      | none => .fail
    | _, _ => .fail
  | .build t parts => opnds (parts.toList.map (·.2)) fun cs => tBuild τ o.dst t (parts.toList.map (·.1)) cs
  | .buildSlice t len parts => opnds (parts.toList.map (·.2)) fun cs => tBuildSlice τ o.dst t len (parts.toList.map (·.1)) cs
  | .load t a => opnd a fun c => tLoad τ o.dst t c
  | .store t a x => opnd a fun ca => opnd x fun cx => match o.dst with
    | none => tStore τ t x ca cx
    | some _ => .fail
  | .nilCheck x => opnd x fun c => match c.v with
    | .ptr _ _ => WV o.dst c.v
    | .ept _ _ => WV o.dst c.v
    | .pv (.lit (.func (.func _) _ _)) => WV o.dst c.v
    | _ => .fail
  | .binOp op ty x y _ => opnd x fun cx => opnd y fun cy => tBin P τ o.dst op ty x y cx cy
  | .unOp op _ x => opnd x fun c => tUn P o.dst op c
  | .convert s d x => opnd x fun c => tConv τ o.dst s d c
  | .slice t x lo hi none => opnd x fun cx => match lo, hi with
    | none, none => tSlice τ o.dst t cx none none
    | some l, none => opnd l fun cl => tSlice τ o.dst t cx (some cl) none
    | none, some h => opnd h fun ch => tSlice τ o.dst t cx none (some ch)
    | some l, some h => opnd l fun cl => opnd h fun ch => tSlice τ o.dst t cx (some cl) (some ch)
  | .fieldAddr t x f => opnd x fun c => tFieldAddr τ o.dst t f c
  | .field t x f => opnd x fun c => tField τ o.dst t f c
  | .indexAddr t x ix => opnd x fun cx => opnd ix fun ci => tIndexAddr τ o.dst t cx ci
  | .index t x ix => opnd x fun cx => opnd ix fun ci => tIndex τ o.dst t cx ci
  | .extract x ix => opnd x fun c => match c.v with
    | .pv (.tup vs) => match vs[ix]? with
      | some p => WP o.dst p
      | none => .fail
    | _ => .fail
  | .call c => tCall P τ o c
  | _ => .fail

/-! ### the state, as it is computed with -/
structure St where
  tmps : List C
  boxes : List (Nat × List C)
def unC : C := ⟨.un, none, none⟩
def getB : List (Nat × List C) → Nat → Option (List C)
  | [], _ => none
  | (j, cs) :: r, i => if j = i then some cs else getB r i
def setB : List (Nat × List C) → Nat → Nat → C → List (Nat × List C)
  | [], _, _, _ => []
  | (j, cs) :: r, i, o, c => if j = i then (j, cs.set o c) :: r else (j, cs) :: setB r i o c
def getL : List C → Nat → C
  | [], _ => unC
  | c :: _, 0 => c
  | _ :: cs, n + 1 => getL cs n
def St.get (s : St) : Key → C
  | .t i => getL s.tmps i
  | .b i o => match getB s.boxes i with
    | some cs => getL cs o
    | none => unC
  | .al i => match getB s.boxes i with
    | some _ => liveC
    | none => unC
end Go.Proofs.YtpflimghkckpjaaGreatDoor.B

set_option linter.unusedVariables false
set_option linter.unusedSimpArgs false
set_option linter.unnecessarySimpa false
namespace Go.Proofs.YtpflimghkckpjaaGreatDoor.B
open Go.RowKit

def setL : List C → Nat → C → List C
  | [], _, _ => []
  | _ :: cs, 0, c => c :: cs
  | d :: cs, n + 1, c => d :: setL cs n c
def putL : List C → Nat → C → List C
  | [], 0, c => [c]
  | [], _ + 1, _ => []
  | _ :: cs, 0, c => c :: cs
  | d :: cs, n + 1, c => d :: putL cs n c
def putB : List (Nat × List C) → Nat → Nat → C → List (Nat × List C)
  | [], _, _, _ => []
  | (j, cs) :: r, i, o, c => if j = i then (j, putL cs o c) :: r else (j, cs) :: putB r i o c
def St.set (s : St) (κ : Key) (c : C) : St :=
  match κ with
  | .t i => ⟨setL s.tmps i c, s.boxes⟩
  | .b i o => ⟨s.tmps, putB s.boxes i o c⟩
  | .al i => ⟨s.tmps, (i, []) :: s.boxes⟩
def St.sets (s : St) : List (Key × C) → St
  | [] => s
  | (κ, c) :: ws => (s.set κ c).sets ws
def keysOf : List (Key × C) → List Key
  | [] => []
  | (κ, _) :: ws => κ :: keysOf ws
def memK : Key → List Key → Bool
  | _, [] => false
  | κ, κ' :: r => if κ = κ' then true else memK κ r
def memN : Nat → List Nat → Bool
  | _, [] => false
  | κ, κ' :: r => if κ = κ' then true else memN κ r
/-- The write lands. -/
def validW (s : St) (κ : Key) (c : C) : Bool :=
  match κ with
  | .t i => Nat.blt i s.tmps.length
  | .b i o => match getB s.boxes i with
    | some cs => Nat.ble o cs.length
    | none => false
  | .al i => match getB s.boxes i, c with
    | none, ⟨.pv .nil, none, none⟩ => true
    | _, _ => false
def St.valid (s : St) : List (Key × C) → Bool
  | [] => true
  | (κ, c) :: ws => validW s κ c && (s.set κ c).valid ws
def skC : C := ⟨.pv (.tup []), none, none⟩
def skipT (o : Oper) : T :=
  match o.dst with
  | some d' => .ret [(.t d', skC)]
  | none => .ret []
def guardT (want b : Bool) (x y : T) : T :=
  match want with
  | true => .ite b x y
  | false => .ite b y x
/-- The operation, if it is wanted. -/
def gT (P : Program) (τ : Tau) (ops : List Oper) (o : Oper) : T :=
  match o.guard with
  | none => opT P τ o
  | some (j, want) => match ops[j]? with
    | some oj => match oj.dst with
      | some d => .get (.t d) fun c => match c.v with
        | .pv (.lit (.bool b)) => guardT want b (opT P τ o) (skipT o)
        | .pv (.tup []) => skipT o
        | _ => .fail
      | none => .fail
    | none => .fail
def dstOK (N : Nat) (o : Oper) : Bool :=
  match o.dst with
  | some d => Nat.blt d N
  | none => true
abbrev Trace := List (List Key × List Key)
def vcOps (G : World → Prop) (P : Program) (τ : Tau) (N : Nat) (ops : List Oper) : List Oper → St → List Key → Trace → (St → Trace → Prop) → Prop
  | [], s, L, tr, K => K s tr
  | o :: rest, s, L, tr, K => if dstOK N o = true then
      vcT G P (gT P τ ops o) s.get (fun κ => memK κ L) (fun rs ws => if s.valid ws = true then vcOps G P τ N ops rest (s.sets ws) (keysOf ws ++ L) ((rs, keysOf ws) :: tr) K else False) else False
/-! ### may operations be carried out in another order? -/
def union : List Nat → List Nat → List Nat
  | [], b => b
  | x :: a, b => if memN x b = true then union a b else x :: union a b
def directOf (o : Oper) : List Nat := (o.after.toList.filter (Region.binds .any)).map (·.on)
def nthL : List (List Nat) → Nat → List Nat
  | [], _ => []
  | c :: _, 0 => c
  | _ :: cs, n + 1 => nthL cs n
def befFrom (acc : List (List Nat)) : List Nat → List Nat
  | [] => []
  | i :: r => union [i] (union (nthL acc i) (befFrom acc r))
def befs : List (List Nat) → List Oper → List (List Nat)
  | acc, [] => acc
  | acc, o :: r => befs (acc ++ [befFrom acc (directOf o)]) r
def meet : List Key → List Key → Bool
  | [], _ => false
  | κ :: a, b => memK κ b || meet a b
def conflict (x y : List Key × List Key) : Bool := meet x.2 y.1 || meet x.2 y.2 || meet y.2 x.1
def chkRow (bf : List Nat) (y : List Key × List Key) : Nat → Trace → Bool
  | _, [] => true
  | i, x :: r => (!(conflict x y) || memN i bf) && chkRow bf y (i + 1) r
def chkAll (bs : List (List Nat)) (all : Trace) : Nat → Trace → Bool
  | _, [] => true
  | j, y :: r => chkRow (nthL bs j) y 0 (all.take j) && chkAll bs all (j + 1) r
/-- The trace was kept backwards. -/
def backOK : Nat → List Oper → Bool
  | _, [] => true
  | i, o :: r => (directOf o).all (fun j => Nat.blt j i) && backOK (i + 1) r
def orderOK (ops : List Oper) (tr : Trace) : Bool := backOK 0 ops && chkAll (befs [] ops) tr.reverse 0 tr.reverse
def clrL : List C → List C
  | [] => []
  | c :: cs => ⟨c.v, c.own, none⟩ :: clrL cs
def St.clear (s : St) : St := ⟨clrL s.tmps, s.boxes⟩
inductive Ex where
  | normal
  | exit (id : Nat)
  | ret
/-! ### what a loop's head keeps -/
def keepL (ks : List Nat) : Nat → List C → List C
  | _, [] => []
  | i, c :: cs => (if memN i ks = true then c else unC) :: keepL ks (i + 1) cs
def keepB (bs : List Nat) : List (Nat × List C) → List (Nat × List C)
  | [] => []
  | (i, cs) :: r => if memN i bs = true then (i, cs) :: keepB bs r else keepB bs r
def St.keep (s : St) (ks bs : List Nat) : St := ⟨keepL ks 0 s.tmps, keepB bs s.boxes⟩
def cle (c d : C) : Prop :=
  match d.v, d.own, d.frm with
  | .un, none, none => True
  | .pv (.sl xs), ow, none => match c.v with
    | .pv .nil => xs = []
    | v => v = .pv (.sl xs) ∧ (match ow with | none => True | some p => c.own = some p)
  | v, none, none => c.v = v
  | _, _, _ => False
def leL : List C → List C → Prop
  | [], [] => True
  | c :: cs, d :: ds => cle c d ∧ leL cs ds
  | _, _ => False
def leB (s : List (Nat × List C)) : List (Nat × List C) → Prop
  | [] => True
  | (i, ds) :: r => (match getB s i with | some cs => leL cs ds | none => False) ∧ leB s r
def ptrL (bx : List (Nat × List C)) : List C → Bool
  | [] => true
  | c :: cs => (match c.v with | .ptr i _ => (getB bx i).isSome | _ => true) && ptrL bx cs
def ptrB (bx : List (Nat × List C)) : List (Nat × List C) → Bool
  | [] => true
  | (_, cs) :: r => ptrL bx cs && ptrB bx r
def St.le (s t : St) : Prop := leL s.tmps t.tmps ∧ leB s.boxes t.boxes ∧ (ptrL t.boxes t.tmps && ptrB t.boxes t.boxes) = true
def St.val (s : St) : Operand → FV
  | .tmp t => (getL s.tmps t).v
  | .const v => constF v
  | _ => .un
def vc (G : World → Prop) (P : Program) (τ : Tau) (N : Nat) : Code → St → (Ex → St → Prop) → Prop
  | .skip, s, K => K .normal s
  | .label _, s, K => K .normal s
  | .region id ops draw, s, K => vcOps G P τ N ops.toList ops.toList s [] [] (fun s' tr => if (!draw || orderOK ops.toList tr) = true then K .normal s'.clear else False)
  | .seq a b, s, K => vc G P τ N a s (fun x s' => match x with
    | .normal => vc G P τ N b s' K
    | x => K x s')
  | .cond c a b, s, K => match s.val c with
    | .pv (.lit (.bool t)) => if t = true then vc G P τ N a s K else vc G P τ N b s K
    | _ => False
  | .block id b, s, K => vc G P τ N b s (fun x s' => match x with
    | .exit j => if j = id then K .normal s' else K (.exit j) s'
    | x => K x s')
  | .loop b, s, K => ∃ (ks bs : List Nat) (α : Type) (U : α → List (Key × C)) (I : α → Prop) (μ : α → Nat) (a0 : α), I a0 ∧ s.le ((s.keep ks bs).sets (U a0)) ∧
      ∀ a, I a → vc G P τ N b ((s.keep ks bs).sets (U a)) (fun x s' => match x with
        | .normal => ∃ a', I a' ∧ μ a' < μ a ∧ s'.le ((s.keep ks bs).sets (U a'))
        | x => K x s')
  | .exit id, s, K => K (.exit id) s
  | .ret, s, K => K .ret s
  | _, _, _ => False
/-! ### results -/
def cellsAt (s : St) (i : Nat) : Nat → Nat → Option (List PV)
  | _, 0 => some []
  | o, n + 1 => match (s.get (.b i o)).v, cellsAt s i (o + 1) n with
    | .pv p, some ps => if p.one = true then some (p :: ps) else none
    | _, _ => none
def resOne (τ : Tau) (s : St) : ResultVar → Option (PV × Own)
  | .tmp t => match getL s.tmps t with
    | ⟨.pv p, ow, _⟩ => some (p, ow)
    | _ => none
  | .cell q t => match (getL s.tmps q).v, τ t with
    | .ptr i o, some ti => match isAggD ti.desc with
      | true => match cellsAt s i o ti.size with
        | some ps => some (.agg ps, none)
        | none => none
      | false => match (s.get (.b i o)).v with
        | .pv p => some (p, none)
        | _ => none
    | _, _ => none
def resAll (τ : Tau) (s : St) : List ResultVar → Option (List PV)
  | [] => some []
  | r :: rs => match resOne τ s r, resAll τ s rs with
    | some (p, _), some ps => some (p :: ps)
    | _, _ => none
def resOf (τ : Tau) (s : St) (rs : List ResultVar) : Option (PV × Own) :=
  match rs with
  | [r] => resOne τ s r
  | rs => match resAll τ s rs with
    | some ps => some (.tup ps, none)
    | none => none
def ownLe (p : PV) (ow : Own) (want : Own) : Prop :=
  match want with
  | none => True
  | some w => p = .nil ∨ ow = some w
def post (τ : Tau) (rs : List ResultVar) (res : PV) (own : Own) : Ex → St → Prop
  | .exit _, _ => False
  | _, s => match resOf τ s rs with
    | some (p, ow) => p.norm = res ∧ ownLe p ow own
    | none => False
def St.init (args : List PV) (N : Nat) : St := ⟨args.map (fun p => ⟨.pv p, none, none⟩) ++ List.replicate (N - args.length) unC, []⟩
end Go.Proofs.YtpflimghkckpjaaGreatDoor.B

set_option linter.unusedVariables false
set_option linter.unusedSimpArgs false
set_option linter.unnecessarySimpa false
namespace Go.Proofs.YtpflimghkckpjaaGreatDoor.B
open Go.RowKit

structure TauOK (P : Program) (τ : Tau) : Prop where
  u : ∀ t d, τ t = some d → P.underlying t = some d.desc
  i : ∀ t d, τ t = some d → ∃ i, P.info? t = some i ∧ i.size = d.size ∧ i.bytes = d.bytes ∧ i.zero = some d.zero
  z : ∀ t d, τ t = some d → d.zero.cells.size = d.size ∧ d.zero.cells.toList.all Value.oneCell' = true
  e : ∀ t d, τ t = some d → d.eqOK () = true → P.stoodInHeld t = false ∧ P.eqGuardType P.depth t = false
def tauOf (P : Program) (eq : TypeId → Bool) : Tau := fun t =>
  match P.info? t, P.underlying t with
  | some i, some d => match i.zero with
    | some z => if z.cells.size = i.size ∧ z.cells.toList.all Value.oneCell' = true then some ⟨d, i.size, i.bytes, z, fun _ => eq t⟩ else none
    | none => none
  | _, _ => none
theorem tauOf_ok (P : Program) (eq : TypeId → Bool) (heq : ∀ t, eq t = true → P.stoodInHeld t = false ∧ P.eqGuardType P.depth t = false) : TauOK P (tauOf P eq) := by
  have key : ∀ t d, tauOf P eq t = some d → ∃ i, P.info? t = some i ∧ P.underlying t = some d.desc ∧ i.size = d.size ∧ i.bytes = d.bytes ∧ i.zero = some d.zero ∧ d.zero.cells.size = d.size ∧ d.zero.cells.toList.all Value.oneCell' = true ∧ (d.eqOK () = true → P.stoodInHeld t = false ∧ P.eqGuardType P.depth t = false) := by
    intro t d h
    unfold tauOf at h
    split at h
    · rename_i i d' hi hu
      split at h
      · rename_i z hz
        split at h
        · rename_i hc
          cases h
          exact ⟨i, hi, hu, rfl, rfl, hz, hc.1, hc.2, fun h => heq t h⟩
        · cases h
      · cases h
    · cases h
  exact ⟨fun t d h => (key t d h).choose_spec.2.1, fun t d h => let ⟨i, h1, _, h3, h4, h5, _⟩ := key t d h; ⟨i, h1, h3, h4, h5⟩, fun t d h => let ⟨_, _, _, _, _, _, h7, h8, _⟩ := key t d h; ⟨h7, h8⟩, fun t d h => (key t d h).choose_spec.2.2.2.2.2.2.2⟩

section
variable {G : World → Prop} {P : Program} {τ : Tau} {w0 : World} {S0 : Nat → Nat → Prop} {N : Nat} {wr : Key → Bool} {g : Key → C} {a : Act} {w : World} {β : Nat → Nat} {S : Nat → Nat → Prop}

theorem cellP_rep (v : Value) (h : v.oneCell' = true) : RepP S w v (cellP v) := by
  unfold cellP
  split
  · exact .nil
  · exact .lit _ h
theorem cellP_one (v : Value) : (cellP v).one = true := by unfold cellP; split <;> rfl
theorem cellsP_rep {vs : Array Value} (h : vs.toList.all Value.oneCell' = true) : RepP S w (.agg vs) (.agg (vs.toList.map cellP)) := by
  have h' : ∀ v, v ∈ vs → v.oneCell' = true := fun v hv => List.all_eq_true.1 h v (by simpa using hv)
  refine .agg vs _ (by simp) h' (fun i v x hv hx => ?_)
  rw [List.getElem?_map, Array.getElem?_toList, hv] at hx
  simp only [Option.map_some, Option.some.injEq] at hx
  subst hx
  exact cellP_rep v (h' v (Array.mem_of_getElem? hv))
theorem constF_rep (v : Value) : RepF β S w v (constF v) := by
  unfold constF
  split
  · exact RepP.nil
  · split
    · rename_i h; exact cellsP_rep h
    · trivial
  · trivial
  · rename_i h1 h2 h3
    refine RepP.lit _ ?_
    cases v <;> first | rfl | exact absurd rfl (h2 _) | exact absurd rfl (h3 _)
theorem rep_lit {v u : Value} (h : RepP S w v (.lit u)) : v = u ∧ u.oneCell' = true := by cases h; exact ⟨rfl, by assumption⟩
theorem rep_nil {v : Value} (h : RepP S w v .nil) : v = .slice none 0 0 := by cases h; rfl
theorem rep_agg {v : Value} {cs : List PV} (h : RepP S w v (.agg cs)) : ∃ vs, v = .agg vs ∧ vs.size = cs.length ∧ (∀ u, u ∈ vs → u.oneCell' = true) ∧ ∀ (i : Nat) (u : Value) (x : PV), vs[i]? = some u → cs[i]? = some x → RepP S w u x := by
  cases h with
  | agg vs _ h1 h2 h3 => exact ⟨vs, rfl, h1, h2, h3⟩
theorem rep_tup {v : Value} {cs : List PV} (h : RepP S w v (.tup cs)) : ∃ vs, v = .tuple vs ∧ vs.size = cs.length ∧ ∀ (i : Nat) (u : Value) (x : PV), vs[i]? = some u → cs[i]? = some x → RepP S w u x := by
  cases h with
  | tup vs _ h1 h3 => exact ⟨vs, rfl, h1, h3⟩
theorem rep_sl {v : Value} {xs : List (List PV)} (h : RepP S w v (.sl xs)) : (v = .slice none 0 0 ∧ xs = []) ∨ ∃ b off k cap, v = .slice (some ⟨b, off, none⟩) xs.length cap ∧ xs.length ≤ cap ∧ (∀ r, r ∈ xs → r.length = k) ∧
    ∀ (i : Nat) (r : List PV), xs[i]? = some r → RowAt S w b (off + i * k) r := by
  cases h with
  | nil' => exact .inl ⟨rfl, rfl⟩
  | sl b off k cap _ c h1 h2 h3 h4 h5 =>
    refine .inr ⟨b, off, k, cap, rfl, h1, h2, fun i r hr j x hx => ?_⟩
    have hi : i < xs.length := (List.getElem?_eq_some_iff.1 hr).1
    have hj : j < k := by
      have := h2 r (List.mem_of_getElem? hr)
      rw [← this]
      exact (List.getElem?_eq_some_iff.1 hx).1
    exact ⟨h3 i j hi hj, c i j, (h4 i j hi hj).1, h5 i j r x hr hx, (h4 i j hi hj).2⟩
def OpndC (g : Key → C) (x : Operand) (c : C) : Prop :=
  match x with
  | .tmp t => c = g (.t t)
  | _ => c.own = none ∧ c.frm = none ∧ tmpOf x = none ∧ ∀ i o, c.v ≠ .ptr i o
/-- An operand. -/
theorem opnd_ev {x : Operand} {f : C → T} {K : List Key → List (Key × C) → Prop} (hK : ∀ k r v, K r v ↔ K (k :: r) v) (h : Rel w0 S0 N (fun κ => wr κ = true) g a w β S) (he : vcT G P (opnd x f) g wr K) :
    ∃ c, vcT G P (f c) g wr K ∧ RepF β S w (a.eval x) c.v ∧ OpndC g x c := by
  cases x with
  | tmp t =>
    refine ⟨g (.t t), ?_, h.tm t, rfl⟩
    have he' : vcT G P (f (g (.t t))) g wr (fun rs ws => K (.t t :: rs) ws) := he
    have hq : (fun rs ws => K (.t t :: rs) ws) = K := funext fun r => funext fun v => propext (hK _ r v).symm
    rw [hq] at he'
    exact he'
  | const v => exact ⟨_, he, constF_rep v, rfl, rfl, rfl, fun i o => by
      show constF v ≠ _
      unfold constF
      split
      · simp
      · split <;> simp
      · simp
      · simp⟩
  | global n => exact ⟨_, he, RepP.lit _ rfl, rfl, rfl, rfl, fun i o e => by cases e⟩
  | func n => exact ⟨_, he, RepP.lit _ rfl, rfl, rfl, rfl, fun i o e => by cases e⟩
theorem opnds_ev {K : List Key → List (Key × C) → Prop} (hK : ∀ k r v, K r v ↔ K (k :: r) v) (h : Rel w0 S0 N (fun κ => wr κ = true) g a w β S) : ∀ {xs : List Operand} {f : List C → T}, vcT G P (opnds xs f) g wr K →
    ∃ cs, vcT G P (f cs) g wr K ∧ cs.length = xs.length ∧ ∀ (i : Nat) x c, xs[i]? = some x → cs[i]? = some c → RepF β S w (a.eval x) c.v
  | [], f, he => ⟨[], he, rfl, fun i x c hx => by simp at hx⟩
  | x :: xs, f, he => by
    obtain ⟨c, he1, h1, _⟩ := opnd_ev hK h he
    obtain ⟨cs, he2, h2, h3⟩ := opnds_ev hK h (xs := xs) (f := fun cs => f (c :: cs)) he1
    refine ⟨c :: cs, he2, by simp [h2], fun i y d hy hd => ?_⟩
    cases i with
    | zero => simp at hy hd; subst hy; subst hd; exact h1
    | succ i => exact h3 i y d (by simpa using hy) (by simpa using hd)
theorem pvs_some : ∀ {cs : List C} {ps : List PV}, pvs cs = some ps → ps.length = cs.length ∧ ∀ (i : Nat) c p, cs[i]? = some c → ps[i]? = some p → c.v = .pv p
  | [], ps, h => by cases h; exact ⟨rfl, fun i c p hc => by simp at hc⟩
  | c :: cs, ps, h => by
    unfold pvs at h
    split at h
    · rename_i p ps' hp hps
      cases h
      obtain ⟨h1, h2⟩ := pvs_some hps
      refine ⟨by simp [h1], fun i d q hd hq => ?_⟩
      cases i with
      | zero => simp at hd hq; subst hd; subst hq; exact hp
      | succ i => exact h2 i d q (by simpa using hd) (by simpa using hq)
    · cases h

abbrev WrP (wr : Key → Bool) (ws : List (Key × C)) : Key → Prop := fun κ => wr κ = true ∨ κ ∈ keysOf ws
/-- What is handed on behind an operation. -/
def Next (w0 : World) (S0 : Nat → Nat → Prop) (N : Nat) (wr : Key → Bool) (g : Key → C) (ws : List (Key × C)) (K : Act → World → Prop) : Prop :=
  ∀ a' w' β' S', Rel w0 S0 N (WrP wr ws) (upds g ws) a' w' β' S' → PtrOK (upds g ws) → K a' w'
theorem ptrOK_upd (hp : PtrOK g) {κ : Key} {c : C} (hκ : ∀ i, κ ≠ .al i) (hc : ∀ i o, c.v = .ptr i o → (g (.al i)).v ≠ .un) : PtrOK (upd g κ c) := by
  intro κ' i o h
  rw [upd_ne g c (fun e => hκ i e.symm)]
  by_cases e : κ' = κ
  · subst e; rw [upd_same] at h; exact hc i o h
  · rw [upd_ne g c e] at h; exact hp κ' i o h
section
variable {o : Oper} {K : Act → World → Prop} {Q : Exit → Act → World → Prop} {ws : List (Key × C)}
theorem finW (hN : Next w0 S0 N wr g ws K) (hd : dstOK N o = true) {c : C} {v : Value} {w' : World} (hrun : (execOp a.eval o).run P w = .ok (.value v) w') (h : Rel w0 S0 N (fun κ => wr κ = true) g a w' β S) (hp : PtrOK g)
    (hv : RepF β S w' v c.v) (hc : ∀ i o, c.v = .ptr i o → (g (.al i)).v ≠ .un) (how : c.own = none) (hf : ∀ κ', c.frm = some κ' → rv β a w' κ' = some v ∧ ∀ i o, κ' = .b i o → (g (.al i)).v ≠ .un)
    (he : vcT G P (W o.dst c) g wr (fun _ v => v = ws)) : o.wp P a w K Q := by
  unfold Oper.wp
  rw [hrun]
  show K (a.put o.dst v) w'
  unfold dstOK at hd
  cases hdst : o.dst with
  | none =>
    rw [hdst] at he
    have he' : ([] : List (Key × C)) = ws := he
    subst he'
    exact hN _ _ β S (h.wider (fun κ hk => .inl hk)) hp
  | some d =>
    rw [hdst] at he hd
    have he' : [(Key.t d, c)] = ws := he
    subst he'
    refine hN _ _ β S (h.put (by simpa [Nat.blt_eq] using hd) hv (by rw [how]; exact ownV_none _ _) (fun κ' hk _ _ => hf κ' hk) (fun κ hk => .inl hk) (.inr (by simp [keysOf]))) (ptrOK_upd hp (fun i => by simp) hc)
theorem finWP (hN : Next w0 S0 N wr g ws K) (hd : dstOK N o = true) {p : PV} {v : Value} {w' : World} (hrun : (execOp a.eval o).run P w = .ok (.value v) w') (h : Rel w0 S0 N (fun κ => wr κ = true) g a w' β S) (hp : PtrOK g)
    (hv : RepP S w' v p) (he : vcT G P (WP o.dst p) g wr (fun _ v => v = ws)) : o.wp P a w K Q :=
  finW hN hd hrun h hp (c := ⟨.pv p, none, none⟩) hv (fun i o e => by cases e) rfl (fun κ' e => by cases e) he
theorem finWV (hN : Next w0 S0 N wr g ws K) (hd : dstOK N o = true) {x : FV} {v : Value} {w' : World} (hrun : (execOp a.eval o).run P w = .ok (.value v) w') (h : Rel w0 S0 N (fun κ => wr κ = true) g a w' β S) (hp : PtrOK g)
    (hv : RepF β S w' v x) (hc : ∀ i o, x = .ptr i o → (g (.al i)).v ≠ .un) (he : vcT G P (WV o.dst x) g wr (fun _ v => v = ws)) : o.wp P a w K Q :=
  finW hN hd hrun h hp (c := ⟨x, none, none⟩) hv hc rfl (fun κ' e => by cases e) he
theorem hKt : ∀ (k : Key) (r : List Key) (v : List (Key × C)), (fun (_ : List Key) v => v = ws) r v ↔ (fun (_ : List Key) v => v = ws) (k :: r) v := fun _ _ _ => Iff.rfl
theorem ptr_live (h : Rel w0 S0 N (fun κ => wr κ = true) g a w β S) (hp : PtrOK g) {x : Operand} {c : C} (hc : OpndC g x c) :
    ∀ i o, c.v = .ptr i o → (g (.al i)).v ≠ .un := by
  intro i o e
  cases x with
  | tmp t => subst hc; exact hp _ _ _ e
  | _ => exact absurd e (hc.2.2.2 i o)
/-! ### moves -/
theorem move_ok (x : Operand) (ho : o.op = .move x) (h : Rel w0 S0 N (fun κ => wr κ = true) g a w β S) (hp : PtrOK g) (hd : dstOK N o = true) (hN : Next w0 S0 N wr g ws K)
    (he : vcT G P (opT P τ o) g wr (fun _ v => v = ws)) : o.wp P a w K Q := by
  simp only [opT, ho] at he
  obtain ⟨c, he, hv, hc⟩ := opnd_ev hKt h he
  refine finW hN hd (v := a.eval x) (by simp [execOp, ho]) h hp (c := ⟨c.v, none, tmpOf x⟩) hv (ptr_live (c := c) h hp hc) rfl ?_ he
  intro κ' e
  cases x with
  | tmp t => cases e; exact ⟨rfl, fun _ _ e => by cases e⟩
  | _ => cases e
theorem assign_ok (x : Operand) (ho : o.op = .assign x) (h : Rel w0 S0 N (fun κ => wr κ = true) g a w β S) (hp : PtrOK g) (hd : dstOK N o = true) (hN : Next w0 S0 N wr g ws K)
    (he : vcT G P (opT P τ o) g wr (fun _ v => v = ws)) : o.wp P a w K Q := by
  simp only [opT, ho] at he
  obtain ⟨c, he, hv, hc⟩ := opnd_ev hKt h he
  have hrun : (execOp a.eval o).run P w = .ok (.value (a.eval x)) w := by simp [execOp, ho]
  split at he
  · rename_i p kx d hown hk hdst
    cases x with
    | tmp t =>
      have hc' : c = g (.t t) := hc
      cases hk
      have he' : [(Key.t t, (⟨c.v, none, c.frm⟩ : C)), (.t d, ⟨c.v, some p, none⟩)] = ws := he
      unfold Oper.wp
      rw [hrun]
      show K (a.put o.dst _) w
      rw [hdst]
      subst he'
      have h1 := h.drop (.t t) (fun i => by simp)
      have e1 : upd g (.t t) { g (.t t) with own := none } = upd g (.t t) ⟨c.v, none, c.frm⟩ := by rw [← hc']
      rw [e1] at h1
      have hp1 : PtrOK (upd g (.t t) ⟨c.v, none, c.frm⟩) := ptrOK_upd hp (fun i => by simp) (ptr_live (c := c) h hp hc)
      refine hN _ _ β S (h1.put (c := ⟨c.v, some p, none⟩) (by unfold dstOK at hd; rw [hdst] at hd; simpa [Nat.blt_eq] using hd) hv ?_ (fun κ' e => by cases e) (fun κ hk => .inl hk) (.inr (by simp [keysOf]))) (ptrOK_upd hp1 (fun i => by simp) (fun i o' e => by rw [upd_ne _ _ (by simp)]; exact ptr_live h hp hc i o' e))
      intro e k hek
      have hek' : (g (.t t)).own = some (e, k) := by rw [← hc', hown]; exact hek
      obtain ⟨v, n, xs, k1, k2, k3⟩ := h.own _ e k hek'
      have hv' : v = a.eval (.tmp t) := by cases k1; rfl
      subst hv'
      refine ⟨n, xs, k2, fun b hb => ⟨(k3 b hb).1, fun i hi => ?_, fun κ' v' hne ho' hr hb' => ?_⟩⟩
      · rw [upd_ne _ _ (by simp)] at hi; exact (k3 b hb).2 i hi
      · by_cases e2 : κ' = .t t
        · subst e2; rw [upd_same] at ho'; exact ho' rfl
        · rw [upd_ne _ _ e2] at ho'
          exact e2 (h.ownd κ' (.t t) v' _ b ho' (by rw [hek']; simp) hr k1 hb' hb)
    | _ => cases hk
  · exact finWV hN hd hrun h hp hv (ptr_live h hp hc) he
theorem pick_ok (x y z : Operand) (ho : o.op = .pick x y z) (h : Rel w0 S0 N (fun κ => wr κ = true) g a w β S) (hp : PtrOK g) (hd : dstOK N o = true) (hN : Next w0 S0 N wr g ws K)
    (he : vcT G P (opT P τ o) g wr (fun _ v => v = ws)) : o.wp P a w K Q := by
  simp only [opT, ho] at he
  obtain ⟨c, he, hv, hc⟩ := opnd_ev hKt h he
  split at he
  · rename_i b hcv
    rw [hcv] at hv
    have hb : a.eval x = .bool b := (rep_lit hv).1
    cases b with
    | true =>
      have he' : vcT G P (opnd y fun ca => WV o.dst ca.v) g wr (fun _ v => v = ws) := he
      obtain ⟨c2, he2, hv2, hc2⟩ := opnd_ev hKt h he'
      exact finWV hN hd (v := a.eval y) (by simp [execOp, ho, hb, asBool]) h hp hv2 (ptr_live h hp hc2) he2
    | false =>
      have he' : vcT G P (opnd z fun ca => WV o.dst ca.v) g wr (fun _ v => v = ws) := he
      obtain ⟨c2, he2, hv2, hc2⟩ := opnd_ev hKt h he'
      exact finWV hN hd (v := a.eval z) (by simp [execOp, ho, hb, asBool]) h hp hv2 (ptr_live h hp hc2) he2
  · exact he.elim
end
end
end Go.Proofs.YtpflimghkckpjaaGreatDoor.B

set_option linter.unusedVariables false
set_option linter.unusedSimpArgs false
set_option linter.unnecessarySimpa false
namespace Go.Proofs.YtpflimghkckpjaaGreatDoor.B
open Go.RowKit

theorem upds_append (g : Key → C) : ∀ (a b : List (Key × C)), upds g (a ++ b) = upds (upds g a) b
  | [], b => rfl
  | (κ, c) :: a, b => upds_append (upd g κ c) a b
theorem keysOf_append : ∀ (a b : List (Key × C)), keysOf (a ++ b) = keysOf a ++ keysOf b
  | [], b => rfl
  | (κ, c) :: a, b => by simp [keysOf, keysOf_append a b]
section
variable {G : World → Prop} {P : Program} {τ : Tau} {w0 : World} {S0 : Nat → Nat → Prop} {N : Nat} {wr : Key → Bool} {g : Key → C} {a : Act} {w : World} {β : Nat → Nat} {S : Nat → Nat → Prop}
theorem run_isAggD (hτ : TauOK P τ) {t : TypeId} {ti : TI} (h : τ t = some ti) (w : World) : (isAgg t).run P w = .ok (isAggD ti.desc) w := by
  unfold isAgg
  rw [Sem.run_bind, run_underlying (hτ.u t ti h) w]
  cases ti.desc <;> rfl
theorem run_sizeD (hτ : TauOK P τ) {t : TypeId} {ti : TI} (h : τ t = some ti) (w : World) : (sizeOf t).run P w = .ok ti.size w := by
  obtain ⟨i, h1, h2, _⟩ := hτ.i t ti h
  simp [sizeOf, typeInfo, h1, h2]
theorem run_zeroD (hτ : TauOK P τ) {t : TypeId} {ti : TI} (h : τ t = some ti) (w : World) : (zeroValue t).run P w = .ok ti.zero w := by
  obtain ⟨i, h1, _, _, h2⟩ := hτ.i t ti h
  simp [zeroValue, typeInfo, h1, h2]
section
variable {o : Oper} {K : Act → World → Prop} {Q : Exit → Act → World → Prop} {ws : List (Key × C)}
/-! ### variables in memory -/
theorem box_fin {d : Tmp} {cs : List PV} {vs : Array Value} {T : TypeId} (hdst : o.dst = some d) (h : Rel w0 S0 N (fun κ => wr κ = true) g a w β S) (hp : PtrOK g) (hd : dstOK N o = true) (hN : Next w0 S0 N wr g ws K)
    (hrun : (execOp a.eval o).run P w = .ok (.value (.pointer (some ⟨w.heap.size, 0, none⟩))) (w.alloc (.cells vs T))) (hlen : vs.size = cs.length)
    (hrep : ∀ (o : Nat) v x, vs[o]? = some v → cs[o]? = some x → RepP S w v x) (he : vcT G P (tBox d cs) g wr (fun _ v => v = ws)) : o.wp P a w K Q := by
  have he' : vcT G P (if (g (.al d)).v.isUn = true then .ret ((.al d, liveC) :: (boxW d 0 cs ++ [(.t d, ⟨.ptr d 0, none, none⟩)])) else .fail) g wr (fun _ v => v = ws) := he
  by_cases hu : (g (.al d)).v.isUn = true
  · rw [if_pos hu] at he'
    have hws : (.al d, liveC) :: (boxW d 0 cs ++ [(Key.t d, (⟨.ptr d 0, none, none⟩ : C))]) = ws := he'
    have hfree : (g (.al d)).v = .un := by cases hv : (g (.al d)).v <;> rw [hv] at hu <;> first | rfl | cases hu
    obtain ⟨β', hβ, h1⟩ := h.alloc hp hfree vs T cs hlen hrep
    unfold Oper.wp
    rw [hrun]
    show K (a.put o.dst _) _
    rw [hdst]
    have hup : upds g ws = upd (upds (upd g (.al d) liveC) (boxW d 0 cs)) (.t d) ⟨.ptr d 0, none, none⟩ := by
      rw [← hws]
      show upds (upd g (.al d) liveC) (boxW d 0 cs ++ _) = _
      rw [upds_append]
      rfl
    have hlive : ∀ i, (g (.al i)).v ≠ .un → (upds (upd g (.al d) liveC) (boxW d 0 cs) (.al i)).v ≠ .un := fun i hi => by
      rw [upds_boxW _ _ _ _ _ (fun _ _ e => by cases e)]
      by_cases e : i = d
      · subst e; rw [upd_same]; simp [liveC]
      · rw [upd_ne _ _ (by simpa using e)]; exact hi
    have hdl : (upds (upd g (.al d) liveC) (boxW d 0 cs) (.al d)).v ≠ .un := by
      rw [upds_boxW _ _ _ _ _ (fun _ _ e => by cases e), upd_same]; simp [liveC]
    have hp1 : PtrOK (upds (upd g (.al d) liveC) (boxW d 0 cs)) := by
      intro κ i o' e
      refine hlive i ?_
      cases κ with
      | t t => rw [upds_boxW _ _ _ _ _ (fun _ _ e => by cases e), upd_ne _ _ (by simp)] at e; exact hp _ _ _ e
      | al j =>
        rw [upds_boxW _ _ _ _ _ (fun _ _ e => by cases e)] at e
        by_cases e2 : j = d
        · subst e2; rw [upd_same] at e; cases e
        · rw [upd_ne _ _ (by simpa using e2)] at e; exact hp _ _ _ e
      | b j o2 =>
        by_cases e2 : j = d
        · subst e2
          rw [upds_boxW_at _ _ _ _ _ (Nat.zero_le _)] at e
          cases hx : cs[o2 - 0]? with
          | some x => rw [hx] at e; cases e
          | none => rw [hx] at e; rw [upd_ne _ _ (by simp)] at e; exact hp _ _ _ e
        · rw [upds_boxW _ _ _ _ _ (fun _ _ e1 hh => by cases e1; exact e2 hh.1), upd_ne _ _ (by simp)] at e; exact hp _ _ _ e
    have hdN : d < N := by unfold dstOK at hd; rw [hdst] at hd; simpa [Nat.blt_eq] using hd
    have h2 := h1.put (c := ⟨.ptr d 0, none, none⟩) (v := .pointer (some ⟨w.heap.size, 0, none⟩)) hdN (by show _ = _; rw [hβ]) (ownV_none _ _) (fun κ' e => by cases e) (wr' := WrP wr ws) (fun κ hk => .inl hk)
      (.inr (by rw [← hws]; simp [keysOf, keysOf_append]))
    have hp2 := ptrOK_upd (κ := .t d) (c := ⟨.ptr d 0, none, none⟩) hp1 (fun i => by simp) (fun i o' e => by cases e; exact hdl)
    rw [← hup] at h2 hp2
    exact hN _ _ β' S h2 hp2
  · rw [if_neg hu] at he'
    exact he'.elim
theorem alloc_ok (hτ : TauOK P τ) (e : TypeId) (ho : o.op = .alloc e) (h : Rel w0 S0 N (fun κ => wr κ = true) g a w β S) (hp : PtrOK g) (hd : dstOK N o = true) (hN : Next w0 S0 N wr g ws K)
    (he : vcT G P (opT P τ o) g wr (fun _ v => v = ws)) : o.wp P a w K Q := by
  simp only [opT, ho] at he
  split at he
  · rename_i d ti hdst hti
    obtain ⟨hz1, hz2⟩ := hτ.z e ti hti
    refine box_fin (vs := ti.zero.cells) (T := e) hdst h hp hd hN ?_ (by simp) (fun i v x hv hx => ?_) he
    · simp [execOp, ho, Instr.alloc, run_zeroD hτ hti, newVar, newRow]
    · rw [List.getElem?_map, Array.getElem?_toList, hv] at hx
      simp only [Option.map_some, Option.some.injEq] at hx
      subst hx
      exact cellP_rep v (List.all_eq_true.1 hz2 v (by simpa using Array.mem_of_getElem? hv))
  · exact he.elim
theorem cellsP_cells {v : Value} {p : PV} {cs : List PV} (h : RepP S w v p) (hc : cellsP p = some cs) : v.cells.size = cs.length ∧ (∀ u, u ∈ v.cells → u.oneCell' = true) ∧ ∀ (i : Nat) (u : Value) (x : PV), v.cells[i]? = some u → cs[i]? = some x → RepP S w u x := by
  have one : ∀ {q : PV}, q.one = true → RepP S w v q → v.cells.size = [q].length ∧ (∀ u, u ∈ v.cells → u.oneCell' = true) ∧ ∀ (i : Nat) (u : Value) (x : PV), v.cells[i]? = some u → [q][i]? = some x → RepP S w u x := by
    intro q hq hv
    have ho := hv.one hq
    have hcl : v.cells = #[v] := by cases v <;> first | rfl | cases ho
    rw [hcl]
    refine ⟨rfl, fun u hu => ?_, fun i u x hu hx => ?_⟩
    · simp at hu; subst hu; exact ho
    · cases i with
      | zero => simp at hu hx; subst hu; subst hx; exact hv
      | succ i => simp at hu
  cases p with
  | lit u => cases hc; exact one rfl h
  | nil => cases hc; exact one rfl h
  | sl xs => cases hc; exact one rfl h
  | agg ds =>
    cases hc
    obtain ⟨vs, rfl, h1, h2, h3⟩ := rep_agg h
    exact ⟨h1, h2, h3⟩
  | tup _ => cases hc
theorem box_ok (e : TypeId) (x : Operand) (ho : o.op = .box e x) (h : Rel w0 S0 N (fun κ => wr κ = true) g a w β S) (hp : PtrOK g) (hd : dstOK N o = true) (hN : Next w0 S0 N wr g ws K)
    (he : vcT G P (opT P τ o) g wr (fun _ v => v = ws)) : o.wp P a w K Q := by
  simp only [opT, ho] at he
  obtain ⟨c, he, hv, hc⟩ := opnd_ev hKt h he
  split at he
  · rename_i d p hdst hcv
    split at he
    · rename_i cs hcs
      rw [hcv] at hv
      obtain ⟨h1, h2, h3⟩ := cellsP_cells (S := S) (w := w) hv hcs
      exact box_fin (vs := (a.eval x).cells) (T := e) hdst h hp hd hN (by simp [execOp, ho, Instr.box, newVar, newRow]) h1 h3 he
    · exact he.elim
  · exact he.elim
theorem getN_ev {i : Nat} : ∀ (n o : Nat) {f : List PV → T}, vcT G P (getN i o n f) g wr (fun _ v => v = ws) → ∃ ps, ps.length = n ∧ (∀ (j : Nat) p, ps[j]? = some p → (g (.b i (o + j))).v = .pv p ∧ p.one = true) ∧ vcT G P (f ps) g wr (fun _ v => v = ws)
  | 0, o, f, he => ⟨[], rfl, fun j p h => by simp at h, he⟩
  | n + 1, o, f, he => by
    have he' : vcT G P (match (g (.b i o)).v with
      | .pv p => if p.one = true then getN i (o + 1) n (fun ps => f (p :: ps)) else .fail
      | _ => .fail) g wr (fun _ v => v = ws) := he
    split at he'
    · rename_i p hp
      split at he'
      · rename_i hone
        obtain ⟨ps, h1, h2, h3⟩ := getN_ev n (o + 1) (f := fun ps => f (p :: ps)) he'
        refine ⟨p :: ps, by simp [h1], fun j q hq => ?_, h3⟩
        cases j with
        | zero => simp at hq; subst hq; exact ⟨hp, hone⟩
        | succ j =>
          have := h2 j q (by simpa using hq)
          rwa [show o + 1 + j = o + (j + 1) from by omega] at this
      · exact he'.elim
    · exact he'.elim
theorem load_cells {b off n : Nat} {R : Nat → Value → Prop} (h : ∀ j, j < n → ∃ c, w.cell? ⟨b, off + j, none⟩ = some c ∧ R j c) :
    ∃ cs : List Value, cs.length = n ∧ (loadCells ⟨b, off, none⟩ n).run P w = .ok cs.toArray w ∧ ∀ (j : Nat) u, cs[j]? = some u → R j u := by
  refine ⟨(List.range n).map fun j => (w.cell? ⟨b, off + j, none⟩).getD undef, by simp, ?_, fun j u hu => ?_⟩
  · have := run_loadCells_list (P := P) w ⟨b, off, none⟩ ((List.range n).map fun j => (w.cell? ⟨b, off + j, none⟩).getD undef) (fun j v hv => by
      rw [Addr.add_lit]
      rw [List.getElem?_map] at hv
      cases hr : (List.range n)[j]? with
      | none => rw [hr] at hv; cases hv
      | some q =>
        rw [hr] at hv
        have hq : q = j ∧ j < n := by
          have := List.getElem?_eq_some_iff.1 hr
          obtain ⟨h1, h2⟩ := this
          simp at h2 h1
          exact ⟨h2.symm, h1⟩
        obtain ⟨rfl, hlt⟩ := hq
        obtain ⟨c, hc, _⟩ := h q hlt
        simp only [Option.map_some, Option.some.injEq] at hv
        rw [hc] at hv ⊢
        simpa using hv)
    simpa using this
  · rw [List.getElem?_map] at hu
    cases hr : (List.range n)[j]? with
    | none => rw [hr] at hu; cases hu
    | some q =>
      rw [hr] at hu
      obtain ⟨h1, h2⟩ := List.getElem?_eq_some_iff.1 hr
      simp at h1 h2
      subst h2
      obtain ⟨c, hc, hR⟩ := h j h1
      simp only [Option.map_some, Option.some.injEq] at hu
      rw [hc] at hu
      simp at hu
      subst hu
      exact hR
theorem load_agg (hτ : TauOK P τ) {t : TypeId} {ti : TI} (ht : τ t = some ti) (hagg : isAggD ti.desc = true) {b off : Nat} {ps : List PV} (hl : ps.length = ti.size) (hone : ∀ p, p ∈ ps → p.one = true)
    (h : ∀ (j : Nat) p, ps[j]? = some p → ∃ c, w.cell? ⟨b, off + j, none⟩ = some c ∧ RepP S w c p) : ∃ v, (Instr.loadAt t (.pointer (some ⟨b, off, none⟩))).run P w = .ok v w ∧ RepP S w v (.agg ps) := by
  obtain ⟨cs, h1, h2, h3⟩ := load_cells (P := P) (w := w) (b := b) (off := off) (n := ti.size) (R := fun j c => ∀ p, ps[j]? = some p → RepP S w c p) (fun j hj => by
    have hj' : j < ps.length := by omega
    obtain ⟨c, hc, hr⟩ := h j _ (List.getElem?_eq_getElem hj')
    exact ⟨c, hc, fun p hp => by rw [List.getElem?_eq_getElem hj'] at hp; cases hp; exact hr⟩)
  refine ⟨.agg cs.toArray, ?_, .agg _ _ (by simp [h1, hl]) (fun v hv => ?_) (fun i v x hv hx => h3 i v (by simpa using hv) x hx)⟩
  · simp [Instr.loadAt, Instr.sureAddr, loadVar, run_isAggD hτ ht, run_sizeD hτ ht, hagg, h2]
  · obtain ⟨i, hi, rfl⟩ := List.mem_iff_getElem.1 (show v ∈ cs by simpa using hv)
    have hi' : i < ps.length := by omega
    exact (h3 i _ (List.getElem?_eq_getElem hi) _ (List.getElem?_eq_getElem hi')).one (hone _ (List.getElem_mem hi'))
theorem load_one (hτ : TauOK P τ) {t : TypeId} {ti : TI} (ht : τ t = some ti) (hagg : ¬ isAggD ti.desc = true) {b off : Nat} {c : Value} (hc : w.cell? ⟨b, off, none⟩ = some c) :
    (Instr.loadAt t (.pointer (some ⟨b, off, none⟩))).run P w = .ok c w := by
  have hf : isAggD ti.desc = false := by simpa using hagg
  simp [Instr.loadAt, Instr.sureAddr, loadVar, run_isAggD hτ ht, hf, run_load, hc]
theorem load_ok (hτ : TauOK P τ) (t : TypeId) (x : Operand) (ho : o.op = .load t x) (h : Rel w0 S0 N (fun κ => wr κ = true) g a w β S) (hp : PtrOK g) (hd : dstOK N o = true) (hN : Next w0 S0 N wr g ws K)
    (he : vcT G P (opT P τ o) g wr (fun _ v => v = ws)) : o.wp P a w K Q := by
  simp only [opT, ho] at he
  obtain ⟨c, he, hv, hc⟩ := opnd_ev hKt h he
  unfold tLoad at he
  split at he
  · rename_i i off ti hcv hti
    rw [hcv] at hv
    have hx : a.eval x = .pointer (some ⟨β i, off, none⟩) := hv
    split at he
    · rename_i hagg
      obtain ⟨ps, h1, h2, h3⟩ := getN_ev _ _ he
      obtain ⟨v, hr, hrep⟩ := load_agg (S := S) (w := w) hτ hti hagg (b := β i) (off := off) h1 (fun p hm => by
        obtain ⟨j, hj, rfl⟩ := List.mem_iff_getElem.1 hm
        exact (h2 j _ (List.getElem?_eq_getElem hj)).2) (fun j p hj => by
        obtain ⟨q1, _⟩ := h2 j p hj
        obtain ⟨c', k1, k2, _⟩ := h.bx i (off + j) (by rw [q1]; simp)
        rw [q1] at k2
        exact ⟨c', k1, k2⟩)
      exact finWP hN hd (by simp [execOp, ho, hx, hr]) h hp hrep h3
    · rename_i hagg
      have he' : vcT G P (if (g (.b i off)).v.isUn = true then .fail else W o.dst ⟨(g (.b i off)).v, none, some (.b i off)⟩) g wr (fun _ v => v = ws) := he
      split at he'
      · exact he'.elim
      · rename_i hu
        have hne : (g (.b i off)).v ≠ .un := fun e => hu (by rw [e]; rfl)
        obtain ⟨c', k1, k2, _, k4⟩ := h.bx i off hne
        refine finW hN hd (by simp [execOp, ho, hx, load_one hτ hti hagg k1]) h hp (c := ⟨(g (.b i off)).v, none, some (.b i off)⟩) k2 (fun i' o' e => hp _ _ _ e) rfl (fun κ' e => ?_) he'
        cases e
        exact ⟨k1, fun i' o' e => by cases e; exact k4⟩
  · rename_i row j ti hcv hti
    rw [hcv] at hv
    obtain ⟨b, base, hx, hrow⟩ := hv
    split at he
    · rename_i hagg
      split at he
      · rename_i hlen
        obtain ⟨v, hr, hrep⟩ : ∃ v, (Instr.loadAt t (.pointer (some ⟨b, base + j, none⟩))).run P w = .ok v w ∧ RepP S w v (.agg ((row.drop j).take ti.size)) := by
          obtain ⟨cs, h1, h2, h3⟩ := load_cells (P := P) (w := w) (b := b) (off := base + j) (n := ti.size) (R := fun q c => ∃ p, ((row.drop j).take ti.size)[q]? = some p ∧ RepP S w c p) (fun q hq => by
            have hj' : q < ((row.drop j).take ti.size).length := by rw [hlen.1]; exact hq
            have hgq : row[j + q]? = some (((row.drop j).take ti.size)[q]) := by
              rw [← List.getElem?_eq_getElem hj', List.getElem?_take, if_pos hq, List.getElem?_drop]
            obtain ⟨_, c', hc', hr', _⟩ := hrow (j + q) _ hgq
            exact ⟨c', by rw [Nat.add_assoc]; exact hc', _, List.getElem?_eq_getElem hj', hr'⟩)
          refine ⟨.agg cs.toArray, ?_, .agg _ _ (by simp [h1, hlen.1]) (fun v hv => ?_) (fun i v x hv hx => ?_)⟩
          · simp [Instr.loadAt, Instr.sureAddr, loadVar, run_isAggD hτ hti, run_sizeD hτ hti, hagg, h2]
          · obtain ⟨i, hi, rfl⟩ := List.mem_iff_getElem.1 (show v ∈ cs by simpa using hv)
            obtain ⟨p, hp1, hp2⟩ := h3 i _ (List.getElem?_eq_getElem hi)
            exact hp2.one (List.all_eq_true.1 hlen.2 p (List.mem_of_getElem? hp1))
          · obtain ⟨p, hp1, hp2⟩ := h3 i v (by simpa using hv)
            rw [hp1] at hx
            cases hx
            exact hp2
        exact finWP hN hd (by simp [execOp, ho, hx, hr]) h hp hrep he
      · exact he.elim
    · rename_i hagg
      split at he
      · rename_i p hpj
        split at he
        · obtain ⟨_, c', k1, k2, _⟩ := hrow j p hpj
          exact finWP hN hd (by simp [execOp, ho, hx, load_one hτ hti hagg k1]) h hp k2 he
        · exact he.elim
      · exact he.elim
  · exact he.elim
end
end
end Go.Proofs.YtpflimghkckpjaaGreatDoor.B

set_option linter.unusedVariables false
set_option linter.unusedSimpArgs false
set_option linter.unnecessarySimpa false
namespace Go.Proofs.YtpflimghkckpjaaGreatDoor.B
open Go.RowKit

section
variable {G : World → Prop} {P : Program} {τ : Tau} {w0 : World} {S0 : Nat → Nat → Prop} {N : Nat} {wr : Key → Bool} {g : Key → C} {a : Act} {w : World} {β : Nat → Nat} {S : Nat → Nat → Prop}
section
variable {o : Oper} {K : Act → World → Prop} {Q : Exit → Act → World → Prop} {ws : List (Key × C)}
theorem hasN_ev {i : Nat} : ∀ (n o : Nat) {t : T}, vcT G P (hasN i o n t) g wr (fun _ v => v = ws) → (∀ j, j < n → (g (.b i (o + j))).v ≠ .un) ∧ vcT G P t g wr (fun _ v => v = ws)
  | 0, o, t, he => ⟨fun j h => absurd h (by omega), he⟩
  | n + 1, o, t, he => by
    have he' : vcT G P (if (g (.b i o)).v.isUn = true then .fail else hasN i (o + 1) n t) g wr (fun _ v => v = ws) := he
    split at he'
    · exact he'.elim
    · rename_i hu
      obtain ⟨h1, h2⟩ := hasN_ev n (o + 1) he'
      refine ⟨fun j hj => ?_, h2⟩
      cases j with
      | zero => exact fun e => hu (by show (g (.b i o)).v.isUn = true; rw [show (g (.b i o)).v = .un from e]; rfl)
      | succ j =>
        have := h1 j (by omega)
        rwa [show o + 1 + j = o + (j + 1) from by omega] at this
theorem stores {i off : Nat} {wr' : Key → Prop} : ∀ (vs : List Value) (cs : List PV) (j : Nat) {g : Key → C} {w : World}, Rel w0 S0 N wr' g a w β S → vs.length = cs.length → (∀ v, v ∈ vs → v.oneCell' = true) →
    (∀ (q : Nat) v x, vs[q]? = some v → cs[q]? = some x → RepP S w v x) → (∀ q, q < vs.length → (g (.b i (off + j + q))).v ≠ .un) → (∀ q, wr' (.b i (off + j + q)) ∨ vs.length ≤ q) →
    ∃ w', (storeCells ⟨β i, off, none⟩ vs j).run P w = .ok () w' ∧ Rel w0 S0 N wr' (upds g (boxW i (off + j) cs)) a w' β S
  | [], cs, j, g, w, h, hl, _, _, _, _ => by
    have : cs = [] := List.eq_nil_of_length_eq_zero (by simpa using hl.symm)
    subst this
    exact ⟨w, rfl, h⟩
  | v :: vs, [], j, g, w, h, hl, _, _, _, _ => by simp at hl
  | v :: vs, x :: cs, j, g, w, h, hl, h1, hr, hu, hw => by
    have hu0 : (g (.b i (off + j))).v ≠ .un := hu 0 (by simp)
    obtain ⟨old, k1, _, k3, k4⟩ := h.bx i (off + j) hu0
    have hv1 := h1 v (List.mem_cons_self ..)
    have hst := h.store (c := ⟨.pv x, none, none⟩) hu0 (v := v) (hr 0 v x rfl rfl) (ownV_none _ _) rfl (by simp) (wr' := wr') (fun κ hk => hk) ((hw 0).resolve_right (by simp))
    obtain ⟨w', r1, r2⟩ := stores vs cs (j + 1) hst (by simpa using hl) (fun u hu => h1 u (List.mem_cons_of_mem _ hu)) (fun q u y hq hy => by
      refine (hr (q + 1) u y hq hy).mono (fun _ _ h => h) (fun b o' hs => World.cell?_setCell_other _ _ _ _ (fun e => by
        simp only [Addr.mk.injEq, and_true] at e
        exact (h.al i k4).2.2 o' (e.1 ▸ hs)))) (fun q hq => by
      rw [upd_ne _ _ (show Key.b i (off + (j + 1) + q) ≠ Key.b i (off + j) by simp; omega)]
      have := hu (q + 1) (by simp; omega)
      rwa [show off + j + (q + 1) = off + (j + 1) + q from by omega] at this) (fun q => by
      have := hw (q + 1)
      rw [show off + j + (q + 1) = off + (j + 1) + q from by omega] at this
      simpa using this)
    refine ⟨w', ?_, r2⟩
    have hs : (store (⟨β i, off + j, none⟩ : Addr) v).run P w = .ok () (w.setCell ⟨β i, off + j, none⟩ v) := by
      rw [run_store P w _ v _ hv1, k1]
      simp [k3]
    simp only [storeCells, Addr.add_lit, Sem.run_bind, hs, Result.andThen_ok]
    exact r1
theorem keysOf_boxW (i : Nat) : ∀ (cs : List PV) (o q : Nat), q < cs.length → Key.b i (o + q) ∈ keysOf (boxW i o cs)
  | [], o, q, h => absurd h (by simp)
  | x :: cs, o, q, h => by
    cases q with
    | zero => exact List.mem_cons_self ..
    | succ q =>
      have := keysOf_boxW i cs (o + 1) q (by simpa using h)
      rw [show o + 1 + q = o + (q + 1) from by omega] at this
      exact List.mem_cons_of_mem _ this
theorem ptrOK_boxW (i : Nat) : ∀ (cs : List PV) (o : Nat) {g : Key → C}, PtrOK g → PtrOK (upds g (boxW i o cs))
  | [], o, g, h => h
  | x :: cs, o, g, h => ptrOK_boxW i cs (o + 1) (ptrOK_upd h (fun i => by simp) (fun i o e => by cases e))
theorem store_ok (hτ : TauOK P τ) (t : TypeId) (y x : Operand) (ho : o.op = .store t y x) (h : Rel w0 S0 N (fun κ => wr κ = true) g a w β S) (hp : PtrOK g) (hd : dstOK N o = true) (hN : Next w0 S0 N wr g ws K)
    (he : vcT G P (opT P τ o) g wr (fun _ v => v = ws)) : o.wp P a w K Q := by
  simp only [opT, ho] at he
  obtain ⟨ca, he, hva, hca⟩ := opnd_ev hKt h he
  obtain ⟨cx, he, hvx, hcx⟩ := opnd_ev hKt h he
  split at he
  · rename_i hdst
    unfold tStore at he
    split at he
    · rename_i i off p ti hcav hcxv hti
      rw [hcav] at hva
      rw [hcxv] at hvx
      have hya : a.eval y = .pointer (some ⟨β i, off, none⟩) := hva
      split at he
      · rename_i cs hcs
        obtain ⟨q1, q2, q3⟩ := cellsP_cells (S := S) (w := w) hvx hcs
        split at he
        · rename_i hlen
          have hsz : (a.eval x).cells.size = ti.size := by rw [q1, hlen]
          have fin : ∀ w' g', (storeCells ⟨β i, off, none⟩ (a.eval x).cells.toList 0).run P w = .ok () w' → Rel w0 S0 N (WrP wr ws) g' a w' β S → g' = upds g ws → PtrOK g' → o.wp P a w K Q := by
            intro w' g' hr hrel hg hpp
            subst hg
            unfold Oper.wp
            have hrun : (execOp a.eval o).run P w = .ok .skip w' := by
              simp [execOp, ho, hya, Instr.storeAt, Instr.sureAddr, storeVar, run_sizeD hτ hti, hsz, hr]
            rw [hrun]
            show K (a.put o.dst undef) w'
            rw [hdst]
            exact hN a w' β S hrel hpp
          split at he
          · rename_i ow kx q hso
            obtain ⟨hown, hk, hcs1⟩ := storeOwn_some hso
            have he' : vcT G P (if (g (.b i off)).v.isUn = true then .fail else .ret [(kx, ⟨cx.v, none, cx.frm⟩), (.b i off, ⟨.pv q, some ow, none⟩)]) g wr (fun _ v => v = ws) := he
            split at he'
            · exact he'.elim
            · rename_i hu
              have hne : (g (.b i off)).v ≠ .un := fun e => hu (by rw [e]; rfl)
              have hws : [(kx, (⟨cx.v, none, cx.frm⟩ : C)), (.b i off, ⟨.pv q, some ow, none⟩)] = ws := he'
              cases x with
              | tmp t' =>
                cases hk
                have hcx' : cx = g (.t t') := hcx
                have h1 := h.drop (.t t') (fun i => by simp)
                have e1 : upd g (.t t') { g (.t t') with own := none } = upd g (.t t') ⟨cx.v, none, cx.frm⟩ := by rw [← hcx']
                rw [e1] at h1
                have hp1 : PtrOK (upd g (.t t') ⟨cx.v, none, cx.frm⟩) := ptrOK_upd hp (fun i => by simp) (ptr_live (c := cx) h hp hcx)
                obtain ⟨ow1, ow2⟩ := ow
                have hek' : (g (.t t')).own = some (ow1, ow2) := by rw [← hcx', hown]
                obtain ⟨v, n, xs, k1, k2, k3⟩ := h.own _ _ _ hek'
                have hvv : v = a.eval (.tmp t') := by cases k1; rfl
                subst hvv
                subst hcs1
                have hsl : a.eval (.tmp t') = .slice none 0 0 ∨ ∃ A n c, a.eval (.tmp t') = .slice A n c := by
                  rcases k2.2 with ⟨q, _⟩ | ⟨_, _, _, q, _⟩
                  · exact .inl q
                  · exact .inr ⟨_, _, _, q⟩
                have hcl : (a.eval (.tmp t')).cells = #[a.eval (.tmp t')] := by
                  rcases hsl with q | ⟨A, n', c', q⟩ <;> rw [q] <;> rfl
                have hone : (a.eval (.tmp t')).oneCell' = true := by
                  rcases hsl with q | ⟨A, n', c', q⟩ <;> rw [q] <;> rfl
                have hb : (upd g (.t t') ⟨cx.v, none, cx.frm⟩ (.b i off)).v ≠ .un := by rw [upd_ne _ _ (by simp)]; exact hne
                have hrq : RepP S w (a.eval (.tmp t')) q := q3 0 _ _ (by rw [hcl]; rfl) rfl
                obtain ⟨old, z1, _, z3, _⟩ := h.bx i off hne
                have hst := h1.store (c := ⟨.pv q, some (ow1, ow2), none⟩) hb (v := a.eval (.tmp t')) hrq (by
                  intro e k hek
                  cases hek
                  refine ⟨n, xs, k2, fun b hb => ⟨(k3 b hb).1, fun i hi => ?_, fun κ' v' hne' ho' hr hb' => ?_⟩⟩
                  · rw [upd_ne _ _ (by simp)] at hi; exact (k3 b hb).2 i hi
                  · by_cases e2 : κ' = .t t'
                    · subst e2; rw [upd_same] at ho'; exact ho' rfl
                    · rw [upd_ne _ _ e2] at ho'
                      exact e2 (h.ownd κ' (.t t') v' _ b ho' (by rw [hek']; simp) hr k1 hb' hb)) rfl (by simp) (wr' := WrP wr ws) (fun κ hk => .inl hk) (.inr (by rw [← hws]; simp [keysOf]))
                refine fin _ _ ?_ hst (by rw [← hws]; rfl) (ptrOK_upd hp1 (fun i => by simp) (fun i o' e => by cases e))
                rw [hcl]
                have hs : (store (⟨β i, off, none⟩ : Addr) (a.eval (.tmp t'))).run P w = .ok () (w.setCell ⟨β i, off, none⟩ (a.eval (.tmp t'))) := by
                  rw [run_store P w _ _ _ hone, z1]
                  simp [z3]
                simp only [storeCells, Addr.add_lit, Nat.add_zero, Sem.run_bind, hs, Result.andThen_ok]
                rfl
              | _ => cases hk
          · obtain ⟨hu, he2⟩ := hasN_ev _ _ he
            have hws : boxW i off cs = ws := he2
            obtain ⟨w', r1, r2⟩ := stores (P := P) (i := i) (off := off) (wr' := WrP wr ws) (a.eval x).cells.toList cs 0 (h.wider (fun κ hk => .inl hk)) (by simp [q1]) (fun v hv => q2 v (by simpa using hv))
              (fun q v y hq hy => q3 q v y (by simpa using hq) hy) (fun q hq => by rw [Nat.add_zero]; exact hu q (by simpa [q1] using hq)) (fun q => by
                by_cases hq : q < cs.length
                · exact .inl (.inr (by rw [← hws, Nat.add_zero]; exact keysOf_boxW i cs off q hq))
                · exact .inr (by simp [q1]; omega))
            rw [Nat.add_zero, hws] at r2
            exact fin w' _ r1 r2 rfl (by rw [← hws]; exact ptrOK_boxW i cs off hp)
        · exact he.elim
      · exact he.elim
    · exact he.elim
  · exact he.elim
theorem nilCheck_ok (x : Operand) (ho : o.op = .nilCheck x) (h : Rel w0 S0 N (fun κ => wr κ = true) g a w β S) (hp : PtrOK g) (hd : dstOK N o = true) (hN : Next w0 S0 N wr g ws K)
    (he : vcT G P (opT P τ o) g wr (fun _ v => v = ws)) : o.wp P a w K Q := by
  simp only [opT, ho] at he
  obtain ⟨c, he, hv, hc⟩ := opnd_ev hKt h he
  have hl := ptr_live (c := c) h hp hc
  split at he
  · rename_i i o' hcv
    have hv' := hv
    rw [hcv] at hv'
    have hx : a.eval x = .pointer (some ⟨β i, o', none⟩) := hv'
    exact finWV hN hd (v := a.eval x) (by simp [execOp, ho, hx]) h hp hv hl he
  · rename_i row j hcv
    have hv' := hv
    rw [hcv] at hv'
    obtain ⟨b, base, hx, _⟩ := hv'
    exact finWV hN hd (v := a.eval x) (by simp [execOp, ho, hx]) h hp hv hl he
  · rename_i f p q hcv
    have hv' := hv
    rw [hcv] at hv'
    have hx := (rep_lit hv').1
    exact finWV hN hd (v := a.eval x) (by simp [execOp, ho, hx]) h hp hv hl he
  · exact he.elim
theorem num_ev {n : Unit → Int} {f : Int → T} (he : vcT G P (.ival n f) g wr (fun _ v => v = ws)) : vcT G P (f (n ())) g wr (fun _ v => v = ws) := he _ ⟨rfl⟩
theorem bool_ev {n : Unit → Bool} {f : Bool → T} (he : vcT G P (.bval n f) g wr (fun _ v => v = ws)) : vcT G P (f (n ())) g wr (fun _ v => v = ws) := he _ ⟨rfl⟩
theorem str_ev {n : Unit → ByteArray} {f : ByteArray → T} (he : vcT G P (.sval n f) g wr (fun _ v => v = ws)) : vcT G P (f (n ())) g wr (fun _ v => v = ws) := he _ ⟨rfl⟩
theorem list_ev {n : Unit → List (List PV)} {f : List (List PV) → T} (he : vcT G P (.lval n f) g wr (fun _ v => v = ws)) : vcT G P (f (n ())) g wr (fun _ v => v = ws) := he _ ⟨rfl⟩
theorem eq_dec {α : Type} [DecidableEq α] (a b : α) : (a == b) = decide (a = b) := by rw [Bool.eq_iff_iff]; simp
theorem ne_dec {α : Type} [DecidableEq α] (a b : α) : (a != b) = decide (a ≠ b) := by rw [Bool.eq_iff_iff]; simp
theorem toList_inj {a b : ByteArray} (h : a.toList = b.toList) : a = b := by
  rw [Lib.toList_data, Lib.toList_data] at h
  cases a; cases b
  simpa using h
theorem str_eq (a b : ByteArray) : (a.toList == b.toList) = decide (a = b) := by
  rw [Bool.eq_iff_iff]
  simp only [beq_iff_eq, decide_eq_true_eq]
  exact ⟨toList_inj, fun e => by rw [e]⟩
theorem run_equal_bool {t : TypeId} (hu : P.underlying t = some .bool) (s u : Bool) (w : World) : (Op.equal t (.bool s) (.bool u)).run P w = .ok (s == u) w := by
  have key : ∀ d, (Op.equalIn (d + 1) t (.bool s) (.bool u)).run P w = .ok (s == u) w := fun d => by simp [Op.equalIn, run_underlying hu]
  exact key 9999
theorem part_one (hτ : TauOK P τ) {t : TypeId} {ti : TI} (ht : τ t = some ti) (hagg : isAggD ti.desc = false) {vs : Array Value} {o : Nat} {u : Value} (hu : vs[o]? = some u) (w : World) : (part t vs o).run P w = .ok u w := by
  simp [part, run_isAggD hτ ht, hagg, hu]
theorem eqLit_run (hτ : TauOK P τ) {t : TypeId} {ti : TI} (ht : τ t = some ti) {x y : Value} {u v : PV} (hx : RepP S w x u) (hy : RepP S w y v) {q : Unit → Bool} (h : eqLit ti.desc u v = some q) (d : Nat) (w' : World) :
    isAggD ti.desc = false ∧ (Op.equalIn (d + 1) t x y).run P w' = .ok (q ()) w' := by
  have hu := hτ.u _ _ ht
  unfold eqLit at h
  split at h
  · rename_i hd
    split at h
    · rename_i hk
      subst hk
      cases h
      rw [hd] at hu
      rw [(rep_lit hx).1, (rep_lit hy).1, hd, run_equalIn_int w' d t _ _ _ _ hu, eq_dec]
      exact ⟨rfl, rfl⟩
    · cases h
  · rename_i hd
    cases h
    rw [hd] at hu
    rw [(rep_lit hx).1, (rep_lit hy).1, hd, run_equalIn_string w' d t _ _ hu, str_eq]
    exact ⟨rfl, rfl⟩
  · rename_i hd
    cases h
    rw [hd] at hu
    rw [(rep_lit hx).1, (rep_lit hy).1, hd, run_equalIn_bool' w' d t _ _ hu, eq_dec]
    exact ⟨rfl, rfl⟩
  · cases h
theorem eqFs_run (hτ : TauOK P τ) {vs us : Array Value} {as bs : List PV} (hv : vs.size = as.length) (hu : us.size = bs.length) (hvr : ∀ (i : Nat) (v : Value) (x : PV), vs[i]? = some v → as[i]? = some x → RepP S w v x)
    (hur : ∀ (i : Nat) (v : Value) (x : PV), us[i]? = some v → bs[i]? = some x → RepP S w v x) (d : Nat) (w' : World) : ∀ (fs : List Field) {q : Unit → Bool}, eqFs τ fs as bs = some q → (Op.eqFields (d + 1) vs us fs).run P w' = .ok (q ()) w'
  | [], q, h => by cases h; simp [Op.eqFields]
  | f :: fs, q, h => by
    unfold eqFs at h
    split at h
    · cases h
    · rename_i hname
      split at h
      · rename_i ti u v r ht ha hb hr
        split at h
        · rename_i q' hq
          cases h
          have h1 : f.offset < vs.size := by rw [hv]; exact (List.getElem?_eq_some_iff.1 ha).1
          have h2 : f.offset < us.size := by rw [hu]; exact (List.getElem?_eq_some_iff.1 hb).1
          have e1 := Array.getElem?_eq_getElem h1
          have e2 := Array.getElem?_eq_getElem h2
          obtain ⟨k1, k2⟩ := eqLit_run hτ ht (hvr _ _ _ e1 ha) (hur _ _ _ e2 hb) hq d w'
          have ih := eqFs_run hτ hv hu hvr hur d w' fs hr
          simp only [Op.eqFields, ne_eq, hname, not_false_eq_true, if_true, Sem.run_bind, part_one hτ ht k1 e1, part_one hτ ht k1 e2, Result.andThen_ok, k2]
          cases hq' : q' () with
          | false => simp
          | true => simpa using ih
        · cases h
      · cases h
theorem eqS_ok (hτ : TauOK P τ) (neg : Bool) (ty yt : TypeId) (x y : Operand) (ho : o.op = .binOp (if neg = true then .neq else .eql) ty x y yt) (h : Rel w0 S0 N (fun κ => wr κ = true) g a w β S) (hp : PtrOK g) (hd : dstOK N o = true) (hN : Next w0 S0 N wr g ws K)
    {as bs : List PV} (hx : RepP S w (a.eval x) (.agg as)) (hy : RepP S w (a.eval y) (.agg bs)) (he : vcT G P (tEqS τ o.dst neg ty as bs) g wr (fun _ v => v = ws)) : o.wp P a w K Q := by
  unfold tEqS at he
  split at he
  · rename_i ti ht
    split at he
    · rename_i fs hfs
      split at he
      · rename_i hok
        split at he
        · rename_i q hq
          have hu := hτ.u _ _ ht
          rw [hfs] at hu
          obtain ⟨g1, g2⟩ := hτ.e _ _ ht hok
          obtain ⟨vs, e1, l1, _, r1⟩ := rep_agg hx
          obtain ⟨us, e2, l2, _, r2⟩ := rep_agg hy
          have hF : P.fieldsOf ty = fs := by simp [Program.fieldsOf, hu]
          have hE : (Op.equalIn 10000 ty (.agg vs) (.agg us)).run P w = .ok (q ()) w := by
            rw [run_equalIn_agg w 9999 ty vs us (by rw [hF]; exact hu) g1, hF]
            exact eqFs_run hτ l1 l2 r1 r2 9998 w _ hq
          cases neg with
          | false =>
            refine finWP hN hd (v := .bool (q ())) (w' := w) ?_ h hp (RepP.lit _ rfl) (bool_ev he)
            simp only [execOp, ho, e1, e2, Sem.run_bind, Bool.false_eq_true, if_false, run_eqGuard_agg w .eql ty x y vs us g2, run_eql_struct, hE, Result.andThen_ok, Sem.run_pure]
          | true =>
            refine finWP hN hd (v := .bool (!(q ()))) (w' := w) ?_ h hp (RepP.lit _ rfl) (bool_ev he)
            simp only [execOp, ho, e1, e2, Sem.run_bind, if_true, run_eqGuard_agg w .neq ty x y vs us g2, run_neq_struct, hE, Result.andThen_ok, Sem.run_pure]
        · exact he.elim
      · exact he.elim
    · exact he.elim
  · exact he.elim
set_option maxHeartbeats 1000000 in
theorem binOp_ok (hτ : TauOK P τ) (op : BinOp) (ty yt : TypeId) (x y : Operand) (ho : o.op = .binOp op ty x y yt) (h : Rel w0 S0 N (fun κ => wr κ = true) g a w β S) (hp : PtrOK g) (hd : dstOK N o = true) (hN : Next w0 S0 N wr g ws K)
    (he : vcT G P (opT P τ o) g wr (fun _ v => v = ws)) : o.wp P a w K Q := by
  simp only [opT, ho] at he
  obtain ⟨cx, he, hvx, _⟩ := opnd_ev hKt h he
  obtain ⟨cy, he, hvy, _⟩ := opnd_ev hKt h he
  unfold tBin at he
  split at he
  · rename_i u v hcx hcy
    rw [hcx] at hvx
    rw [hcy] at hvy
    have hx := (rep_lit hvx).1
    have hy := (rep_lit hvy).1
    have lit : ∀ {r : Value}, r.oneCell' = true → (∀ w, (do eqGuard op ty x y u v; binOp op ty u v : Sem Value).run P w = .ok r w) → vcT G P (WP o.dst (.lit r)) g wr (fun _ v => v = ws) → o.wp P a w K Q := fun h1 hr he => by
      refine finWP hN hd (v := _) (w' := w) ?_ h hp (RepP.lit _ h1) he
      have := hr w
      simp only [execOp, ho, hx, hy, Sem.run_bind, this, Result.andThen_ok, Sem.run_pure]
    split at he
    · split at he
      · rename_i hk; subst hk
        exact lit (r := .int _ _) rfl (fun w => by simp [eqGuard, binOp, Op.intArith]) (num_ev he)
      · exact he.elim
    · split at he
      · rename_i hk; subst hk
        exact lit (r := .int _ _) rfl (fun w => by simp [eqGuard, binOp, Op.intArith]) (num_ev he)
      · exact he.elim
    · split at he
      · rename_i hk; subst hk
        exact lit (r := .int _ _) rfl (fun w => by simp [eqGuard, binOp, Op.intArith]) (num_ev he)
      · exact he.elim
    · split at he
      · rename_i hk; subst hk
        exact lit (r := .bool _) rfl (fun w => by simp [eqGuard, binOp, Op.intCmp, eq_dec, ne_dec]) (bool_ev he)
      · exact he.elim
    · split at he
      · rename_i hk; subst hk
        exact lit (r := .bool _) rfl (fun w => by simp [eqGuard, binOp, Op.intCmp, eq_dec, ne_dec]) (bool_ev he)
      · exact he.elim
    · split at he
      · rename_i hk; subst hk
        exact lit (r := .bool _) rfl (fun w => by simp [eqGuard, binOp, Op.intCmp, eq_dec, ne_dec]) (bool_ev he)
      · exact he.elim
    · split at he
      · rename_i hk; subst hk
        exact lit (r := .bool _) rfl (fun w => by simp [eqGuard, binOp, Op.intCmp, eq_dec, ne_dec]) (bool_ev he)
      · exact he.elim
    · split at he
      · rename_i hk; subst hk
        exact lit (r := .bool _) rfl (fun w => by simp [eqGuard, binOp, Op.intCmp, eq_dec, ne_dec]) (bool_ev he)
      · exact he.elim
    · split at he
      · rename_i hk; subst hk
        exact lit (r := .bool _) rfl (fun w => by simp [eqGuard, binOp, Op.intCmp, eq_dec, ne_dec]) (bool_ev he)
      · exact he.elim
    · obtain ⟨⟨hle⟩, he⟩ := he
      exact lit (r := .string _) rfl (fun w => by
        simp [eqGuard, binOp, Op.stringOp]
        omega) (str_ev he)
    · exact lit (r := .bool _) rfl (fun w => by simp [eqGuard, binOp, Op.stringOp, str_eq]) (bool_ev he)
    · exact lit (r := .bool _) rfl (fun w => by simp [eqGuard, binOp, Op.stringOp, str_eq]) (bool_ev he)
    · exact lit (r := .bool _) rfl (fun w => by simp [eqGuard, binOp, Op.stringOp, str_eq]) (bool_ev he)
    · exact lit (r := .bool _) rfl (fun w => by simp [eqGuard, binOp, Op.stringOp, str_eq]) (bool_ev he)
    · exact lit (r := .bool _) rfl (fun w => by simp [eqGuard, binOp, Op.stringOp, str_eq]) (bool_ev he)
    · exact lit (r := .bool _) rfl (fun w => by simp [eqGuard, binOp, Op.stringOp, str_eq]) (bool_ev he)
    · split at he
      · rename_i ht
        have hu := hτ.u _ _ ht
        exact lit (r := .bool _) rfl (fun w => by simp [eqGuard, binOp, run_equal_bool hu, eq_dec, ne_dec]) (bool_ev he)
      · exact he.elim
    · split at he
      · rename_i ht
        have hu := hτ.u _ _ ht
        exact lit (r := .bool _) rfl (fun w => by simp [eqGuard, binOp, run_equal_bool hu, eq_dec, ne_dec]) (bool_ev he)
      · exact he.elim
    · split at he
      · rename_i r hr
        split at he
        · rename_i hk; subst hk
          split at he
          · rename_i h1
            exact lit h1 (fun w => by simp [eqGuard, binOp, pureRun_run hr w]) he
          · exact he.elim
        · exact he.elim
      · exact he.elim
    · split at he
      · rename_i r hr
        split at he
        · rename_i hk; subst hk
          split at he
          · rename_i h1
            exact lit h1 (fun w => by simp [eqGuard, binOp, pureRun_run hr w]) he
          · exact he.elim
        · exact he.elim
      · exact he.elim
    · exact he.elim
  · rename_i as bs hcx hcy
    rw [hcx] at hvx
    rw [hcy] at hvy
    split at he
    · exact eqS_ok hτ false ty yt x y ho h hp hd hN hvx hvy he
    · exact eqS_ok hτ true ty yt x y ho h hp hd hN hvx hvy he
    · exact he.elim
  · exact he.elim
end
end
end Go.Proofs.YtpflimghkckpjaaGreatDoor.B
