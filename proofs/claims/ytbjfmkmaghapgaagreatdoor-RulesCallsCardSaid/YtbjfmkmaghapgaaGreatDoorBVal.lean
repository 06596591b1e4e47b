/-
A small logic of pure values over the model: abstract values, and how a value of the model stands for one. Condition: none.
-/
import Derived.Below
import Derived.Laws.AppendOwn
import Derived.Laws.OwnMore
import Derived.Deep.AppendLies
import Derived.Orders
import Derived.Laws.NewBlocks
set_option linter.unusedVariables false
namespace Go.Proofs.YtbjfmkmaghapgaaGreatDoor.B
open Go.RowKit

/-- A pure value: a value of one cell as it is; no list; a list, row by row; the cells of a struct or array; several results. -/
inductive PV where
  | lit (v : Value)
  | nil
  | sl (xs : List (List PV))
  | agg (cs : List PV)
  | tup (vs : List PV)

abbrev Own := Option (TypeId × Nat)

/-- A slice of nothing, wherever it points. -/
def Nil0 (v : Value) : Prop := ∃ A, v = .slice A 0 0
theorem Nil0.none : Nil0 (.slice none 0 0) := ⟨_, rfl⟩
inductive RepP (S : Nat → Nat → Prop) (w : World) : Value → PV → Prop
  | lit (v : Value) : v.oneCell' = true → RepP S w v (.lit v)
  | nil : RepP S w (.slice none 0 0) .nil
  | nil' (A : Option Addr) : RepP S w (.slice A 0 0) (.sl [])
  | sl (b off k cap : Nat) (xs : List (List PV)) (c : Nat → Nat → Value) : xs.length ≤ cap → (∀ r, r ∈ xs → r.length = k) →
      (∀ i j : Nat, i < xs.length → j < k → S b (off + i * k + j)) → (∀ i j : Nat, i < xs.length → j < k → w.cell? ⟨b, off + i * k + j, none⟩ = some (c i j) ∧ (c i j).oneCell' = true) →
      (∀ (i j : Nat) (r : List PV) (x : PV), xs[i]? = some r → r[j]? = some x → RepP S w (c i j) x) → RepP S w (.slice (some ⟨b, off, none⟩) xs.length cap) (.sl xs)
  | agg (vs : Array Value) (cs : List PV) : vs.size = cs.length → (∀ v, v ∈ vs → v.oneCell' = true) → (∀ (i : Nat) (v : Value) (x : PV), vs[i]? = some v → cs[i]? = some x → RepP S w v x) → RepP S w (.agg vs) (.agg cs)
  | tup (vs : Array Value) (cs : List PV) : vs.size = cs.length → (∀ (i : Nat) (v : Value) (x : PV), vs[i]? = some v → cs[i]? = some x → RepP S w v x) → RepP S w (.tuple vs) (.tup cs)

theorem RepP.mono {S S' : Nat → Nat → Prop} {w w' : World} {v : Value} {p : PV} (h : RepP S w v p) (hS : ∀ b o, S b o → S' b o) (hc : ∀ b o, S b o → w'.cell? ⟨b, o, none⟩ = w.cell? ⟨b, o, none⟩) :
    RepP S' w' v p := by
  induction h with
  | lit v h => exact .lit v h
  | nil => exact .nil
  | nil' A => exact .nil' A
  | sl b off k cap xs c h1 h2 h3 h4 h5 ih => exact .sl b off k cap xs c h1 h2 (fun i j hi hj => hS _ _ (h3 i j hi hj)) (fun i j hi hj => ⟨(hc _ _ (h3 i j hi hj)).trans (h4 i j hi hj).1, (h4 i j hi hj).2⟩) ih
  | agg vs cs h1 h2 h3 ih => exact .agg vs cs h1 h2 ih
  | tup vs cs h1 h2 ih => exact .tup vs cs h1 ih

/-- One cell? -/
def PV.one : PV → Bool
  | .lit _ | .nil | .sl _ => true
  | _ => false
theorem RepP.one {S : Nat → Nat → Prop} {w : World} {v : Value} {p : PV} (h : RepP S w v p) (hp : p.one = true) : v.oneCell' = true := by
  cases h <;> first | assumption | rfl | (cases hp)

/-- Lists without an element, whichever. -/
def PV.n1 : PV → PV
  | .nil => .sl []
  | p => p
def PV.n2 : PV → PV
  | .nil => .sl []
  | .agg cs => .agg (cs.map PV.n1)
  | p => p
def PV.norm : PV → PV
  | .nil => .sl []
  | .agg cs => .agg (cs.map PV.n1)
  | .tup cs => .tup (cs.map PV.n2)
  | p => p
theorem RepP.nil1 {S : Nat → Nat → Prop} {w : World} {v : Value} {p : PV} (h : RepP S w v p) : RepP S w v p.n1 := by
  cases p with
  | nil => cases h; exact .nil' _
  | _ => exact h
theorem RepP.nilAgg {S : Nat → Nat → Prop} {w : World} {v : Value} {cs : List PV} (h : RepP S w v (.agg cs)) : RepP S w v (.agg (cs.map PV.n1)) := by
  cases h with
  | agg vs _ h1 h2 h3 =>
    refine .agg vs _ (by simpa using h1) h2 (fun i v x hv hx => ?_)
    rw [List.getElem?_map] at hx
    cases hc : cs[i]? with
    | none => rw [hc] at hx; cases hx
    | some q =>
      rw [hc] at hx
      simp only [Option.map_some, Option.some.injEq] at hx
      subst hx
      exact (h3 i v q hv hc).nil1
theorem RepP.norm {S : Nat → Nat → Prop} {w : World} {v : Value} {p : PV} (h : RepP S w v p) : RepP S w v p.norm := by
  cases p with
  | nil => cases h; exact .nil' _
  | agg cs => exact h.nilAgg
  | tup cs =>
    cases h with
    | tup vs _ h1 h3 =>
      refine .tup vs _ (by simpa using h1) (fun i v x hv hx => ?_)
      rw [List.getElem?_map] at hx
      cases hc : cs[i]? with
      | none => rw [hc] at hx; cases hx
      | some q =>
        rw [hc] at hx
        simp only [Option.map_some, Option.some.injEq] at hx
        subst hx
        have hq := h3 i v q hv hc
        cases q with
        | nil => cases hq; exact .nil' _
        | agg ds => exact hq.nilAgg
        | _ => exact hq
  | _ => exact h

/-! ### lists of one's own: a value's parts that are such lists; 'k = 0': a struct, its lists are told by a number -/
/-- The lists of a struct, by a number: its cell, the elements' type, the cells of a row. -/
def decO : Nat → Nat → List (Nat × TypeId × Nat)
  | 0, _ => []
  | n + 1, c => if c = 0 then [] else (c % 1024, c / 1024 % 65536, c / 67108864 % 4096) :: decO n (c / 274877906944)
def encO : List (Nat × TypeId × Nat) → Nat
  | [] => 0
  | (o, e, k) :: r => o + 1024 * (e + 65536 * k) + 274877906944 * encO r
abbrev Part := TypeId × Nat × Value
def cutO (vs : Array Value) : List (Nat × TypeId × Nat) → List Part
  | [] => []
  | (o, e, k) :: r => match vs[o]? with
    | some u => (e, k, u) :: cutO vs r
    | none => cutO vs r
def partsO (p : TypeId × Nat) (v : Value) : List Part :=
  if p.2 = 0 then (match v with
    | .agg vs => cutO vs (decO 16 p.1)
    | _ => []) else [(p.1, p.2, v)]
def BlkL (qs : List Part) (b : Nat) : Prop := ∃ q, q ∈ qs ∧ q.2.2.ownBlock = some b
/-- The blocks that are owned. -/
def Blk (ow : Own) (v : Value) (b : Nat) : Prop :=
  match ow with
  | none => False
  | some p => BlkL (partsO p v) b
def OwnQ (w : World) (S : Nat → Nat → Prop) (q : Part) : Prop := ∃ n xs, w.ownsRow 0 q.1 q.2.1 q.2.2 n xs ∧ ∀ b, q.2.2.ownBlock = some b → ∀ o, S b o → o < n * q.2.1
def Dist (qs : List Part) : Prop := qs.Pairwise fun q r => ∀ b, q.2.2.ownBlock = some b → r.2.2.ownBlock ≠ some b
/-- Lists of one's own, apart from each other. -/
def OwsL (H : Nat → Prop) (w : World) (S : Nat → Nat → Prop) (qs : List Part) : Prop := (∀ q, q ∈ qs → OwnQ w S q ∧ ∀ b, q.2.2.ownBlock = some b → H b) ∧ Dist qs
theorem OwsL.mono {H H' : Nat → Prop} {w w' : World} {S S' : Nat → Nat → Prop} {qs : List Part} (h : OwsL H w S qs) (hH : ∀ b, BlkL qs b → H b → H' b) (hb : ∀ b, BlkL qs b → w'.heap[b]? = w.heap[b]?) (hS : ∀ b o, BlkL qs b → S' b o → S b o) : OwsL H' w' S' qs := by
  refine ⟨fun q hq => ?_, h.2⟩
  obtain ⟨⟨n, xs, h1, h2⟩, h3⟩ := h.1 q hq
  refine ⟨⟨n, xs, ⟨h1.1, ?_⟩, fun b hb' o hs => h2 b hb' o (hS b o ⟨q, hq, hb'⟩ hs)⟩, fun b hb' => hH b ⟨q, hq, hb'⟩ (h3 b hb')⟩
  rcases h1.2 with k | ⟨g, cap, cur, hv, hg, hh, r⟩
  · exact .inl k
  · exact .inr ⟨g, cap, cur, hv, hg, (hb g ⟨q, hq, by rw [hv]; rfl⟩).trans hh, r⟩
theorem OwsL.imp {H H' : Nat → Prop} {w : World} {S : Nat → Nat → Prop} {qs : List Part} (h : OwsL H w S qs) (hH : ∀ b, BlkL qs b → H b → H' b) : OwsL H' w S qs := h.mono hH (fun _ _ => rfl) (fun _ _ _ hs => hs)
theorem OwsL.lt {H : Nat → Prop} {w : World} {S : Nat → Nat → Prop} {qs : List Part} (h : OwsL H w S qs) {b : Nat} (hb : BlkL qs b) : b < w.heap.size := by
  obtain ⟨q, hq, hb⟩ := hb
  obtain ⟨⟨n, xs, h1, _⟩, _⟩ := h.1 q hq
  exact (h1.lt b hb).2
theorem OwsL.at {H : Nat → Prop} {w : World} {S : Nat → Nat → Prop} {qs : List Part} (h : OwsL H w S qs) {b : Nat} (hb : BlkL qs b) : H b := by
  obtain ⟨q, hq, hb⟩ := hb
  exact (h.1 q hq).2 b hb
theorem OwsL.nil {H : Nat → Prop} {w : World} {S : Nat → Nat → Prop} : OwsL H w S [] := ⟨fun q hq => by simp at hq, List.Pairwise.nil⟩
theorem OwsL.cons {H : Nat → Prop} {w : World} {S : Nat → Nat → Prop} {q : Part} {qs : List Part} : OwsL H w S (q :: qs) ↔ (OwnQ w S q ∧ ∀ b, q.2.2.ownBlock = some b → H b ∧ ¬ BlkL qs b) ∧ OwsL H w S qs := by
  constructor
  · rintro ⟨h1, h2⟩
    obtain ⟨h3, h4⟩ := List.pairwise_cons.1 h2
    exact ⟨⟨(h1 q (List.mem_cons_self ..)).1, fun b hb => ⟨(h1 q (List.mem_cons_self ..)).2 b hb, fun ⟨r, hr, hrb⟩ => h3 r hr b hb hrb⟩⟩, fun r hr => h1 r (List.mem_cons_of_mem _ hr), h4⟩
  · rintro ⟨⟨h1, h2⟩, h3, h4⟩
    refine ⟨fun r hr => ?_, List.pairwise_cons.2 ⟨fun r hr b hb hrb => (h2 b hb).2 ⟨r, hr, hrb⟩, h4⟩⟩
    rcases List.mem_cons.1 hr with e | hr
    · subst e; exact ⟨h1, fun b hb => (h2 b hb).1⟩
    · exact h3 r hr
theorem BlkL.cons {q : Part} {qs : List Part} {b : Nat} : BlkL (q :: qs) b ↔ q.2.2.ownBlock = some b ∨ BlkL qs b := by
  constructor
  · rintro ⟨r, hr, hb⟩
    rcases List.mem_cons.1 hr with e | hr
    · subst e; exact .inl hb
    · exact .inr ⟨r, hr, hb⟩
  · rintro (h | ⟨r, hr, hb⟩)
    · exact ⟨q, List.mem_cons_self .., h⟩
    · exact ⟨r, List.mem_cons_of_mem _ hr, hb⟩
theorem partsO_one {e : TypeId} {k : Nat} (hk : k ≠ 0) (v : Value) : partsO (e, k) v = [(e, k, v)] := if_neg hk
theorem blk_one {e : TypeId} {k : Nat} (hk : k ≠ 0) {v : Value} {b : Nat} : Blk (some (e, k)) v b ↔ v.ownBlock = some b := by
  show BlkL (partsO (e, k) v) b ↔ _
  rw [partsO_one hk, BlkL.cons]
  exact ⟨fun h => h.elim id (fun ⟨r, hr, _⟩ => by simp at hr), .inl⟩
theorem owsL_one {H : Nat → Prop} {w : World} {S : Nat → Nat → Prop} {q : Part} : OwsL H w S [q] ↔ ∃ n xs, w.ownsRow 0 q.1 q.2.1 q.2.2 n xs ∧ ∀ b, q.2.2.ownBlock = some b → (∀ o, S b o → o < n * q.2.1) ∧ H b := by
  rw [OwsL.cons]
  constructor
  · rintro ⟨⟨⟨n, xs, h1, h2⟩, h3⟩, _⟩
    exact ⟨n, xs, h1, fun b hb => ⟨h2 b hb, (h3 b hb).1⟩⟩
  · rintro ⟨n, xs, h1, h2⟩
    exact ⟨⟨⟨n, xs, h1, fun b hb => (h2 b hb).1⟩, fun b hb => ⟨(h2 b hb).2, fun ⟨r, hr, _⟩ => by simp at hr⟩⟩, .nil⟩
theorem own_base {w : World} {base : Nat} {e : TypeId} {k : Nat} {v : Value} {n : Nat} {xs : List Value} (h : w.ownsRow 0 e k v n xs) (hb : ∀ b, v.ownBlock = some b → base ≤ b) : w.ownsRow base e k v n xs := by
  refine ⟨h.1, ?_⟩
  rcases h.2 with q | ⟨g, cap, cur, hv, _, r⟩
  · exact .inl q
  · exact .inr ⟨g, cap, cur, hv, hb g (by rw [hv]; rfl), r⟩
theorem own_zero {w : World} {base : Nat} {e : TypeId} {k : Nat} {v : Value} {n : Nat} {xs : List Value} (h : w.ownsRow base e k v n xs) : w.ownsRow 0 e k v n xs := by
  refine ⟨h.1, ?_⟩
  rcases h.2 with q | ⟨g, cap, cur, hv, _, r⟩
  · exact .inl q
  · exact .inr ⟨g, cap, cur, hv, Nat.zero_le _, r⟩
/-- What a call of a function comes to: 'own': the result is a list in memory of its own, to which more may be appended; or a struct of such. -/
def OwnR (base : Nat) (S : Nat → Nat → Prop) (w : World) (v : Value) : Own → Prop
  | none => True
  | some p => OwsL (fun b => base ≤ b) w S (partsO p v)
theorem ownR_one {base : Nat} {S : Nat → Nat → Prop} {w : World} {v : Value} {e : TypeId} {k : Nat} (hk : k ≠ 0) : OwnR base S w v (some (e, k)) ↔ ∃ n xs, w.ownsRow base e k v n xs ∧ ∀ b, v.ownBlock = some b → ∀ o, S b o → o < n * k := by
  show OwsL _ w S (partsO (e, k) v) ↔ _
  rw [partsO_one hk, owsL_one]
  constructor
  · rintro ⟨n, xs, h1, h2⟩
    exact ⟨n, xs, own_base h1 (fun b hb => (h2 b hb).2), fun b hb => (h2 b hb).1⟩
  · rintro ⟨n, xs, h1, h2⟩
    exact ⟨n, xs, own_zero h1, fun b hb => ⟨h2 b hb, (h1.lt b hb).1⟩⟩
def RepL (S : Nat → Nat → Prop) (w : World) (vs : Array Value) (ps : List PV) : Prop := vs.size = ps.length ∧ ∀ (i : Nat) (v : Value) (p : PV), vs[i]? = some v → ps[i]? = some p → RepP S w v p
def Callable (P : Program) (f : FuncId) : Prop := ∃ fn, P.funcs[f]? = some fn ∧ (fn.name == "runtime.NumGoroutine") = false ∧ fn.body.isSome = true
def ACalls (G : World → Prop) (P : Program) (f : FuncId) (args : List PV) (res : PV) (own : Own) : Prop :=
  Callable P f ∧ ∀ (w : World) (S : Nat → Nat → Prop) (vs : Array Value), G w → (∀ b o, S b o → b < w.heap.size) → RepL S w vs args →
    Calls P f vs w fun e w' => ∃ v S', e = .returned v ∧ Below w.heap.size w w' ∧ G w' ∧ (∀ b o, S b o → S' b o) ∧ (∀ b o, S' b o → S b o ∨ w.heap.size ≤ b) ∧ (∀ b o, S' b o → b < w'.heap.size) ∧
      RepP S' w' v res ∧ OwnR w.heap.size S' w' v own ∧ ((∀ w, G w) → w.drawn ≤ w'.drawn)
/-! ### the number of draws does not sink -/
theorem ask_drawn {α : Type} : ∀ (s : Ask α) (w : World), w.drawn ≤ (w.ask s).2.drawn
  | .done a, w => Nat.le_refl _
  | .ask what range k, w => by
    unfold World.ask
    dsimp only
    split
    · exact ask_drawn _ w
    · exact Nat.le_trans (Nat.le_succ _) (ask_drawn _ { w with drawn := w.drawn + 1 })
theorem sys_drawn (w : World) (c : Sys) : w.drawn ≤ (w.sys c).2.drawn := by
  have h := ask_drawn (Kernel.perform c w.os) w
  unfold World.sys
  split
  · exact Nat.le_refl _
  · rename_i r os w' e1
    rw [e1] at h
    exact h
theorem view_drawn {p : Program} {w w' : World} {at_ : Addr} {u : TypeId} {k : Addr} {v : Value} {b : Bool} {l : List Addr} (h : w.viewStore p at_ u k v b = .ok (w', l)) : w'.drawn = w.drawn := by
  unfold World.viewStore at h
  simp only [bind, Except.bind, pure, Except.pure] at h
  repeat' split at h
  all_goals first | cases h; done | (cases h; rfl) | skip
theorem far_drawn {p : Program} {w w' : World} {k : Addr} {v : Value} {b : Bool} {l : List Addr} (h : w.farStore p k v b = .ok (w', l)) : w'.drawn = w.drawn := by
  unfold World.farStore at h
  split at h
  · split at h
    · rename_i r hr
      cases h
      exact view_drawn hr
    · cases h
  · cases h
def worldOf {α : Type} : Result α → World
  | .ok _ w => w
  | .halt _ w => w
theorem setCell_drawn (w : World) (a : Addr) (v : Value) : (w.setCell a v).drawn = w.drawn := rfl
theorem freeze_drawn (w : World) (a : Addr) (n : Nat) : (w.freeze a n).drawn = w.drawn := by unfold World.freeze; split <;> rfl
theorem run_drawn {α : Type} (P : Program) : ∀ (s : Sem α) (w : World), w.drawn ≤ (worldOf (s.run P w)).drawn := by
  intro s
  induction s with
  | pure a => intro w; exact Nat.le_refl _
  | load m a k ih =>
    intro w
    unfold Sem.run
    split
    · exact ih _ w
    · split
      · exact ih _ w
      · exact Nat.le_refl _
  | store m a v k ih =>
    intro w
    cases v with
    | agg c => exact Nat.le_refl _
    | tuple c => exact Nat.le_refl _
    | _ =>
      simp only [Sem.run]
      split
      · split
        · exact Nat.le_refl _
        · exact ih (w.setCell a _)
      · split
        · rename_i w1 l e
          exact (far_drawn e) ▸ ih w1
        · exact Nat.le_refl _
  | new o k ih => intro w; exact ih _ { w with heap := w.heap.push o }
  | shape r k ih => intro w; exact ih _ w
  | freeze a n k ih => intro w; exact (freeze_drawn w a n) ▸ ih (w.freeze a n)
  | frozen a k ih => intro w; exact ih _ w
  | getObj r k ih =>
    intro w
    unfold Sem.run
    split
    · exact Nat.le_refl _
    · exact ih _ w
    · exact Nat.le_refl _
  | setObj r o k ih =>
    intro w
    unfold Sem.run
    split
    · exact Nat.le_refl _
    · exact ih { w with heap := w.heap.setIfInBounds r o }
    · exact Nat.le_refl _
  | choose q k ih =>
    intro w
    unfold Sem.run
    split
    · exact ih _ w
    · exact Nat.le_trans (Nat.le_succ _) (ih _ { w with drawn := w.drawn + 1 })
  | sys c k ih =>
    intro w
    exact Nat.le_trans (sys_drawn w c) (ih _ (w.sys c).2)
  | program k ih => intro w; exact ih _ w
  | mark m k ih => intro w; exact ih w
  | halt h => intro w; exact Nat.le_refl _
theorem run_ok_drawn {α : Type} {P : Program} {s : Sem α} {w w' : World} {a : α} (h : s.run P w = .ok a w') : w.drawn ≤ w'.drawn := by
  have := run_drawn P s w
  rw [h] at this
  exact this

/-! ### the state of a frame -/
inductive Key where
  | t (i : Nat)
  | b (i o : Nat)
  | al (i : Nat)
  deriving DecidableEq
/-- An entry of a map: when it was born, its key, its value. -/
structure ME where
  born : Nat
  key : PV
  val : PV
/-- An entry whose value is a pointer to a variable's cell. -/
structure MP where
  born : Nat
  key : PV
  i : Nat
  o : Nat
/-- What a closure has captured. -/
inductive CV where
  | pv (p : PV)
  | ptr (i o : Nat)
  | mp (i : Nat)
  | slp (i k lo n : Nat)
def CV.refs : CV → List Nat
  | .pv _ => []
  | .ptr i _ => [i]
  | .mp i => [i]
  | .slp i _ _ _ => [i]
def refsC : List CV → List Nat
  | [] => []
  | c :: r => c.refs ++ refsC r
/-- What a temporary or a cell of a variable in memory holds: nothing that is known; a pure value; a pointer to a variable's cell; one to a cell of a list's row; a map; an iterator; rows of a list that may be written (box, cells of a row, first row, number); a pointer to a cell of such a row; a closure; several results. Then the CONTENT of a map (pure values, or pointers), of an iterator over a map (what was seen, the last one first) or over a text, of a list that may be written. -/
inductive FV where
  | un
  | pv (p : PV)
  | ptr (i o : Nat)
  | ept (row : List PV) (j : Nat)
  | mp (i : Nat)
  | it (i : Nat)
  | slp (i k lo n : Nat)
  | rpt (i k r j : Nat)
  | clo (f : FuncId) (caps : List CV)
  | tupf (vs : List CV)
  | aggf (vs : List CV)
  | ents (es : List ME) (clk : Nat)
  | entp (es : List MP) (clk : Nat)
  | iter (m clk : Nat) (seen : List Nat)
  | siter (s : ByteArray) (pos : Nat)
  | rows (k : Nat) (xs : List (List PV))
/-- The variables that a value speaks of. -/
def FV.refs : FV → List Nat
  | .ptr i _ => [i]
  | .mp i => [i]
  | .it i => [i]
  | .slp i _ _ _ => [i]
  | .rpt i _ _ _ => [i]
  | .clo _ cs => refsC cs
  | .tupf cs => refsC cs
  | .aggf cs => refsC cs
  | .entp es _ => es.map MP.i
  | .iter m _ _ => [m]
  | _ => []
/-- A number of something in memory says what it is: 10000 * (4 * cells + kind) + temporary; kind 0: a variable; 1: one that was handed to the function; 2: a map, an iterator, or a list that may be written; 3: such a one, handed to the function. -/
def objId (i : Nat) : Bool := Nat.ble 2 (i / 10000 % 4)
def handId (i : Nat) : Bool := Nat.beq (i / 10000 % 2) 1
def isCell (i o : Nat) : Bool := !objId i && Nat.blt o (i / 40000)
theorem isCell_obj {i o : Nat} (h : isCell i o = true) : objId i = false := by
  unfold isCell at h
  cases ho : objId i with
  | true => rw [ho] at h; simp at h
  | false => rfl
structure C where
  v : FV
  own : Own
  frm : Option Key
def RowAt (S : Nat → Nat → Prop) (w : World) (b base : Nat) (row : List PV) : Prop := ∀ (j : Nat) (x : PV), row[j]? = some x → S b (base + j) ∧ ∃ c, w.cell? ⟨b, base + j, none⟩ = some c ∧ RepP S w c x ∧ c.oneCell' = true
def RepCV (β : Nat → Nat) (S : Nat → Nat → Prop) (w : World) (v : Value) : CV → Prop
  | .pv p => RepP S w v p
  | .ptr i o => v = .pointer (some ⟨β i, o, none⟩)
  | .mp i => v = .map (some (β i))
  | .slp i k lo n => ∃ cap off, n ≤ cap ∧ v = .slice (some ⟨β i, off, none⟩) n cap ∧ (n = 0 ∨ off = lo * k)
def RepC (β : Nat → Nat) (S : Nat → Nat → Prop) (w : World) : List Value → List CV → Prop
  | [], [] => True
  | v :: vs, c :: cs => RepCV β S w v c ∧ RepC β S w vs cs
  | _, _ => False
def RepF (β : Nat → Nat) (S : Nat → Nat → Prop) (w : World) (v : Value) : FV → Prop
  | .un => True
  | .pv p => RepP S w v p
  | .ptr i o => v = .pointer (some ⟨β i, o, none⟩)
  | .ept row j => ∃ b base, v = .pointer (some ⟨b, base + j, none⟩) ∧ RowAt S w b base row
  | .mp i => v = .map (some (β i))
  | .it i => v = .pointer (some ⟨β i, 0, none⟩)
  | .slp i k lo n => ∃ cap off, n ≤ cap ∧ v = .slice (some ⟨β i, off, none⟩) n cap ∧ (n = 0 ∨ off = lo * k)
  | .rpt i k r j => v = .pointer (some ⟨β i, r * k + j, none⟩)
  | .clo f cs => ∃ caps : List Value, v = .func (.func f) #[] caps.toArray ∧ RepC β S w caps cs
  | .tupf cs => ∃ vs : List Value, v = .tuple vs.toArray ∧ RepC β S w vs cs
  | .aggf cs => ∃ vs : List Value, v = .agg vs.toArray ∧ RepC β S w vs cs ∧ ∀ u, u ∈ vs → u.oneCell' = true
  | _ => False
/-- Stamps are all different, and older than the clock. -/
def Stamped (bs : List Nat) (clk : Nat) : Prop := bs.Nodup ∧ ∀ b, b ∈ bs → b < clk
def EntR (S : Nat → Nat → Prop) (w : World) (arr : List MapEntry) (es : List ME) : Prop :=
  arr.length = es.length ∧ ∀ (i : Nat) e m, arr[i]? = some e → es[i]? = some m → e.born = m.born ∧ RepP S w e.key m.key ∧ RepP S w e.val m.val
def EntQ (β : Nat → Nat) (S : Nat → Nat → Prop) (w : World) (arr : List MapEntry) (es : List MP) : Prop :=
  arr.length = es.length ∧ ∀ (i : Nat) e m, arr[i]? = some e → es[i]? = some m → e.born = m.born ∧ RepP S w e.key m.key ∧ e.val = .pointer (some ⟨β m.i, m.o, none⟩)
/-- The first rows of a block. -/
def RowsAt (S : Nat → Nat → Prop) (w : World) (b k : Nat) (xs : List (List PV)) : Prop :=
  (∀ r, r ∈ xs → r.length = k) ∧ ∀ (i j : Nat) (r : List PV) (x : PV), xs[i]? = some r → r[j]? = some x → ∃ c, w.cell? ⟨b, i * k + j, none⟩ = some c ∧ RepP S w c x ∧ c.oneCell' = true
/-- What a variable's cell holds; or a map, an iterator, or a list that may be written, as a whole. -/
def HoldsB (β : Nat → Nat) (S : Nat → Nat → Prop) (w : World) (i o : Nat) : FV → Prop
  | .ents es clk => objId i = true ∧ o = 0 ∧ ∃ arr, w.heap[β i]? = some (.map arr clk) ∧ EntR S w arr.toList es ∧ Stamped (es.map ME.born) clk
  | .entp es clk => objId i = true ∧ o = 0 ∧ ∃ arr, w.heap[β i]? = some (.map arr clk) ∧ EntQ β S w arr.toList es ∧ Stamped (es.map MP.born) clk
  | .iter m clk seen => objId i = true ∧ o = 0 ∧ w.heap[β i]? = some (.mapIter (some (β m)) clk seen.reverse.toArray clk)
  | .siter s pos => objId i = true ∧ o = 0 ∧ w.heap[β i]? = some (.stringIter s pos)
  | .rows k xs => objId i = true ∧ o = 0 ∧ RowsAt S w (β i) k xs ∧ ∀ q, w.frozen? ⟨β i, q, none⟩ = false
  | fv => isCell i o = true ∧ ∃ c, w.cell? ⟨β i, o, none⟩ = some c ∧ RepF β S w c fv ∧ w.frozen? ⟨β i, o, none⟩ = false
def rv (β : Nat → Nat) (a : Act) (w : World) : Key → Option Value
  | .t i => some (a.tmps.getD i undef)
  | .b i o => if isCell i o = true then w.cell? ⟨β i, o, none⟩ else none
  | .al _ => none
theorem rv_b {β : Nat → Nat} {a : Act} {w : World} {i o : Nat} (h : isCell i o = true) : rv β a w (.b i o) = w.cell? ⟨β i, o, none⟩ := if_pos h
theorem rv_obj {β : Nat → Nat} {a : Act} {w : World} {i o : Nat} (h : isCell i o = false) : rv β a w (.b i o) = none := if_neg (by rw [h]; simp)
theorem rv_some {β : Nat → Nat} {a : Act} {w : World} {i o : Nat} {v : Value} (h : rv β a w (.b i o) = some v) : isCell i o = true ∧ w.cell? ⟨β i, o, none⟩ = some v := by
  cases hc : isCell i o with
  | true => rw [rv_b hc] at h; exact ⟨rfl, h⟩
  | false => rw [rv_obj hc] at h; cases h
theorem rv_cell {β : Nat → Nat} {a : Act} {w w' : World} {i o : Nat} (h : w'.cell? ⟨β i, o, none⟩ = w.cell? ⟨β i, o, none⟩) : rv β a w' (.b i o) = rv β a w (.b i o) := by
  show (if isCell i o = true then _ else none) = (if isCell i o = true then _ else none)
  rw [h]
theorem rv_ren {β β' : Nat → Nat} {a : Act} {w : World} {i o : Nat} (h : β' i = β i) : rv β' a w (.b i o) = rv β a w (.b i o) := by
  show (if isCell i o = true then w.cell? ⟨β' i, o, none⟩ else none) = (if isCell i o = true then _ else none)
  rw [h]
theorem RowAt.mono {S S' : Nat → Nat → Prop} {w w' : World} {b base : Nat} {row : List PV} (h : RowAt S w b base row) (hS : ∀ b o, S b o → S' b o) (hc : ∀ b o, S b o → w'.cell? ⟨b, o, none⟩ = w.cell? ⟨b, o, none⟩) : RowAt S' w' b base row :=
  fun j x hx => let ⟨h1, c, h2, h3, h4⟩ := h j x hx; ⟨hS _ _ h1, c, (hc _ _ h1).trans h2, h3.mono hS hc, h4⟩
theorem RepCV.mono {β : Nat → Nat} {S S' : Nat → Nat → Prop} {w w' : World} {v : Value} {x : CV} (h : RepCV β S w v x) (hS : ∀ b o, S b o → S' b o) (hc : ∀ b o, S b o → w'.cell? ⟨b, o, none⟩ = w.cell? ⟨b, o, none⟩) : RepCV β S' w' v x := by
  cases x with
  | pv p => exact RepP.mono h hS hc
  | _ => exact h
theorem RepC.mono {β : Nat → Nat} {S S' : Nat → Nat → Prop} {w w' : World} (hS : ∀ b o, S b o → S' b o) (hc : ∀ b o, S b o → w'.cell? ⟨b, o, none⟩ = w.cell? ⟨b, o, none⟩) : ∀ {vs : List Value} {xs : List CV}, RepC β S w vs xs → RepC β S' w' vs xs
  | [], [], _ => trivial
  | v :: vs, x :: xs, h => ⟨h.1.mono hS hc, RepC.mono hS hc h.2⟩
  | [], _ :: _, h => h.elim
  | _ :: _, [], h => h.elim
theorem RepCV.ren {β β' : Nat → Nat} {S : Nat → Nat → Prop} {w : World} {v : Value} {x : CV} (h : RepCV β S w v x) (hβ : ∀ i, i ∈ x.refs → β' i = β i) : RepCV β' S w v x := by
  cases x with
  | pv p => exact h
  | ptr i o => rw [RepCV] at h ⊢; rw [hβ i (by simp [CV.refs])]; exact h
  | mp i => rw [RepCV] at h ⊢; rw [hβ i (by simp [CV.refs])]; exact h
  | slp i k lo n => rw [RepCV] at h ⊢; rw [hβ i (by simp [CV.refs])]; exact h
theorem RepC.ren {β β' : Nat → Nat} {S : Nat → Nat → Prop} {w : World} : ∀ {vs : List Value} {xs : List CV}, RepC β S w vs xs → (∀ i, i ∈ refsC xs → β' i = β i) → RepC β' S w vs xs
  | [], [], _, _ => trivial
  | v :: vs, x :: xs, h, hβ => ⟨h.1.ren (fun i hi => hβ i (by simp [refsC, hi])), RepC.ren h.2 (fun i hi => hβ i (by simp [refsC, hi]))⟩
  | [], _ :: _, h, _ => h.elim
  | _ :: _, [], h, _ => h.elim
theorem RepF.mono {β : Nat → Nat} {S S' : Nat → Nat → Prop} {w w' : World} {v : Value} {x : FV} (h : RepF β S w v x) (hS : ∀ b o, S b o → S' b o) (hc : ∀ b o, S b o → w'.cell? ⟨b, o, none⟩ = w.cell? ⟨b, o, none⟩) : RepF β S' w' v x := by
  cases x with
  | un => trivial
  | pv p => exact RepP.mono h hS hc
  | ptr i o => exact h
  | ept row j => obtain ⟨b, base, h1, h2⟩ := h; exact ⟨b, base, h1, h2.mono hS hc⟩
  | mp i => exact h
  | it i => exact h
  | slp i k lo n => exact h
  | rpt i k r j => exact h
  | clo f cs => obtain ⟨caps, h1, h2⟩ := h; exact ⟨caps, h1, h2.mono hS hc⟩
  | tupf cs => obtain ⟨caps, h1, h2⟩ := h; exact ⟨caps, h1, h2.mono hS hc⟩
  | aggf cs => obtain ⟨caps, h1, h2, h3⟩ := h; exact ⟨caps, h1, h2.mono hS hc, h3⟩
  | ents es clk => exact h.elim
  | entp es clk => exact h.elim
  | iter m clk seen => exact h.elim
  | siter s pos => exact h.elim
  | rows k xs => exact h.elim
theorem EntR.mono {S S' : Nat → Nat → Prop} {w w' : World} {arr : List MapEntry} {es : List ME} (h : EntR S w arr es) (hS : ∀ b o, S b o → S' b o) (hc : ∀ b o, S b o → w'.cell? ⟨b, o, none⟩ = w.cell? ⟨b, o, none⟩) : EntR S' w' arr es :=
  ⟨h.1, fun i e m he hm => let ⟨h1, h2, h3⟩ := h.2 i e m he hm; ⟨h1, h2.mono hS hc, h3.mono hS hc⟩⟩
theorem EntQ.mono {β : Nat → Nat} {S S' : Nat → Nat → Prop} {w w' : World} {arr : List MapEntry} {es : List MP} (h : EntQ β S w arr es) (hS : ∀ b o, S b o → S' b o) (hc : ∀ b o, S b o → w'.cell? ⟨b, o, none⟩ = w.cell? ⟨b, o, none⟩) : EntQ β S' w' arr es :=
  ⟨h.1, fun i e m he hm => let ⟨h1, h2, h3⟩ := h.2 i e m he hm; ⟨h1, h2.mono hS hc, h3⟩⟩
theorem cell_of_block {w w' : World} {b : Nat} (h : w'.heap[b]? = w.heap[b]?) (o : Nat) : w'.cell? ⟨b, o, none⟩ = w.cell? ⟨b, o, none⟩ := by
  unfold World.cell?
  show (match w'.heap[b]? with | some (.cells c _ _) => _ | _ => _) = (match w.heap[b]? with | some (.cells c _ _) => _ | _ => _)
  rw [h]
theorem RowsAt.mono {S S' : Nat → Nat → Prop} {w w' : World} {b k : Nat} {xs : List (List PV)} (h : RowsAt S w b k xs) (hS : ∀ b o, S b o → S' b o) (hc : ∀ b o, S b o → w'.cell? ⟨b, o, none⟩ = w.cell? ⟨b, o, none⟩) (hb : w'.heap[b]? = w.heap[b]?) : RowsAt S' w' b k xs :=
  ⟨h.1, fun i j r x hr hx => let ⟨c, h1, h2, h3⟩ := h.2 i j r x hr hx; ⟨c, (cell_of_block hb _).trans h1, h2.mono hS hc, h3⟩⟩
/-- A variable whose block is as it was. -/
theorem HoldsB.mono {β : Nat → Nat} {S S' : Nat → Nat → Prop} {w w' : World} {i o : Nat} {x : FV} (h : HoldsB β S w i o x) (hS : ∀ b o, S b o → S' b o) (hc : ∀ b o, S b o → w'.cell? ⟨b, o, none⟩ = w.cell? ⟨b, o, none⟩)
    (hb : w'.heap[β i]? = w.heap[β i]?) (hf : w'.frozen? ⟨β i, o, none⟩ = w.frozen? ⟨β i, o, none⟩) : HoldsB β S' w' i o x := by
  have gen : ∀ x, (isCell i o = true ∧ ∃ c, w.cell? ⟨β i, o, none⟩ = some c ∧ RepF β S w c x ∧ w.frozen? ⟨β i, o, none⟩ = false) → isCell i o = true ∧ ∃ c, w'.cell? ⟨β i, o, none⟩ = some c ∧ RepF β S' w' c x ∧ w'.frozen? ⟨β i, o, none⟩ = false :=
    fun x ⟨h0, c, h1, h2, h3⟩ => ⟨h0, c, (cell_of_block hb o).trans h1, h2.mono hS hc, hf.trans h3⟩
  cases x with
  | ents es clk => obtain ⟨hi, h0, arr, h1, h2, h3⟩ := h; exact ⟨hi, h0, arr, hb.trans h1, h2.mono hS hc, h3⟩
  | entp es clk => obtain ⟨hi, h0, arr, h1, h2, h3⟩ := h; exact ⟨hi, h0, arr, hb.trans h1, h2.mono hS hc, h3⟩
  | iter m clk seen => obtain ⟨hi, h0, h1⟩ := h; exact ⟨hi, h0, hb.trans h1⟩
  | siter s pos => obtain ⟨hi, h0, h1⟩ := h; exact ⟨hi, h0, hb.trans h1⟩
  | rows k xs => obtain ⟨hi, h0, h1, h2⟩ := h; exact ⟨hi, h0, h1.mono hS hc hb, fun q => (World.frozen?_of_block (w := w) (a := ⟨β i, q, none⟩) hb).trans (h2 q)⟩
  | un => exact gen _ h
  | pv p => exact gen _ h
  | ptr i o' => exact gen _ h
  | ept row j => exact gen _ h
  | mp i => exact gen _ h
  | it i => exact gen _ h
  | slp i k lo n => exact gen _ h
  | rpt i k r j => exact gen _ h
  | clo f cs => exact gen _ h
  | tupf cs => exact gen _ h
  | aggf cs => exact gen _ h

/-- Nothing at all. -/
def FV.isNo : FV → Bool
  | .un => true
  | _ => false
/-- Not the value of a cell. -/
def FV.isUn : FV → Bool
  | .un | .ents _ _ | .entp _ _ | .iter _ _ _ | .siter _ _ | .rows _ _ => true
  | _ => false
theorem HoldsB.cell {β : Nat → Nat} {S : Nat → Nat → Prop} {w : World} {i o : Nat} {x : FV} (h : HoldsB β S w i o x) (hx : x.isUn = false) : isCell i o = true ∧ ∃ c, w.cell? ⟨β i, o, none⟩ = some c ∧ RepF β S w c x ∧ w.frozen? ⟨β i, o, none⟩ = false := by
  cases x <;> first | exact h | cases hx
theorem HoldsB.of_cell {β : Nat → Nat} {S : Nat → Nat → Prop} {w : World} {i o : Nat} {x : FV} (hx : x.isUn = false) (h : isCell i o = true ∧ ∃ c, w.cell? ⟨β i, o, none⟩ = some c ∧ RepF β S w c x ∧ w.frozen? ⟨β i, o, none⟩ = false) : HoldsB β S w i o x := by
  cases x <;> first | exact h | cases hx
theorem RepF.ren {β β' : Nat → Nat} {S : Nat → Nat → Prop} {w : World} {v : Value} {x : FV} (h : RepF β S w v x) (hβ : ∀ i, i ∈ x.refs → β' i = β i) : RepF β' S w v x := by
  cases x with
  | ptr i o => rw [RepF] at h ⊢; rw [hβ i (by simp [FV.refs])]; exact h
  | mp i => rw [RepF] at h ⊢; rw [hβ i (by simp [FV.refs])]; exact h
  | it i => rw [RepF] at h ⊢; rw [hβ i (by simp [FV.refs])]; exact h
  | slp i k lo n => rw [RepF] at h ⊢; rw [hβ i (by simp [FV.refs])]; exact h
  | rpt i k r j => rw [RepF] at h ⊢; rw [hβ i (by simp [FV.refs])]; exact h
  | clo f cs => obtain ⟨caps, h1, h2⟩ := h; exact ⟨caps, h1, h2.ren hβ⟩
  | tupf cs => obtain ⟨caps, h1, h2⟩ := h; exact ⟨caps, h1, h2.ren hβ⟩
  | aggf cs => obtain ⟨caps, h1, h2, h3⟩ := h; exact ⟨caps, h1, h2.ren hβ, h3⟩
  | _ => exact h
/-- Other names, for what lies at another place, or at the same one. -/
theorem HoldsB.ren {β β' : Nat → Nat} {S : Nat → Nat → Prop} {w : World} {i o : Nat} {x : FV} (h : HoldsB β S w i o x) (hi : β' i = β i) (hβ : ∀ i, i ∈ x.refs → β' i = β i) : HoldsB β' S w i o x := by
  cases hu : x.isUn with
  | false => exact .of_cell hu (let ⟨h0, c, h1, h2, h3⟩ := h.cell hu; ⟨h0, c, by rw [hi]; exact h1, h2.ren hβ, by rw [hi]; exact h3⟩)
  | true =>
    cases x with
    | ents es clk => obtain ⟨h00, h0, arr, h1, h2⟩ := h; exact ⟨h00, h0, arr, by rw [hi]; exact h1, h2⟩
    | entp es clk =>
      obtain ⟨h00, h0, arr, h1, h2, h3⟩ := h
      refine ⟨h00, h0, arr, by rw [hi]; exact h1, ⟨h2.1, fun i e m he hm => ?_⟩, h3⟩
      obtain ⟨k1, k2, k3⟩ := h2.2 i e m he hm
      exact ⟨k1, k2, by rw [hβ m.i (List.mem_map_of_mem (List.mem_of_getElem? hm))]; exact k3⟩
    | iter m clk seen =>
      obtain ⟨h00, h0, h1⟩ := h
      exact ⟨h00, h0, by rw [hi, hβ m (by simp [FV.refs])]; exact h1⟩
    | siter s pos => obtain ⟨h00, h0, h1⟩ := h; exact ⟨h00, h0, by rw [hi]; exact h1⟩
    | rows k xs => obtain ⟨h00, h0, h1, h2⟩ := h; exact ⟨h00, h0, by rw [hi]; exact h1, by rw [hi]; exact h2⟩
    | un => obtain ⟨h00, c, h1, h2, h3⟩ := h; exact ⟨h00, c, by rw [hi]; exact h1, trivial, by rw [hi]; exact h3⟩
    | _ => cases hu
/-- All is as it was, but for these blocks. -/
structure Kept (E : Nat → Prop) (w w' : World) : Prop where
  os : w'.os = w.os
  tape : w'.tape = w.tape
  output : w'.output = w.output
  size : w.heap.size ≤ w'.heap.size
  block : ∀ k, k < w.heap.size → ¬ E k → w'.heap[k]? = w.heap[k]?
theorem Kept.refl (E : Nat → Prop) (w : World) : Kept E w w := ⟨rfl, rfl, rfl, Nat.le_refl _, fun _ _ _ => rfl⟩
theorem Kept.of_below {E : Nat → Prop} {w w' : World} (h : Below w.heap.size w w') : Kept E w w' := ⟨h.os, h.tape, h.output, h.size, fun k hk _ => h.block k hk⟩
theorem Kept.trans {E E' : Nat → Prop} {w w' w'' : World} (h : Kept E w w') (h' : Kept E' w' w'') (hE : ∀ k, k < w.heap.size → E' k → E k) : Kept E w w'' :=
  ⟨h'.os.trans h.os, h'.tape.trans h.tape, h'.output.trans h.output, Nat.le_trans h.size h'.size, fun k hk hn => (h'.block k (Nat.lt_of_lt_of_le hk h.size) (fun e => hn (hE k hk e))).trans (h.block k hk hn)⟩
theorem Kept.grow {E : Nat → Prop} {w w' w'' : World} (h : Kept E w w') (h' : Below w'.heap.size w' w'') : Kept E w w'' := h.trans (Kept.of_below (E := fun _ => False) h') (fun _ _ e => e.elim)
theorem Kept.below {E : Nat → Prop} (hE : ∀ k, ¬ E k) {w w' : World} (h : Kept E w w') : Below w.heap.size w w' := ⟨h.os, h.tape, h.output, h.size, fun k hk => h.block k hk (hE k)⟩
/-- The blocks that were handed over, by their numbers. -/
def EB (E : Nat → Nat → Prop) : Nat → Prop := fun b => ∃ i, E i b
/-- Where a variable's block may lie. -/
def HomeOK (E : Nat → Nat → Prop) (w : World) (i b : Nat) : Prop := (handId i = true → E i b) ∧ (handId i = false → w.heap.size ≤ b)
theorem HomeOK.or {E : Nat → Nat → Prop} {w : World} {i b : Nat} (h : HomeOK E w i b) : EB E b ∨ w.heap.size ≤ b := by
  cases hi : handId i with
  | true => exact .inl ⟨i, h.1 hi⟩
  | false => exact .inr (h.2 hi)
/-- Where a block of one's own may lie: it is new, or was handed over as one (number 0). -/
def HomeB (E : Nat → Nat → Prop) (w : World) (b : Nat) : Prop := E 0 b ∨ w.heap.size ≤ b
theorem HomeB.or {E : Nat → Nat → Prop} {w : World} {b : Nat} (h : HomeB E w b) : EB E b ∨ w.heap.size ≤ b := h.imp (fun h => ⟨0, h⟩) id
/-- ... and no variable lies there. -/
def HBl (E0 : Nat → Nat → Prop) (w0 : World) (g : Key → C) (β : Nat → Nat) (b : Nat) : Prop := HomeB E0 w0 b ∧ ∀ i, (g (.al i)).v ≠ .un → β i ≠ b
/-- What the world keeps, and whether draws are counted. -/
structure GOK (Dr : Prop) (E0 : Nat → Nat → Prop) (w0 : World) (G : World → Prop) : Prop where
  all : ∀ w', Kept (EB E0) w0 w' → G w'
  dr : Dr → ∀ w, G w
structure Rel (Dr : Prop) (w0 : World) (E0 : Nat → Nat → Prop) (S0 : Nat → Nat → Prop) (N : Nat) (wr : Key → Prop) (g : Key → C) (a : Act) (w : World) (β : Nat → Nat) (S : Nat → Nat → Prop) : Prop where
  below : Kept (EB E0) w0 w
  df : a.defers = []
  tsz : a.tmps.size = N
  s0 : ∀ b o, S0 b o → S b o
  sc : ∀ b o, S0 b o → w.cell? ⟨b, o, none⟩ = w0.cell? ⟨b, o, none⟩
  sn : ∀ b o, S b o → S0 b o ∨ HomeB E0 w0 b
  sa : ∀ b o, S b o → b < w.heap.size
  tm : ∀ t, RepF β S w (a.tmps.getD t undef) (g (.t t)).v
  bx : ∀ i o, (g (.b i o)).v ≠ .un → HoldsB β S w i o (g (.b i o)).v ∧ (g (.al i)).v ≠ .un
  al : ∀ i, (g (.al i)).v ≠ .un → HomeOK E0 w0 i (β i) ∧ β i < w.heap.size ∧ ∀ o, ¬ S (β i) o
  inj : ∀ i j, (g (.al i)).v ≠ .un → (g (.al j)).v ≠ .un → β i = β j → i = j
  own : ∀ κ p, (g κ).own = some p → ∃ v, rv β a w κ = some v ∧ OwsL (HBl E0 w0 g β) w S (partsO p v)
  ownd : ∀ κ κ' v v' b, rv β a w κ = some v → rv β a w κ' = some v' → Blk (g κ).own v b → Blk (g κ').own v' b → κ = κ'
  frm : ∀ t κ', (g (.t t)).frm = some κ' → ¬ wr κ' → rv β a w (.t t) = rv β a w κ' ∧ ∀ i o, κ' = .b i o → (g (.al i)).v ≠ .un
  blv : ∀ i o, (g (.b i o)).own ≠ none → (g (.al i)).v ≠ .un
  dr : Dr → w0.drawn ≤ w.drawn

def upd (g : Key → C) (κ : Key) (c : C) : Key → C := fun κ' => if κ' = κ then c else g κ'
theorem upd_same (g : Key → C) (κ : Key) (c : C) : upd g κ c κ = c := if_pos rfl
theorem upd_ne (g : Key → C) {κ κ' : Key} (c : C) (h : κ' ≠ κ) : upd g κ c κ' = g κ' := if_neg h
end Go.Proofs.YtbjfmkmaghapgaaGreatDoor.B
