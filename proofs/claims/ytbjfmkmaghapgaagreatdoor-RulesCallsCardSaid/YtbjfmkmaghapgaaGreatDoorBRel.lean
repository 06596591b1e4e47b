/-
The logic of pure values, continued: what the relation of a frame to the model's frame keeps: more memory, a temporary written, a variable's cell written. Condition: none.
-/
import Derived.Test.YtbjfmkmaghapgaaGreatDoorBVal
set_option linter.unusedVariables false
set_option linter.unusedSimpArgs false
namespace Go.Proofs.YtbjfmkmaghapgaaGreatDoor.B
open Go.RowKit

theorem grown_of {w w' : World} (hb : Below w.heap.size w w') : w.grownBy w' none := ⟨hb.os, hb.tape, hb.output, hb.size, fun k hk _ => hb.block k hk⟩
theorem cell_lt {w : World} {b o : Nat} {c : Value} (h : w.cell? ⟨b, o, none⟩ = some c) : b < w.heap.size := World.block_lt_of_cell? w _ h
section
variable {Dr : Prop} {w0 : World} {E0 : Nat → Nat → Prop} {S0 : Nat → Nat → Prop} {N : Nat} {wr : Key → Prop} {g : Key → C} {a : Act} {w : World} {β : Nat → Nat} {S : Nat → Nat → Prop}
/-- A key whose cell is there. -/
def There (g : Key → C) : Key → Prop
  | .t _ => True
  | .b i _ => (g (.al i)).v ≠ .un
  | .al _ => False
theorem rv_same {w' : World} (h : Rel Dr w0 E0 S0 N wr g a w β S) (hb : ∀ i, (g (.al i)).v ≠ .un → ∀ o, w'.cell? ⟨β i, o, none⟩ = w.cell? ⟨β i, o, none⟩) {κ : Key} (hκ : There g κ) : rv β a w' κ = rv β a w κ := by
  cases κ with
  | t i => rfl
  | b i o => exact rv_cell (hb i hκ o)
  | al i => rfl
theorem there_of_own (h : Rel Dr w0 E0 S0 N wr g a w β S) {κ : Key} (ho : (g κ).own ≠ none) : There g κ := by
  cases κ with
  | t i => trivial
  | b i o => exact h.blv i o ho
  | al i =>
    cases hq : (g (.al i)).own with
    | none => exact absurd hq ho
    | some p => obtain ⟨v, h1, _⟩ := h.own _ p hq; cases h1
theorem blk_ne {ow : Own} {v : Value} {b : Nat} (h : Blk ow v b) : ow ≠ none := fun e => by subst e; exact h
theorem blk_some {ow : Own} {v : Value} {b : Nat} (h : Blk ow v b) : ∃ p, ow = some p ∧ BlkL (partsO p v) b := by
  cases ow with
  | none => exact h.elim
  | some p => exact ⟨p, rfl, h⟩
/-- What is owned is there. -/
theorem blk_lt (h : Rel Dr w0 E0 S0 N wr g a w β S) {κ : Key} {v : Value} {b : Nat} (hv : rv β a w κ = some v) (hb : Blk (g κ).own v b) : b < w.heap.size := by
  obtain ⟨p, hp, hb⟩ := blk_some hb
  obtain ⟨v', h1, h2⟩ := h.own κ p hp
  rw [hv] at h1
  cases h1
  exact h2.lt hb
/-- What was there is as it was; there may be more memory, and more cells of lists, in it. -/
theorem Rel.grow (h : Rel Dr w0 E0 S0 N wr g a w β S) {w' : World} {S' : Nat → Nat → Prop} (hb : Below w.heap.size w w') (hdr : Dr → w.drawn ≤ w'.drawn) (hS : ∀ b o, S b o → S' b o)
    (hn : ∀ b o, S' b o → S b o ∨ w.heap.size ≤ b) (ha : ∀ b o, S' b o → b < w'.heap.size) : Rel Dr w0 E0 S0 N wr g a w' β S' := by
  have hc : ∀ b o, S b o → w'.cell? ⟨b, o, none⟩ = w.cell? ⟨b, o, none⟩ := fun b o hs => hb.cell (p := ⟨b, o, none⟩) (h.sa b o hs)
  have hx : ∀ i, (g (.al i)).v ≠ .un → ∀ o, w'.cell? ⟨β i, o, none⟩ = w.cell? ⟨β i, o, none⟩ := fun i hi o => hb.cell (p := ⟨β i, o, none⟩) (h.al i hi).2.1
  have hr : ∀ κ, There g κ → rv β a w' κ = rv β a w κ := fun κ => rv_same h hx
  have hsz := h.below.size
  constructor
  · exact h.below.grow hb
  · exact h.df
  · exact h.tsz
  · exact fun b o hs => hS _ _ (h.s0 b o hs)
  · exact fun b o hs => (hc b o (h.s0 b o hs)).trans (h.sc b o hs)
  · intro b o hs
    rcases hn b o hs with hs | hs
    · exact h.sn b o hs
    · exact .inr (.inr (by omega))
  · exact ha
  · exact fun t => (h.tm t).mono hS hc
  · intro i o hne
    obtain ⟨h1, h4⟩ := h.bx i o hne
    exact ⟨h1.mono hS hc (hb.block _ (h.al i h4).2.1) (hb.frozen (p := ⟨β i, o, none⟩) (h.al i h4).2.1), h4⟩
  · intro i hi
    obtain ⟨h1, h2, h3⟩ := h.al i hi
    refine ⟨h1, by have := hb.size; omega, fun o hs => ?_⟩
    rcases hn _ o hs with hs | hs
    · exact h3 o hs
    · omega
  · exact h.inj
  · intro κ p ho
    obtain ⟨v, h1, h2⟩ := h.own κ p ho
    refine ⟨v, (hr κ (there_of_own h (by rw [ho]; simp))).trans h1, h2.mono (fun _ _ h => h) (fun b hb' => hb.block b (h2.lt hb')) (fun b o hb' hs => ?_)⟩
    rcases hn _ o hs with hs | hs
    · exact hs
    · have := h2.lt hb'; omega
  · intro κ κ' v v' b h3 h4 h5 h6
    rw [hr κ (there_of_own h (blk_ne h5))] at h3
    rw [hr κ' (there_of_own h (blk_ne h6))] at h4
    exact h.ownd κ κ' v v' b h3 h4 h5 h6
  · intro t κ' h1 h2
    obtain ⟨h3, h4⟩ := h.frm t κ' h1 h2
    refine ⟨?_, h4⟩
    cases κ' with
    | b i o => rw [hr (.b i o) (h4 i o rfl)]; exact h3
    | _ => exact h3
  · exact h.blv
  · exact fun d => Nat.le_trans (h.dr d) (hdr d)
theorem Rel.world (h : Rel Dr w0 E0 S0 N wr g a w β S) {w' : World} (hb : Below w.heap.size w w') (hdr : Dr → w.drawn ≤ w'.drawn) : Rel Dr w0 E0 S0 N wr g a w' β S :=
  h.grow hb hdr (fun _ _ h => h) (fun _ _ h => .inl h) (fun b o hs => Nat.lt_of_lt_of_le (h.sa b o hs) hb.size)
theorem Rel.wider (h : Rel Dr w0 E0 S0 N wr g a w β S) {wr' : Key → Prop} (hw : ∀ κ, wr κ → wr' κ) : Rel Dr w0 E0 S0 N wr' g a w β S :=
  { h with frm := fun t κ' h1 h2 => h.frm t κ' h1 (fun h3 => h2 (hw _ h3)) }
theorem getD_put {ts : Array Value} {d : Nat} (hd : d < ts.size) (v : Value) (t : Nat) : (ts.setIfInBounds d v).getD t undef = if t = d then v else ts.getD t undef := by
  rw [Array.getD_eq_getD_getElem?, Array.getD_eq_getD_getElem?, Array.getElem?_setIfInBounds]
  by_cases h : d = t
  · subst h
    simp [hd]
  · rw [if_neg h, if_neg (fun e => h e.symm)]
theorem rv_put {d : Nat} (hd : d < a.tmps.size) (v : Value) (κ : Key) : rv β (a.put (some d) v) w κ = if κ = .t d then some v else rv β a w κ := by
  cases κ with
  | t i =>
    show some ((a.tmps.setIfInBounds d v).getD i undef) = _
    rw [getD_put hd]
    by_cases h : i = d
    · subst h; simp
    · rw [if_neg h, if_neg (by simpa using h)]; rfl
  | b i o => rw [if_neg (by simp)]; rfl
  | al i => rw [if_neg (by simp)]; rfl
/-- A list of one's own, apart from all others. -/
def OwnV (w0 : World) (E0 : Nat → Nat → Prop) (g : Key → C) (a : Act) (w : World) (β : Nat → Nat) (S : Nat → Nat → Prop) (κ : Key) (v : Value) (ow : Own) : Prop :=
  ∀ p, ow = some p → OwsL (fun b => HBl E0 w0 g β b ∧ ∀ κ' v', κ' ≠ κ → rv β a w κ' = some v' → ¬ Blk (g κ').own v' b) w S (partsO p v)
theorem ownV_none (κ : Key) (v : Value) : OwnV w0 E0 g a w β S κ v none := fun p h => by cases h
/-- Lists of one's own that no key has. -/
def FreeL (w0 : World) (E0 : Nat → Nat → Prop) (g : Key → C) (a : Act) (w : World) (β : Nat → Nat) (S : Nat → Nat → Prop) (qs : List Part) : Prop :=
  OwsL (fun b => HBl E0 w0 g β b ∧ ∀ κ' v', rv β a w κ' = some v' → ¬ Blk (g κ').own v' b) w S qs
theorem FreeL.ownV {p : TypeId × Nat} {v : Value} (h : FreeL w0 E0 g a w β S (partsO p v)) (κ : Key) : OwnV w0 E0 g a w β S κ v (some p) :=
  fun p' e => by cases e; exact h.imp (fun b _ hb => ⟨hb.1, fun κ' v' _ => hb.2 κ' v'⟩)
/-- A temporary is written. -/
theorem Rel.put (h : Rel Dr w0 E0 S0 N wr g a w β S) {d : Nat} (hd : d < N) {v : Value} {c : C} (hv : RepF β S w v c.v) (ho : OwnV w0 E0 g a w β S (.t d) v c.own)
    (hf : ∀ κ', c.frm = some κ' → κ' ≠ .t d → ¬ wr κ' → rv β a w κ' = some v ∧ ∀ i o, κ' = .b i o → (g (.al i)).v ≠ .un) {wr' : Key → Prop} (hw : ∀ κ, wr κ → wr' κ) (hwd : wr' (.t d)) :
    Rel Dr w0 E0 S0 N wr' (upd g (.t d) c) (a.put (some d) v) w β S := by
  have hd' : d < a.tmps.size := by rw [h.tsz]; exact hd
  have hal : ∀ i, upd g (.t d) c (.al i) = g (.al i) := fun i => upd_ne g c (by simp)
  have hb : ∀ i o, upd g (.t d) c (.b i o) = g (.b i o) := fun i o => upd_ne g c (by simp)
  have hown : ∀ κ, κ ≠ .t d → upd g (.t d) c κ = g κ := fun κ hk => upd_ne g c hk
  have hHB : ∀ b, HBl E0 w0 g β b → HBl E0 w0 (upd g (.t d) c) β b := fun b hb => ⟨hb.1, fun i hi => hb.2 i (by rw [hal] at hi; exact hi)⟩
  constructor
  · exact h.below
  · exact h.df
  · show (a.tmps.setIfInBounds d v).size = N
    simp [h.tsz]
  · exact h.s0
  · exact h.sc
  · exact h.sn
  · exact h.sa
  · intro t
    show RepF β S w ((a.tmps.setIfInBounds d v).getD t undef) _
    rw [getD_put hd']
    by_cases e : t = d
    · subst e; rw [if_pos rfl, upd_same]; exact hv
    · rw [if_neg e, upd_ne g c (by simpa using e)]; exact h.tm t
  · intro i o; rw [hb, hal]; exact h.bx i o
  · intro i; rw [hal]; exact h.al i
  · intro i j; rw [hal, hal]; exact h.inj i j
  · intro κ p hk
    by_cases hκ : κ = .t d
    · subst hκ
      rw [upd_same] at hk
      exact ⟨v, by rw [rv_put hd', if_pos rfl], (ho p hk).imp (fun b _ hb => hHB b hb.1)⟩
    · rw [hown κ hκ] at hk
      obtain ⟨v', h1, h2⟩ := h.own κ p hk
      exact ⟨v', by rw [rv_put hd', if_neg hκ]; exact h1, h2.imp (fun b _ => hHB b)⟩
  · intro κ κ' v1 v2 b h3 h4 h5 h6
    rw [rv_put hd'] at h3 h4
    by_cases hκ : κ = .t d
    · by_cases hκ' : κ' = .t d
      · rw [hκ, hκ']
      · exfalso
        subst hκ
        rw [if_pos rfl] at h3
        rw [if_neg hκ'] at h4
        rw [hown κ' hκ'] at h6
        rw [upd_same] at h5
        cases h3
        obtain ⟨p, hp, hb⟩ := blk_some h5
        exact ((ho p hp).at hb).2 κ' v2 hκ' h4 h6
    · by_cases hκ' : κ' = .t d
      · exfalso
        subst hκ'
        rw [if_pos rfl] at h4
        rw [if_neg hκ] at h3
        rw [hown κ hκ] at h5
        rw [upd_same] at h6
        cases h4
        obtain ⟨p, hp, hb⟩ := blk_some h6
        exact ((ho p hp).at hb).2 κ v1 hκ h3 h5
      · rw [if_neg hκ] at h3
        rw [if_neg hκ'] at h4
        rw [hown κ hκ] at h5
        rw [hown κ' hκ'] at h6
        exact h.ownd κ κ' v1 v2 b h3 h4 h5 h6
  · intro t κ' h1 h2
    have hne : κ' ≠ .t d := fun e => h2 (e ▸ hwd)
    have h2' : ¬ wr κ' := fun e => h2 (hw _ e)
    rw [rv_put hd', rv_put hd', if_neg hne]
    by_cases e : t = d
    · subst e
      rw [upd_same] at h1
      obtain ⟨q1, q2⟩ := hf κ' h1 hne h2'
      rw [if_pos rfl]
      exact ⟨q1.symm, fun i o he => by rw [hal]; exact q2 i o he⟩
    · rw [upd_ne g c (by simpa using e)] at h1
      rw [if_neg (by simpa using e)]
      obtain ⟨q1, q2⟩ := h.frm t κ' h1 h2'
      exact ⟨q1, fun i o he => by rw [hal]; exact q2 i o he⟩
  · intro i o; rw [hb, hal]; exact h.blv i o
  · exact h.dr
/-- A key forgets what it has of its own. -/
theorem Rel.drop (h : Rel Dr w0 E0 S0 N wr g a w β S) (κ : Key) (hκ : ∀ i, κ ≠ .al i) : Rel Dr w0 E0 S0 N wr (upd g κ { g κ with own := none }) a w β S := by
  have hv : ∀ κ', (upd g κ { g κ with own := none } κ').v = (g κ').v := fun κ' => by
    by_cases e : κ' = κ
    · subst e; rw [upd_same]
    · rw [upd_ne g _ e]
  have hfr : ∀ κ', (upd g κ { g κ with own := none } κ').frm = (g κ').frm := fun κ' => by
    by_cases e : κ' = κ
    · subst e; rw [upd_same]
    · rw [upd_ne g _ e]
  have ho : ∀ κ' p, (upd g κ { g κ with own := none } κ').own = some p → (g κ').own = some p := fun κ' p hp => by
    by_cases e : κ' = κ
    · subst e; rw [upd_same] at hp; cases hp
    · rw [upd_ne g _ e] at hp; exact hp
  have hn : ∀ κ', (upd g κ { g κ with own := none } κ').own ≠ none → (g κ').own ≠ none := fun κ' hp hq => by
    cases hr : (upd g κ { g κ with own := none } κ').own with
    | none => exact hp hr
    | some p => rw [ho κ' p hr] at hq; cases hq
  have hbk : ∀ κ' v b, Blk (upd g κ { g κ with own := none } κ').own v b → Blk (g κ').own v b := fun κ' v b hb => by
    obtain ⟨p, hp, hb⟩ := blk_some hb
    rw [ho κ' p hp]
    exact hb
  constructor
  · exact h.below
  · exact h.df
  · exact h.tsz
  · exact h.s0
  · exact h.sc
  · exact h.sn
  · exact h.sa
  · intro t; rw [hv]; exact h.tm t
  · intro i o; rw [hv, hv]; exact h.bx i o
  · intro i; rw [hv]; exact h.al i
  · intro i j; rw [hv, hv]; exact h.inj i j
  · intro κ' p hk
    obtain ⟨v, h1, h2⟩ := h.own κ' p (ho _ _ hk)
    exact ⟨v, h1, h2.imp (fun b _ hb => ⟨hb.1, fun i => by rw [hv]; exact hb.2 i⟩)⟩
  · intro κ1 κ2 v1 v2 b h1 h2 h3 h4
    exact h.ownd κ1 κ2 v1 v2 b h1 h2 (hbk _ _ _ h3) (hbk _ _ _ h4)
  · intro t κ' h1 h2
    rw [hfr] at h1
    obtain ⟨q1, q2⟩ := h.frm t κ' h1 h2
    exact ⟨q1, fun i o he => by rw [hv]; exact q2 i o he⟩
  · intro i o hp; rw [hv]; exact h.blv i o (hn _ hp)
  · exact h.dr
/-- What a key forgets no key has. -/
theorem Rel.dropF (h : Rel Dr w0 E0 S0 N wr g a w β S) (κ : Key) {p : TypeId × Nat} (hp : (g κ).own = some p) : ∃ v, rv β a w κ = some v ∧ FreeL w0 E0 (upd g κ { g κ with own := none }) a w β S (partsO p v) := by
  obtain ⟨v, h1, h2⟩ := h.own κ p hp
  have hκ : ∀ i, κ ≠ .al i := fun i e => by subst e; cases h1
  refine ⟨v, h1, h2.imp (fun b hb hh => ⟨⟨hh.1, fun i => by rw [upd_ne _ _ (fun e => hκ i e.symm)]; exact hh.2 i⟩, fun κ' v' hr hb' => ?_⟩)⟩
  by_cases e : κ' = κ
  · subst e; rw [upd_same] at hb'; exact hb'
  · rw [upd_ne _ _ e] at hb'
    exact e (h.ownd κ' κ v' v b hr h1 hb' (by rw [hp]; exact hb))
/-- Lists that were no key's stay so if a key forgets what it has. -/
theorem FreeL.drop {qs : List Part} (hf : FreeL w0 E0 g a w β S qs) (κ : Key) (hκ : ∀ i, κ ≠ .al i) : FreeL w0 E0 (upd g κ { g κ with own := none }) a w β S qs :=
  hf.imp (fun b hb hh => ⟨⟨hh.1.1, fun i => by rw [upd_ne _ _ (fun e => hκ i e.symm)]; exact hh.1.2 i⟩, fun κ' v' hr hb' => by
    by_cases e : κ' = κ
    · subst e; rw [upd_same] at hb'; exact hb'
    · rw [upd_ne _ _ e] at hb'; exact hh.2 κ' v' hr hb'⟩)
theorem OwsL.append {H : Nat → Prop} {w : World} {S : Nat → Nat → Prop} {A B : List Part} (hA : OwsL H w S A) (hB : OwsL H w S B) (hd : ∀ b, BlkL A b → ¬ BlkL B b) : OwsL H w S (A ++ B) :=
  ⟨fun q hq => (List.mem_append.1 hq).elim (hA.1 q) (hB.1 q), List.pairwise_append.2 ⟨hA.2, hB.2, fun q hq r hr b hb hrb => hd b ⟨q, hq, hb⟩ ⟨r, hr, hrb⟩⟩⟩
/-- What a key gives up is no key's, beside what was no key's. -/
theorem Rel.dropAdd (h : Rel Dr w0 E0 S0 N wr g a w β S) (κ : Key) {p : TypeId × Nat} (hp : (g κ).own = some p) {qs : List Part} (hf : FreeL w0 E0 g a w β S qs) :
    ∃ v, rv β a w κ = some v ∧ FreeL w0 E0 (upd g κ { g κ with own := none }) a w β S (partsO p v ++ qs) := by
  obtain ⟨v, h1, h2⟩ := h.dropF κ hp
  have hκ : ∀ i, κ ≠ .al i := fun i e => by subst e; cases h1
  exact ⟨v, h1, OwsL.append h2 (hf.drop κ hκ) (fun b hA hB => (OwsL.at hf hB).2 κ v h1 (by rw [hp]; exact hA))⟩
/-- A key comes to have lists that no key has. -/
theorem Rel.give (h : Rel Dr w0 E0 S0 N wr g a w β S) (κ : Key) (hno : (g κ).own = none) (hth : There g κ) {p : TypeId × Nat} {v : Value} (hv : rv β a w κ = some v) (hf : FreeL w0 E0 g a w β S (partsO p v)) :
    Rel Dr w0 E0 S0 N wr (upd g κ { g κ with own := some p }) a w β S := by
  have hvv : ∀ κ', (upd g κ { g κ with own := some p } κ').v = (g κ').v := fun κ' => by
    by_cases e : κ' = κ
    · subst e; rw [upd_same]
    · rw [upd_ne g _ e]
  have hfr : ∀ κ', (upd g κ { g κ with own := some p } κ').frm = (g κ').frm := fun κ' => by
    by_cases e : κ' = κ
    · subst e; rw [upd_same]
    · rw [upd_ne g _ e]
  have hHB : ∀ b, HBl E0 w0 g β b → HBl E0 w0 (upd g κ { g κ with own := some p }) β b := fun b hb => ⟨hb.1, fun i => by rw [hvv]; exact hb.2 i⟩
  constructor
  · exact h.below
  · exact h.df
  · exact h.tsz
  · exact h.s0
  · exact h.sc
  · exact h.sn
  · exact h.sa
  · intro t; rw [hvv]; exact h.tm t
  · intro i o; rw [hvv, hvv]; exact h.bx i o
  · intro i; rw [hvv]; exact h.al i
  · intro i j; rw [hvv, hvv]; exact h.inj i j
  · intro κ' p' hk
    by_cases e : κ' = κ
    · subst e
      rw [upd_same] at hk
      cases hk
      exact ⟨v, hv, hf.imp (fun b _ hb => hHB b hb.1)⟩
    · rw [upd_ne _ _ e] at hk
      obtain ⟨v', h1, h2⟩ := h.own κ' p' hk
      exact ⟨v', h1, h2.imp (fun b _ hb => hHB b hb)⟩
  · intro κ1 κ2 v1 v2 b h1 h2 h3 h4
    by_cases e1 : κ1 = κ
    · by_cases e2 : κ2 = κ
      · rw [e1, e2]
      · exfalso
        subst e1
        rw [upd_same] at h3
        rw [upd_ne _ _ e2] at h4
        rw [hv] at h1
        cases h1
        exact (OwsL.at hf h3).2 κ2 v2 h2 h4
    · by_cases e2 : κ2 = κ
      · exfalso
        subst e2
        rw [upd_same] at h4
        rw [upd_ne _ _ e1] at h3
        rw [hv] at h2
        cases h2
        exact (OwsL.at hf h4).2 κ1 v1 h1 h3
      · rw [upd_ne _ _ e1] at h3
        rw [upd_ne _ _ e2] at h4
        exact h.ownd κ1 κ2 v1 v2 b h1 h2 h3 h4
  · intro t κ' h1 h2
    rw [hfr] at h1
    obtain ⟨q1, q2⟩ := h.frm t κ' h1 h2
    exact ⟨q1, fun i o he => by rw [hvv]; exact q2 i o he⟩
  · intro i o hp'
    rw [hvv]
    by_cases e : Key.b i o = κ
    · subst e; exact hth
    · rw [upd_ne _ _ e] at hp'; exact h.blv i o hp'
  · exact h.dr
/-- ... and the others stay no key's. -/
theorem FreeL.give {qs : List Part} {κ : Key} {p : TypeId × Nat} {v : Value} (hκ : ∀ i, κ ≠ .al i) (hv : rv β a w κ = some v) (hf : FreeL w0 E0 g a w β S (partsO p v ++ qs)) : FreeL w0 E0 (upd g κ { g κ with own := some p }) a w β S qs := by
  obtain ⟨h1, h2⟩ := hf
  obtain ⟨d1, d2, d3⟩ := List.pairwise_append.1 h2
  refine OwsL.imp (H := fun b => HBl E0 w0 g β b ∧ ∀ κ' v', rv β a w κ' = some v' → ¬ Blk (g κ').own v' b) ⟨fun q hq => h1 q (List.mem_append_right _ hq), d2⟩ (fun b hb hh => ⟨⟨hh.1.1, fun i => by rw [upd_ne _ _ (fun e => hκ i e.symm)]; exact hh.1.2 i⟩, fun κ' v' hr hb' => ?_⟩)
  by_cases e : κ' = κ
  · subst e
    rw [upd_same] at hb'
    rw [hv] at hr
    cases hr
    obtain ⟨r, hr, hrb⟩ := hb'
    obtain ⟨q, hq, hqb⟩ := hb
    exact d3 r hr q hq b hrb hqb
  · rw [upd_ne _ _ e] at hb'
    exact hh.2 κ' v' hr hb'

/-! ### a new variable in memory -/
def upds (g : Key → C) : List (Key × C) → Key → C
  | [] => g
  | (κ, c) :: ws => upds (upd g κ c) ws
def boxW (i : Nat) (o : Nat) : List PV → List (Key × C)
  | [] => []
  | x :: xs => (.b i o, ⟨.pv x, none, none⟩) :: boxW i (o + 1) xs
theorem upds_boxW (i : Nat) : ∀ (xs : List PV) (o : Nat) (g : Key → C) (κ : Key),
    (∀ i' o', κ = .b i' o' → ¬ (i' = i ∧ o ≤ o')) → upds g (boxW i o xs) κ = g κ
  | [], o, g, κ, _ => rfl
  | x :: xs, o, g, κ, h => by
    show upds (upd g (.b i o) _) (boxW i (o + 1) xs) κ = _
    rw [upds_boxW i xs (o + 1) _ κ (fun i' o' e hh => h i' o' e ⟨hh.1, by omega⟩), upd_ne]
    intro e
    exact h i o e ⟨rfl, Nat.le_refl _⟩
theorem upds_boxW_at (i : Nat) : ∀ (xs : List PV) (o : Nat) (g : Key → C) (o' : Nat), o ≤ o' →
    upds g (boxW i o xs) (.b i o') = match xs[o' - o]? with | some x => ⟨.pv x, none, none⟩ | none => g (.b i o')
  | [], o, g, o', _ => by simp [boxW, upds]
  | x :: xs, o, g, o', h => by
    show upds (upd g (.b i o) _) (boxW i (o + 1) xs) (.b i o') = _
    by_cases e : o' = o
    · subst e
      rw [upds_boxW i xs (o' + 1) _ _ (fun i1 o1 e1 hh => by cases e1; omega), upd_same]
      simp
    · rw [upds_boxW_at i xs (o + 1) _ o' (by omega), upd_ne _ _ (by simpa using e)]
      have : o' - o = (o' - (o + 1)) + 1 := by omega
      rw [this]
      rfl
def liveC : C := ⟨.pv .nil, none, none⟩
/-- No key points to a variable that is not there. -/
def PtrOK (g : Key → C) : Prop := ∀ κ i, i ∈ (g κ).v.refs → (g (.al i)).v ≠ .un
theorem Rel.alloc (h : Rel Dr w0 E0 S0 N wr g a w β S) {i : Nat} (hid : handId i = false) (hp : PtrOK g) (hfree : (g (.al i)).v = .un) (cs : Array Value) (T : TypeId) (xs : List PV) (hlen : cs.size = xs.length) (hsc : ∀ o, o < xs.length → isCell i o = true)
    (hrep : ∀ (o : Nat) v x, cs[o]? = some v → xs[o]? = some x → RepP S w v x) :
    ∃ β', β' i = w.heap.size ∧ Rel Dr w0 E0 S0 N wr (upds (upd g (.al i) liveC) (boxW i 0 xs)) a (w.alloc (.cells cs T)) β' S ∧
      ∀ qs, FreeL w0 E0 g a w β S qs → FreeL w0 E0 (upds (upd g (.al i) liveC) (boxW i 0 xs)) a (w.alloc (.cells cs T)) β' S qs := by
  have hW : Below w.heap.size w (w.alloc (.cells cs T)) := (Below.refl _ _).alloc (Nat.le_refl _) _
  have h' := h.world hW (fun _ => Nat.le_refl _)
  generalize hw1 : w.alloc (.cells cs T) = w1 at hW h'
  have hcell : ∀ o, w1.cell? ⟨w.heap.size, o, none⟩ = cs[o]? := fun o => by rw [← hw1]; exact World.cell?_alloc_at _ _ _ _ rfl
  have hfro : ∀ o, w1.frozen? ⟨w.heap.size, o, none⟩ = false := fun o => by rw [← hw1]; exact World.frozen?_alloc_at _ _ _ _ rfl
  have hsz1 : w1.heap.size = w.heap.size + 1 := by rw [← hw1]; exact World.size_alloc _ _
  have hsz := h.below.size
  let β' : Nat → Nat := fun j => if j = i then w.heap.size else β j
  have hβi : β' i = w.heap.size := if_pos rfl
  have hβ : ∀ j, j ≠ i → β' j = β j := fun j hj => if_neg hj
  have gt : ∀ t, upds (upd g (.al i) liveC) (boxW i 0 xs) (.t t) = g (.t t) := fun t => by rw [upds_boxW _ _ _ _ _ (fun _ _ e => by cases e), upd_ne _ _ (by simp)]
  have gal : ∀ j, upds (upd g (.al i) liveC) (boxW i 0 xs) (.al j) = if j = i then liveC else g (.al j) := fun j => by
    rw [upds_boxW _ _ _ _ _ (fun _ _ e => by cases e)]
    by_cases e : j = i
    · subst e; rw [upd_same, if_pos rfl]
    · rw [upd_ne _ _ (by simpa using e), if_neg e]
  have gb : ∀ j o, j ≠ i → upds (upd g (.al i) liveC) (boxW i 0 xs) (.b j o) = g (.b j o) := fun j o e => by
    rw [upds_boxW _ _ _ _ _ (fun _ _ e1 hh => by cases e1; exact e hh.1), upd_ne _ _ (by simp)]
  have hunb : ∀ o, (g (.b i o)).v = .un := fun o => by
    cases hv : (g (.b i o)).v with
    | un => rfl
    | _ => exact absurd hfree (h.bx i o (by rw [hv]; simp)).2
  have hob : ∀ o, (g (.b i o)).own = none := fun o => by
    cases hv : (g (.b i o)).own with
    | none => rfl
    | some p => exact absurd hfree (h.blv i o (by rw [hv]; simp))
  have gbi : ∀ o, upds (upd g (.al i) liveC) (boxW i 0 xs) (.b i o) = match xs[o]? with | some x => ⟨.pv x, none, none⟩ | none => g (.b i o) := fun o => by
    rw [upds_boxW_at _ _ _ _ _ (Nat.zero_le _), upd_ne _ _ (by simp)]
    rfl
  have lv : ∀ j, (upds (upd g (.al i) liveC) (boxW i 0 xs) (.al j)).v ≠ .un → j = i ∨ (g (.al j)).v ≠ .un := fun j hj => by
    rw [gal] at hj
    by_cases e : j = i
    · exact .inl e
    · rw [if_neg e] at hj; exact .inr hj
  have lv' : ∀ j, (g (.al j)).v ≠ .un → (upds (upd g (.al i) liveC) (boxW i 0 xs) (.al j)).v ≠ .un := fun j hj => by
    rw [gal]
    by_cases e : j = i
    · rw [if_pos e]; simp [liveC]
    · rw [if_neg e]; exact hj
  have hne : ∀ j, (g (.al j)).v ≠ .un → j ≠ i := fun j hj e => hj (e ▸ hfree)
  -- pointers do not lead to the new variable yet
  have hrf : ∀ κ v x, RepF β S w1 v (g κ).v → x = (g κ).v → RepF β' S w1 v x := fun κ v x hv hx => by
    subst hx
    exact hv.ren (fun j hj => hβ j (hne j (hp κ j hj)))
  have hhf : ∀ κ b o, b ≠ i → HoldsB β S w1 b o (g κ).v → HoldsB β' S w1 b o (g κ).v := fun κ b o hb hv => hv.ren (hβ b hb) (fun j hj => hβ j (hne j (hp κ j hj)))
  have own_ne : ∀ κ, (upds (upd g (.al i) liveC) (boxW i 0 xs) κ).own ≠ none → (g κ).own ≠ none ∧ upds (upd g (.al i) liveC) (boxW i 0 xs) κ = g κ ∧ rv β' a w1 κ = rv β a w1 κ := fun κ hκ => by
    cases κ with
    | t t => rw [gt] at hκ ⊢; exact ⟨hκ, rfl, rfl⟩
    | al j =>
      rw [gal] at hκ ⊢
      by_cases e : j = i
      · rw [if_pos e] at hκ; exact absurd rfl hκ
      · rw [if_neg e] at hκ ⊢; exact ⟨hκ, rfl, rfl⟩
    | b j o =>
      by_cases e : j = i
      · subst e
        rw [gbi] at hκ
        cases hx : xs[o]? with
        | some x => rw [hx] at hκ; exact absurd rfl hκ
        | none => rw [hx] at hκ; exact absurd (hob o) hκ
      · rw [gb j o e] at hκ ⊢
        exact ⟨hκ, rfl, rv_ren (hβ j e)⟩
  refine ⟨β', hβi, ?_, ?_⟩
  rotate_left
  · intro qs hf
    refine OwsL.mono hf (fun b hb hh => ⟨⟨hh.1.1, fun j hj => ?_⟩, fun κ' v' hr hb' => ?_⟩) (fun b hb => hW.block b (OwsL.lt hf hb)) (fun _ _ _ hs => hs)
    · by_cases e : j = i
      · subst e
        rw [hβi]
        have := OwsL.lt hf hb
        omega
      · rw [hβ j e]; exact hh.1.2 j ((lv j hj).resolve_left e)
    · obtain ⟨q1, q2, q3⟩ := own_ne κ' (blk_ne hb')
      rw [q3, rv_same h (fun i hi o => hW.cell (p := ⟨β i, o, none⟩) (h.al i hi).2.1) (there_of_own h q1)] at hr
      rw [q2] at hb'
      exact hh.2 κ' v' hr hb'
  constructor
  · exact h'.below
  · exact h'.df
  · exact h'.tsz
  · exact h'.s0
  · exact h'.sc
  · exact h'.sn
  · exact h'.sa
  · intro t; rw [gt]; exact hrf (.t t) _ _ (h'.tm t) rfl
  · intro j o hv
    by_cases e : j = i
    · subst e
      rw [gbi] at hv ⊢
      cases hx : xs[o]? with
      | none => rw [hx] at hv; exact absurd (hunb o) hv
      | some x =>
        have hlt : o < cs.size := by rw [hlen]; exact (List.getElem?_eq_some_iff.1 hx).1
        have hc : cs[o]? = some cs[o] := Array.getElem?_eq_getElem hlt
        refine ⟨HoldsB.of_cell rfl ⟨hsc o (List.getElem?_eq_some_iff.1 hx).1, cs[o], by rw [hβi, hcell, hc], ?_, by rw [hβi]; exact hfro o⟩, by rw [gal, if_pos rfl]; simp [liveC]⟩
        show RepP S w1 _ x
        exact (hrep o _ x hc hx).mono (fun _ _ h => h) (fun b o hs => hW.cell (p := ⟨b, o, none⟩) (h.sa b o hs))
    · rw [gb j o e] at hv ⊢
      obtain ⟨h1, h4⟩ := h'.bx j o hv
      exact ⟨hhf (.b j o) _ _ e h1, lv' j h4⟩
  · intro j hj
    by_cases e : j = i
    · subst e
      rw [hβi]
      exact ⟨⟨fun q => (by rw [hid] at q; cases q), fun _ => hsz⟩, by omega, fun o hs => by have := h.sa _ _ hs; omega⟩
    · rcases lv j hj with e' | hj
      · exact absurd e' e
      · rw [hβ j e]; exact h'.al j hj
  · intro j j' hj hj' heq
    by_cases e : j = i
    · by_cases e' : j' = i
      · rw [e, e']
      · exfalso
        subst e
        rcases lv j' hj' with q | q
        · exact e' q
        · rw [hβi, hβ j' e'] at heq
          have := (h.al j' q).2.1; omega
    · by_cases e' : j' = i
      · exfalso
        subst e'
        rcases lv j hj with q | q
        · exact e q
        · rw [hβi, hβ j e] at heq
          have := (h.al j q).2.1; omega
      · rw [hβ j e, hβ j' e'] at heq
        exact h.inj j j' ((lv j hj).resolve_left e) ((lv j' hj').resolve_left e') heq
  · intro κ p hκ
    obtain ⟨q1, q2, q3⟩ := own_ne κ (by rw [hκ]; simp)
    rw [q2] at hκ
    obtain ⟨v, h1, h2⟩ := h'.own κ p hκ
    refine ⟨v, q3.trans h1, h2.imp (fun b hb hh => ⟨hh.1, fun j hj => ?_⟩)⟩
    by_cases e : j = i
    · subst e
      rw [hβi]
      intro eq
      have hrv : rv β a w1 κ = rv β a w κ := rv_same h (fun i hi o => hW.cell (p := ⟨β i, o, none⟩) (h.al i hi).2.1) (there_of_own h q1)
      rw [hrv] at h1
      have := blk_lt h (b := b) h1 (by rw [hκ]; exact hb)
      omega
    · rw [hβ j e]; exact hh.2 j ((lv j hj).resolve_left e)
  · intro κ κ' v v' b h3 h4 h5 h6
    obtain ⟨_, q2, q3⟩ := own_ne κ (blk_ne h5)
    obtain ⟨_, q2', q3'⟩ := own_ne κ' (blk_ne h6)
    rw [q3] at h3
    rw [q3'] at h4
    rw [q2] at h5
    rw [q2'] at h6
    exact h'.ownd κ κ' v v' b h3 h4 h5 h6
  · intro t κ' h1 h2
    rw [gt] at h1
    obtain ⟨q1, q2⟩ := h'.frm t κ' h1 h2
    cases κ' with
    | b j o =>
      have hj := q2 j o rfl
      refine ⟨?_, fun i2 o2 e => by cases e; exact lv' j hj⟩
      exact q1.trans (rv_ren (hβ j (hne j hj))).symm
    | t t' => exact ⟨q1, fun _ _ e => by cases e⟩
    | al j => exact ⟨q1, fun _ _ e => by cases e⟩
  · intro j o hj
    obtain ⟨q1, _, _⟩ := own_ne (.b j o) hj
    exact lv' j (h.blv j o q1)
  · exact h'.dr
/-! ### a variable's cell is written -/
theorem OwsL.setCell {H : Nat → Prop} {w : World} {S : Nat → Nat → Prop} {qs : List Part} (h : OwsL H w S qs) {p : Addr} (hp : ∀ b, BlkL qs b → p.block ≠ b) (u : Value) : OwsL H (w.setCell p u) S qs :=
  h.mono (fun _ _ h => h) (fun b hb => Below.heap_setCell _ _ _ _ (fun e => hp b hb e.symm)) (fun _ _ _ hs => hs)
theorem Kept.setCell {E : Nat → Prop} {w w' : World} (h : Kept E w w') {p : Addr} (hp : E p.block ∨ w.heap.size ≤ p.block) (v : Value) : Kept E w (w'.setCell p v) :=
  ⟨h.os, h.tape, h.output, by simpa using h.size, fun k hk hn => by
    have hne : p.block ≠ k := fun e => hp.elim (fun q => hn (by rw [← e]; exact q)) (fun q => by omega)
    rw [Below.heap_setCell _ _ _ _ (fun e => hne (by simpa using e.symm))]
    exact h.block k hk hn⟩
theorem Rel.store (h : Rel Dr w0 E0 S0 N wr g a w β S) {i o : Nat} (hold : (g (.b i o)).v.isUn = false) {v : Value} {c : C} (hv : RepF β S w v c.v)
    (ho : OwnV w0 E0 g a w β S (.b i o) v c.own) (hf : c.frm = none) (hc : c.v.isUn = false) {wr' : Key → Prop} (hw : ∀ κ, wr κ → wr' κ) (hwd : wr' (.b i o)) :
    Rel Dr w0 E0 S0 N wr' (upd g (.b i o) c) a (w.setCell ⟨β i, o, none⟩ v) β S := by
  obtain ⟨hb0, hb4⟩ := h.bx i o (fun e => by rw [e] at hold; cases hold)
  obtain ⟨hobj, old, hb1, _, hb3⟩ := hb0.cell hold
  obtain ⟨ha1, ha2, ha3⟩ := h.al i hb4
  have hal : ∀ j, upd g (.b i o) c (.al j) = g (.al j) := fun j => upd_ne g c (by simp)
  have ht : ∀ t, upd g (.b i o) c (.t t) = g (.t t) := fun t => upd_ne g c (by simp)
  have hS : ∀ b o', S b o' → (w.setCell ⟨β i, o, none⟩ v).cell? ⟨b, o', none⟩ = w.cell? ⟨b, o', none⟩ := fun b o' hs =>
    World.cell?_setCell_other _ _ _ _ (fun e => by cases e; exact ha3 _ hs)
  have hoth : ∀ j o', (g (.al j)).v ≠ .un → Key.b j o' ≠ .b i o → (w.setCell ⟨β i, o, none⟩ v).cell? ⟨β j, o', none⟩ = w.cell? ⟨β j, o', none⟩ := fun j o' hj hne =>
    World.cell?_setCell_other _ _ _ _ (fun e => hne (by
      simp only [Addr.mk.injEq, and_true] at e
      rw [h.inj i j hb4 hj e.1, e.2]))
  have hrv : ∀ κ, There g κ → κ ≠ .b i o → rv β a (w.setCell ⟨β i, o, none⟩ v) κ = rv β a w κ := fun κ hκ hne => by
    cases κ with
    | t t => rfl
    | al j => rfl
    | b j o' => exact rv_cell (hoth j o' hκ hne)
  have hrs : rv β a (w.setCell ⟨β i, o, none⟩ v) (.b i o) = some v := (rv_b hobj).trans (World.cell?_setCell_same _ _ _ hb1)
  have hown : ∀ κ, κ ≠ .b i o → upd g (.b i o) c κ = g κ := fun κ hk => upd_ne g c hk
  have hHB : ∀ b, HBl E0 w0 g β b → HBl E0 w0 (upd g (.b i o) c) β b := fun b hb => ⟨hb.1, fun j hj => hb.2 j (by rw [hal] at hj; exact hj)⟩
  constructor
  · exact h.below.setCell (p := ⟨β i, o, none⟩) ha1.or v
  · exact h.df
  · exact h.tsz
  · exact h.s0
  · exact fun b o' hs => (hS b o' (h.s0 b o' hs)).trans (h.sc b o' hs)
  · exact h.sn
  · intro b o' hs; simpa using h.sa b o' hs
  · intro t; rw [ht]; exact (h.tm t).mono (fun _ _ h => h) hS
  · intro j o' hj
    rw [hal]
    by_cases e : Key.b j o' = .b i o
    · cases e
      rw [upd_same] at hj ⊢
      exact ⟨.of_cell hc ⟨hobj, v, World.cell?_setCell_same _ _ _ hb1, hv.mono (fun _ _ h => h) hS, by simpa using hb3⟩, hb4⟩
    · rw [upd_ne g c e] at hj ⊢
      obtain ⟨h1, h4⟩ := h.bx j o' hj
      refine ⟨?_, h4⟩
      by_cases ej : j = i
      · subst ej
        cases hu : (g (.b j o')).v.isUn with
        | false =>
          obtain ⟨k0, c', k1, k2, k3⟩ := h1.cell hu
          exact .of_cell hu ⟨k0, c', (hoth j o' h4 e).trans k1, k2.mono (fun _ _ h => h) hS, by simpa using k3⟩
        | true =>
          exfalso
          have q : (g (.b j o')).v ≠ .un → objId j = true := fun _ => by
            cases hx : (g (.b j o')).v with
            | un => exact absurd hx hj
            | ents es clk => rw [hx] at h1; exact h1.1
            | entp es clk => rw [hx] at h1; exact h1.1
            | iter m clk seen => rw [hx] at h1; exact h1.1
            | siter s pos => rw [hx] at h1; exact h1.1
            | rows k xs => rw [hx] at h1; exact h1.1
            | _ => rw [hx] at hu; cases hu
          have hq := isCell_obj hobj
          rw [q hj] at hq
          cases hq
      · exact h1.mono (fun _ _ h => h) hS (Below.heap_setCell _ _ _ _ (fun q => ej (h.inj j i h4 hb4 (by simpa using q)))) (by simp)
  · intro j hj; rw [hal] at hj
    obtain ⟨q1, q2, q3⟩ := h.al j hj
    exact ⟨q1, by simpa using q2, q3⟩
  · intro j j'; rw [hal, hal]; exact h.inj j j'
  · intro κ p hκ
    by_cases hk : κ = .b i o
    · subst hk
      rw [upd_same] at hκ
      exact ⟨v, hrs, ((ho p hκ).setCell (p := ⟨β i, o, none⟩) (fun b hb => ((ho p hκ).at hb).1.2 i hb4) v).imp (fun b _ hb => hHB b hb.1)⟩
    · rw [hown κ hk] at hκ
      obtain ⟨v', h1, h2⟩ := h.own κ p hκ
      exact ⟨v', (hrv κ (there_of_own h (by rw [hκ]; simp)) hk).trans h1, (h2.setCell (p := ⟨β i, o, none⟩) (fun b hb => (h2.at hb).2 i hb4) v).imp (fun b _ hb => hHB b hb)⟩
  · intro κ κ' v1 v2 b h3 h4 h5 h6
    by_cases hκ : κ = .b i o
    · by_cases hκ' : κ' = .b i o
      · rw [hκ, hκ']
      · exfalso
        subst hκ
        rw [hrs] at h3
        rw [hown κ' hκ'] at h6
        rw [hrv κ' (there_of_own h (blk_ne h6)) hκ'] at h4
        rw [upd_same] at h5
        cases h3
        obtain ⟨p, hp, hb⟩ := blk_some h5
        exact ((ho p hp).at hb).2 κ' v2 hκ' h4 h6
    · by_cases hκ' : κ' = .b i o
      · exfalso
        subst hκ'
        rw [hrs] at h4
        rw [hown κ hκ] at h5
        rw [hrv κ (there_of_own h (blk_ne h5)) hκ] at h3
        rw [upd_same] at h6
        cases h4
        obtain ⟨p, hp, hb⟩ := blk_some h6
        exact ((ho p hp).at hb).2 κ v1 hκ h3 h5
      · rw [hown κ hκ] at h5
        rw [hown κ' hκ'] at h6
        rw [hrv κ (there_of_own h (blk_ne h5)) hκ] at h3
        rw [hrv κ' (there_of_own h (blk_ne h6)) hκ'] at h4
        exact h.ownd κ κ' v1 v2 b h3 h4 h5 h6
  · intro t κ' h1 h2
    rw [ht] at h1
    obtain ⟨q1, q2⟩ := h.frm t κ' h1 (fun q => h2 (hw _ q))
    refine ⟨?_, fun j o' e => by rw [hal]; exact q2 j o' e⟩
    have hne : κ' ≠ .b i o := fun e => h2 (e ▸ hwd)
    show some _ = _
    cases κ' with
    | b j o' => rw [hrv (.b j o') (q2 j o' rfl) hne]; exact q1
    | _ => exact q1
  · intro j o' hj
    rw [hal]
    by_cases e : Key.b j o' = .b i o
    · cases e; exact hb4
    · rw [upd_ne g c e] at hj; exact h.blv j o' hj
  · exact h.dr
theorem FreeL.store (h : Rel Dr w0 E0 S0 N wr g a w β S) {qs : List Part} (hf : FreeL w0 E0 g a w β S qs) {i o : Nat} (hi : (g (.al i)).v ≠ .un) {v : Value} {c : C} (hco : c.own = none) :
    FreeL w0 E0 (upd g (.b i o) c) a (w.setCell ⟨β i, o, none⟩ v) β S qs := by
  refine OwsL.mono hf (fun b hb hh => ⟨⟨hh.1.1, fun j hj => ?_⟩, fun κ' v' hr hb' => ?_⟩) (fun b hb => Below.heap_setCell _ _ _ _ (fun e => ?_)) (fun _ _ _ hs => hs)
  · rw [upd_ne g c (by simp)] at hj; exact hh.1.2 j hj
  · by_cases e : κ' = .b i o
    · subst e; rw [upd_same, hco] at hb'; exact hb'
    · rw [upd_ne g c e] at hb'
      refine hh.2 κ' v' ?_ hb'
      rw [← hr]
      have hth := there_of_own h (blk_ne hb')
      cases κ' with
      | t t => rfl
      | al j => rfl
      | b j o' =>
        refine (rv_cell (World.cell?_setCell_other _ _ _ _ (fun e2 => e ?_))).symm
        simp only [Addr.mk.injEq, and_true] at e2
        rw [h.inj i j hi hth e2.1, e2.2]
  · exact (OwsL.at hf hb).1.2 i hi e.symm
/-! ### cells with lists of one's own -/
def ownsFrom : Nat → Nat → List (Nat × TypeId × Nat) → List Own
  | _, 0, _ => []
  | j, n + 1, [] => none :: ownsFrom (j + 1) n []
  | j, n + 1, (o, e, k) :: r => if o = j then some (e, k) :: ownsFrom (j + 1) n r else none :: ownsFrom (j + 1) n ((o, e, k) :: r)
def boxWO (i : Nat) : Nat → List Own → List PV → List (Key × C)
  | o, ow :: ows, x :: xs => (.b i o, ⟨.pv x, ow, none⟩) :: boxWO i (o + 1) ows xs
  | _, _, _ => []
def partsL : List Own → List Value → List Part
  | some p :: ows, v :: vs => partsO p v ++ partsL ows vs
  | none :: ows, _ :: vs => partsL ows vs
  | _, _ => []
theorem ownsFrom_len : ∀ (n j : Nat) (l : List (Nat × TypeId × Nat)), (ownsFrom j n l).length = n
  | 0, _, _ => rfl
  | n + 1, j, [] => by simp [ownsFrom, ownsFrom_len]
  | n + 1, j, (o, e, k) :: r => by
    unfold ownsFrom
    split <;> simp [ownsFrom_len]
theorem upds_boxWO (i : Nat) : ∀ (ows : List Own) (xs : List PV) (o : Nat) (g : Key → C) (κ : Key),
    (∀ i' o', κ = .b i' o' → ¬ (i' = i ∧ o ≤ o')) → upds g (boxWO i o ows xs) κ = g κ
  | [], _, o, g, κ, _ => rfl
  | _ :: _, [], o, g, κ, _ => rfl
  | ow :: ows, x :: xs, o, g, κ, h => by
    show upds (upd g (.b i o) _) (boxWO i (o + 1) ows xs) κ = _
    rw [upds_boxWO i ows xs (o + 1) _ κ (fun i' o' e hh => h i' o' e ⟨hh.1, by omega⟩), upd_ne]
    intro e
    exact h i o e ⟨rfl, Nat.le_refl _⟩
theorem upds_boxWO_at (i : Nat) : ∀ (ows : List Own) (xs : List PV) (o : Nat) (g : Key → C) (o' : Nat), ows.length = xs.length → o ≤ o' →
    upds g (boxWO i o ows xs) (.b i o') = match xs[o' - o]?, ows[o' - o]? with | some x, some ow => ⟨.pv x, ow, none⟩ | _, _ => g (.b i o')
  | [], [], o, g, o', _, _ => by simp [boxWO, upds]
  | [], _ :: _, o, g, o', h, _ => by simp at h
  | _ :: _, [], o, g, o', h, _ => by simp at h
  | ow :: ows, x :: xs, o, g, o', hl, h => by
    show upds (upd g (.b i o) _) (boxWO i (o + 1) ows xs) (.b i o') = _
    by_cases e : o' = o
    · subst e
      rw [upds_boxWO i ows xs (o' + 1) _ _ (fun i1 o1 e1 hh => by cases e1; omega), upd_same]
      simp
    · rw [upds_boxWO_at i ows xs (o + 1) _ o' (by simpa using hl) (by omega), upd_ne _ _ (by simpa using e)]
      have : o' - o = (o' - (o + 1)) + 1 := by omega
      rw [this]
      rfl
/-- First the cells, then what they own: at once. -/
theorem upds_boxW_WO (i : Nat) (ows : List Own) (xs : List PV) (o : Nat) (g : Key → C) (hl : ows.length = xs.length) : upds (upds g (boxW i o xs)) (boxWO i o ows xs) = upds g (boxWO i o ows xs) := by
  funext κ
  by_cases h : ∃ o', κ = .b i o' ∧ o ≤ o'
  · obtain ⟨o', rfl, ho⟩ := h
    rw [upds_boxWO_at _ _ _ _ _ _ hl ho, upds_boxWO_at _ _ _ _ _ _ hl ho, upds_boxW_at _ _ _ _ _ ho]
    cases hx : xs[o' - o]? with
    | none => rfl
    | some x =>
      have hlt := (List.getElem?_eq_some_iff.1 hx).1
      rw [List.getElem?_eq_getElem (show o' - o < ows.length by omega)]
  · have hn : ∀ i' o', κ = .b i' o' → ¬ (i' = i ∧ o ≤ o') := fun i' o' e hh => h ⟨o', by rw [e, hh.1], hh.2⟩
    rw [upds_boxWO _ _ _ _ _ _ hn, upds_boxWO _ _ _ _ _ _ hn, upds_boxW _ _ _ _ _ hn]
theorem upd_self (g : Key → C) (κ : Key) : upd g κ (g κ) = g := funext fun κ' => by
  by_cases e : κ' = κ
  · subst e; rw [upd_same]
  · rw [upd_ne _ _ e]
/-- The cells of a variable come to have what no key has. -/
theorem Rel.gives {i : Nat} : ∀ (vs : List Value) (ows : List Own) (xs : List PV) (o : Nat) {g : Key → C}, Rel Dr w0 E0 S0 N wr g a w β S → ows.length = xs.length → vs.length = xs.length →
    (∀ (q : Nat) v x, vs[q]? = some v → xs[q]? = some x → g (.b i (o + q)) = ⟨.pv x, none, none⟩ ∧ rv β a w (.b i (o + q)) = some v) → (g (.al i)).v ≠ .un → FreeL w0 E0 g a w β S (partsL ows vs) →
    Rel Dr w0 E0 S0 N wr (upds g (boxWO i o ows xs)) a w β S
  | [], [], [], o, g, h, _, _, _, _, _ => h
  | _ :: _, _, [], _, _, _, _, h, _, _, _ => by simp at h
  | [], _, _ :: _, _, _, _, _, h, _, _, _ => by simp at h
  | _, _ :: _, [], _, _, _, h, _, _, _, _ => by simp at h
  | _, [], _ :: _, _, _, _, h, _, _, _, _ => by simp at h
  | v :: vs, ow :: ows, x :: xs, o, g, h, hl1, hl2, hg, hi, hf => by
    obtain ⟨g0, r0⟩ := hg 0 v x rfl rfl
    rw [Nat.add_zero] at g0 r0
    have next : ∀ (c : C) (q : Nat) v' x', vs[q]? = some v' → xs[q]? = some x' → upd g (.b i o) c (.b i (o + 1 + q)) = ⟨.pv x', none, none⟩ ∧ rv β a w (.b i (o + 1 + q)) = some v' := fun c q v' x' hv hx => by
      obtain ⟨k1, k2⟩ := hg (q + 1) v' x' (by simpa using hv) (by simpa using hx)
      rw [show o + (q + 1) = o + 1 + q from by omega] at k1 k2
      exact ⟨by rw [upd_ne _ _ (by simp; omega)]; exact k1, k2⟩
    show Rel Dr w0 E0 S0 N wr (upds (upd g (.b i o) ⟨.pv x, ow, none⟩) (boxWO i (o + 1) ows xs)) a w β S
    cases ow with
    | none =>
      have e : upd g (.b i o) ⟨.pv x, none, none⟩ = g := by rw [← g0]; exact upd_self g _
      have nx := next ⟨.pv x, none, none⟩
      rw [e] at nx ⊢
      exact Rel.gives vs ows xs (o + 1) h (by simpa using hl1) (by simpa using hl2) nx hi hf
    | some p =>
      have hf' : FreeL w0 E0 g a w β S (partsO p v ++ partsL ows vs) := hf
      have hf0 : FreeL w0 E0 g a w β S (partsO p v) := by
        obtain ⟨h1, h2⟩ := hf'
        exact ⟨fun q hq => h1 q (List.mem_append_left _ hq), (List.pairwise_append.1 h2).1⟩
      have h1 := h.give (.b i o) (by rw [g0]) hi r0 hf0
      have h2 := FreeL.give (κ := .b i o) (fun i => by simp) r0 hf'
      have e : { g (.b i o) with own := some p } = (⟨.pv x, some p, none⟩ : C) := by rw [g0]
      rw [e] at h1 h2
      exact Rel.gives vs ows xs (o + 1) h1 (by simpa using hl1) (by simpa using hl2) (next _) (by rw [upd_ne _ _ (by simp)]; exact hi) h2
theorem OwsL.sub {H : Nat → Prop} {w : World} {S : Nat → Nat → Prop} {ps qs : List Part} (h : OwsL H w S qs) (hs : List.Sublist ps qs) : OwsL H w S ps := ⟨fun q hq => h.1 q (hs.subset hq), h.2.sublist hs⟩
theorem partsO_sub (e : TypeId) (k : Nat) {u : Value} (hu : u.oneCell' = true) : List.Sublist (partsO (e, k) u) [(e, k, u)] := by
  unfold partsO
  split
  · cases u <;> first | exact List.nil_sublist _ | cases hu
  · exact List.Sublist.refl _
/-- The parts by the cells are parts by the number. -/
theorem partsL_sub : ∀ (n j : Nat) (l : List (Nat × TypeId × Nat)) (vs : List Value), (∀ v, v ∈ vs → v.oneCell' = true) → vs.length = n + j → List.Sublist (partsL (ownsFrom j n l) (vs.drop j)) (cutO vs.toArray l)
  | 0, j, l, vs, _, _ => by simp [ownsFrom, partsL]
  | n + 1, j, [], vs, h1, hl => by
    have hd : vs.drop j = vs[j]'(by omega) :: vs.drop (j + 1) := List.drop_eq_getElem_cons (by omega)
    rw [hd]
    show List.Sublist (partsL (ownsFrom (j + 1) n []) (vs.drop (j + 1))) _
    exact partsL_sub n (j + 1) [] vs h1 (by omega)
  | n + 1, j, (o, e, k) :: r, vs, h1, hl => by
    have hj : j < vs.length := by omega
    have hd : vs.drop j = vs[j] :: vs.drop (j + 1) := List.drop_eq_getElem_cons hj
    rw [hd]
    unfold ownsFrom
    by_cases ho : o = j
    · subst ho
      rw [if_pos rfl]
      have hv : vs.toArray[o]? = some vs[o] := by simp
      have hc : cutO vs.toArray ((o, e, k) :: r) = (e, k, vs[o]) :: cutO vs.toArray r := by
        show (match vs.toArray[o]? with | some u => (e, k, u) :: cutO vs.toArray r | none => cutO vs.toArray r) = _
        rw [hv]
      rw [hc]
      exact (partsO_sub e k (h1 _ (List.getElem_mem hj))).append (partsL_sub n (o + 1) r vs h1 (by omega))
    · rw [if_neg ho]
      exact partsL_sub n (j + 1) ((o, e, k) :: r) vs h1 (by omega)
end
end Go.Proofs.YtbjfmkmaghapgaaGreatDoor.B
