/-
The logic of pure values, continued: what is handed to a call is written by it as a whole, and so are maps, iterators and lists that may be written; new memory comes in. Condition: none.
-/
import Derived.Test.YtbjfmkmaghapgaaGreatDoorBApp
set_option linter.unusedVariables false
set_option linter.unusedSimpArgs false
namespace Go.Proofs.YtbjfmkmaghapgaaGreatDoor.B
open Go.RowKit
section
variable {Dr : Prop} {w0 : World} {E0 : Nat → Nat → Prop} {S0 : Nat → Nat → Prop} {N : Nat} {wr : Key → Prop} {g : Key → C} {a : Act} {w : World} {β : Nat → Nat} {S : Nat → Nat → Prop}
theorem Rel.hand (h : Rel Dr w0 E0 S0 N wr g a w β S) (ids : List Nat) (hlive : ∀ i, i ∈ ids → (g (.al i)).v ≠ .un) {w' : World} {S' : Nat → Nat → Prop} (hk : Kept (fun b => ∃ i, i ∈ ids ∧ β i = b) w w') (hdr : Dr → w.drawn ≤ w'.drawn)
    (hS : ∀ b o, S b o → S' b o) (hn : ∀ b o, S' b o → S b o ∨ w.heap.size ≤ b) (ha : ∀ b o, S' b o → b < w'.heap.size)
    {g' : Key → C} (hsame : ∀ κ, (∀ i o, i ∈ ids → κ ≠ .b i o) → g' κ = g κ) (hnew : ∀ i o, i ∈ ids → (g' (.b i o)).own = none ∧ ((g' (.b i o)).v ≠ .un → HoldsB β S' w' i o (g' (.b i o)).v))
    {wr' : Key → Prop} (hw : ∀ κ, wr κ → wr' κ) (hwd : ∀ i o, i ∈ ids → isCell i o = true → wr' (.b i o)) : Rel Dr w0 E0 S0 N wr' g' a w' β S' := by
  have hsz := h.below.size
  have hblk : ∀ b, b < w.heap.size → (∀ i, i ∈ ids → β i ≠ b) → w'.heap[b]? = w.heap[b]? := fun b hb hne => hk.block b hb (fun ⟨i, hi, e⟩ => hne i hi e)
  have hc : ∀ b o, S b o → w'.cell? ⟨b, o, none⟩ = w.cell? ⟨b, o, none⟩ := fun b o hs => cell_of_block (hblk b (h.sa b o hs) (fun i hi e => (h.al i (hlive i hi)).2.2 o (e ▸ hs))) o
  have hal : ∀ j, g' (.al j) = g (.al j) := fun j => hsame _ (fun _ _ _ => by simp)
  have ht : ∀ t, g' (.t t) = g (.t t) := fun t => hsame _ (fun _ _ _ => by simp)
  have hbb : ∀ j o, j ∉ ids → g' (.b j o) = g (.b j o) := fun j o hj => hsame _ (fun i o' hi e => by cases e; exact hj hi)
  have hoth : ∀ j, (g (.al j)).v ≠ .un → j ∉ ids → w'.heap[β j]? = w.heap[β j]? := fun j hj hn => hblk _ (h.al j hj).2.1 (fun i hi e => hn (h.inj i j (hlive i hi) hj e ▸ hi))
  have ownIf : ∀ κ, (g' κ).own ≠ none → g' κ = g κ ∧ (g κ).own ≠ none ∧ rv β a w' κ = rv β a w κ := fun κ hκ => by
    cases κ with
    | t t => rw [ht] at hκ ⊢; exact ⟨rfl, hκ, rfl⟩
    | al j => rw [hal] at hκ ⊢; exact ⟨rfl, hκ, rfl⟩
    | b j o =>
      by_cases hj : j ∈ ids
      · exact absurd (hnew j o hj).1 hκ
      · rw [hbb j o hj] at hκ ⊢
        exact ⟨rfl, hκ, rv_cell (cell_of_block (hoth j (h.blv j o hκ) hj) o)⟩
  constructor
  · refine h.below.trans hk (fun k hk2 e => ?_)
    obtain ⟨i, hi, rfl⟩ := e
    rcases (h.al i (hlive i hi)).1.or with q | q
    · exact q
    · omega
  · exact h.df
  · exact h.tsz
  · exact fun b o hs => hS _ _ (h.s0 b o hs)
  · exact fun b o hs => (hc b o (h.s0 b o hs)).trans (h.sc b o hs)
  · intro b o hs
    rcases hn b o hs with hs | hs
    · exact h.sn b o hs
    · exact .inr (.inr (by omega))
  · exact ha
  · intro t; rw [ht]; exact (h.tm t).mono hS hc
  · intro j o hj
    rw [hal]
    by_cases hi : j ∈ ids
    · exact ⟨(hnew j o hi).2 hj, hlive j hi⟩
    · rw [hbb j o hi] at hj ⊢
      obtain ⟨h1, h4⟩ := h.bx j o hj
      exact ⟨h1.mono hS hc (hoth j h4 hi) (World.frozen?_of_block (w := w) (a := ⟨β j, o, none⟩) (hoth j h4 hi)), h4⟩
  · intro j hj; rw [hal] at hj
    obtain ⟨q1, q2, q3⟩ := h.al j hj
    refine ⟨q1, Nat.lt_of_lt_of_le q2 hk.size, fun o hs => ?_⟩
    rcases hn _ o hs with hs | hs
    · exact q3 o hs
    · omega
  · intro j j'; rw [hal, hal]; exact h.inj j j'
  · intro κ p hκ
    obtain ⟨q1, q2, q3⟩ := ownIf κ (by rw [hκ]; simp)
    rw [q1] at hκ
    obtain ⟨v, h1, h2⟩ := h.own κ p hκ
    refine ⟨v, q3.trans h1, h2.mono (fun b _ hb => ⟨hb.1, fun j hj => by rw [hal] at hj; exact hb.2 j hj⟩) (fun b hb => hblk b (h2.lt hb) (fun i hi e => (h2.at hb).2 i (hlive i hi) e)) (fun b o hb hs => ?_)⟩
    rcases hn b o hs with hs | hs
    · exact hs
    · have := h2.lt hb; omega
  · intro κ κ' v1 v2 b h3 h4 h5 h6
    obtain ⟨q0, _, q2⟩ := ownIf κ (blk_ne h5)
    obtain ⟨q0', _, q2'⟩ := ownIf κ' (blk_ne h6)
    rw [q2] at h3
    rw [q2'] at h4
    rw [q0] at h5
    rw [q0'] at h6
    exact h.ownd κ κ' v1 v2 b h3 h4 h5 h6
  · intro t κ' h1 h2
    rw [ht] at h1
    obtain ⟨q1, q2⟩ := h.frm t κ' h1 (fun q => h2 (hw _ q))
    refine ⟨?_, fun j o e => by rw [hal]; exact q2 j o e⟩
    show some _ = _
    cases κ' with
    | b j o =>
      by_cases hj : j ∈ ids
      · cases hcell : isCell j o with
        | true => exact absurd (hwd j o hj hcell) h2
        | false => rw [rv_obj hcell] at q1; cases q1
      · rw [rv_cell (w := w) (cell_of_block (hoth j (q2 j o rfl) hj) o)]; exact q1
    | t t' => exact q1
    | al j => exact q1
  · intro j o hj
    obtain ⟨q1, q2, _⟩ := ownIf (.b j o) hj
    rw [hal]
    exact h.blv j o q2
  · exact fun d => Nat.le_trans (h.dr d) (hdr d)
/-- Memory that comes in: its cells, or its content as a whole. -/
def boxF (i : Nat) : Nat → List FV → List (Key × C)
  | _, [] => []
  | o, x :: xs => (.b i o, ⟨x, none, none⟩) :: boxF i (o + 1) xs
theorem upds_boxF (i : Nat) : ∀ (xs : List FV) (o : Nat) (g : Key → C) (κ : Key),
    (∀ i' o', κ = .b i' o' → ¬ (i' = i ∧ o ≤ o')) → upds g (boxF i o xs) κ = g κ
  | [], o, g, κ, _ => rfl
  | x :: xs, o, g, κ, h => by
    show upds (upd g (.b i o) _) (boxF i (o + 1) xs) κ = _
    rw [upds_boxF i xs (o + 1) _ κ (fun i' o' e hh => h i' o' e ⟨hh.1, by omega⟩), upd_ne]
    intro e
    exact h i o e ⟨rfl, Nat.le_refl _⟩
theorem upds_boxF_at (i : Nat) : ∀ (xs : List FV) (o : Nat) (g : Key → C) (o' : Nat), o ≤ o' →
    upds g (boxF i o xs) (.b i o') = match xs[o' - o]? with | some x => ⟨x, none, none⟩ | none => g (.b i o')
  | [], o, g, o', _ => by simp [boxF, upds]
  | x :: xs, o, g, o', h => by
    show upds (upd g (.b i o) _) (boxF i (o + 1) xs) (.b i o') = _
    by_cases e : o' = o
    · subst e
      rw [upds_boxF i xs (o' + 1) _ _ (fun i1 o1 e1 hh => by cases e1; omega), upd_same]
      simp
    · rw [upds_boxF_at i xs (o + 1) _ o' (by omega), upd_ne _ _ (by simpa using e)]
      have : o' - o = (o' - (o + 1)) + 1 := by omega
      rw [this]
      rfl
theorem Rel.adopt (h : Rel Dr w0 E0 S0 N wr g a w β S) (ids : List Nat) (hfree : ∀ i, i ∈ ids → (g (.al i)).v = .un) (hp : PtrOK g) (β' : Nat → Nat) (hβ : ∀ j, j ∉ ids → β' j = β j)
    (hhome : ∀ i, i ∈ ids → HomeOK E0 w0 i (β' i) ∧ β' i < w.heap.size ∧ ∀ o, ¬ S (β' i) o) (hinj : ∀ i j, i ∈ ids → j ∈ ids → β' i = β' j → i = j)
    (hap : ∀ i, i ∈ ids → ∀ j, (g (.al j)).v ≠ .un → β j ≠ β' i) (hao : ∀ i, i ∈ ids → ∀ κ v, rv β a w κ = some v → ¬ Blk (g κ).own v (β' i)) (g' : Key → C)
    (hsame : ∀ κ, (∀ i, i ∈ ids → κ ≠ .al i ∧ ∀ o, κ ≠ .b i o) → g' κ = g κ)
    (hnew : ∀ i, i ∈ ids → (g' (.al i)).own = none ∧ (g' (.al i)).v ≠ .un ∧ ∀ o, (g' (.b i o)).own = none ∧ ((g' (.b i o)).v ≠ .un → HoldsB β' S w i o (g' (.b i o)).v)) :
    Rel Dr w0 E0 S0 N wr g' a w β' S := by
  have gt : ∀ t, g' (.t t) = g (.t t) := fun t => hsame _ (fun i _ => ⟨by simp, fun o => by simp⟩)
  have gal : ∀ j, j ∉ ids → g' (.al j) = g (.al j) := fun j hj => hsame _ (fun i hi => ⟨fun e => by cases e; exact hj hi, fun o => by simp⟩)
  have gb : ∀ j o, j ∉ ids → g' (.b j o) = g (.b j o) := fun j o hj => hsame _ (fun i hi => ⟨by simp, fun o' e => by cases e; exact hj hi⟩)
  have lv : ∀ j, (g' (.al j)).v ≠ .un → j ∈ ids ∨ (g (.al j)).v ≠ .un := fun j hj => by
    by_cases e : j ∈ ids
    · exact .inl e
    · rw [gal j e] at hj; exact .inr hj
  have hne : ∀ j, (g (.al j)).v ≠ .un → j ∉ ids := fun j hj e => hj (hfree j e)
  have lv' : ∀ j, (g (.al j)).v ≠ .un → (g' (.al j)).v ≠ .un := fun j hj => by rw [gal j (hne j hj)]; exact hj
  have own_ne : ∀ κ, (g' κ).own ≠ none → (g κ).own ≠ none ∧ g' κ = g κ ∧ rv β' a w κ = rv β a w κ := fun κ hκ => by
    cases κ with
    | t t => rw [gt] at hκ ⊢; exact ⟨hκ, rfl, rfl⟩
    | al j =>
      by_cases e : j ∈ ids
      · exact absurd (hnew j e).1 hκ
      · rw [gal j e] at hκ ⊢; exact ⟨hκ, rfl, rfl⟩
    | b j o =>
      by_cases e : j ∈ ids
      · exact absurd ((hnew j e).2.2 o).1 hκ
      · rw [gb j o e] at hκ ⊢
        exact ⟨hκ, rfl, rv_ren (hβ j e)⟩
  constructor
  · exact h.below
  · exact h.df
  · exact h.tsz
  · exact h.s0
  · exact h.sc
  · exact h.sn
  · exact h.sa
  · intro t; rw [gt]; exact (h.tm t).ren (fun j hj => hβ j (hne j (hp _ j hj)))
  · intro j o hv
    by_cases e : j ∈ ids
    · exact ⟨((hnew j e).2.2 o).2 hv, (hnew j e).2.1⟩
    · rw [gb j o e] at hv ⊢
      obtain ⟨h1, h4⟩ := h.bx j o hv
      exact ⟨h1.ren (hβ j e) (fun q hq => hβ q (hne q (hp _ q hq))), lv' j h4⟩
  · intro j hj
    by_cases e : j ∈ ids
    · exact hhome j e
    · rw [hβ j e]; exact h.al j ((lv j hj).resolve_left e)
  · intro j j' hj hj' heq
    by_cases e : j ∈ ids
    · by_cases e' : j' ∈ ids
      · exact hinj j j' e e' heq
      · rw [hβ j' e'] at heq
        exact absurd heq.symm (hap j e j' ((lv j' hj').resolve_left e'))
    · by_cases e' : j' ∈ ids
      · rw [hβ j e] at heq
        exact absurd heq (hap j' e' j ((lv j hj).resolve_left e))
      · rw [hβ j e, hβ j' e'] at heq
        exact h.inj j j' ((lv j hj).resolve_left e) ((lv j' hj').resolve_left e') heq
  · intro κ p hκ
    obtain ⟨q1, q2, q3⟩ := own_ne κ (by rw [hκ]; simp)
    rw [q2] at hκ
    obtain ⟨v, h1, h2⟩ := h.own κ p hκ
    refine ⟨v, q3.trans h1, h2.imp (fun b hb hh => ⟨hh.1, fun j hj => ?_⟩)⟩
    by_cases e : j ∈ ids
    · intro eq
      exact hao j e κ v h1 (by rw [eq, hκ]; exact hb)
    · rw [hβ j e]; exact hh.2 j ((lv j hj).resolve_left e)
  · intro κ κ' v v' b h3 h4 h5 h6
    obtain ⟨_, q1, q3⟩ := own_ne κ (blk_ne h5)
    obtain ⟨_, q1', q3'⟩ := own_ne κ' (blk_ne h6)
    rw [q3] at h3
    rw [q3'] at h4
    rw [q1] at h5
    rw [q1'] at h6
    exact h.ownd κ κ' v v' b h3 h4 h5 h6
  · intro t κ' h1 h2
    rw [gt] at h1
    obtain ⟨q1, q2⟩ := h.frm t κ' h1 h2
    cases κ' with
    | b j o =>
      have hj := q2 j o rfl
      exact ⟨q1.trans (rv_ren (hβ j (hne j hj))).symm, fun i2 o2 e => by cases e; exact lv' j hj⟩
    | t t' => exact ⟨q1, fun _ _ e => by cases e⟩
    | al j => exact ⟨q1, fun _ _ e => by cases e⟩
  · intro j o hj
    obtain ⟨q1, _, _⟩ := own_ne (.b j o) hj
    exact lv' j (h.blv j o q1)
  · exact h.dr
/-- A new map, iterator or list. -/
theorem Rel.allocObj (h : Rel Dr w0 E0 S0 N wr g a w β S) {i : Nat} (hid : handId i = false) (hp : PtrOK g) (hfree : (g (.al i)).v = .un) (ob : Obj) (x : FV)
    (hH : ∀ β', β' i = w.heap.size → (∀ j, j ≠ i → β' j = β j) → HoldsB β' S (w.alloc ob) i 0 x) :
    ∃ β', β' i = w.heap.size ∧ (∀ j, j ≠ i → β' j = β j) ∧ Rel Dr w0 E0 S0 N wr (upds (upd g (.al i) liveC) (boxF i 0 [x])) a (w.alloc ob) β' S := by
  have hW : Below w.heap.size w (w.alloc ob) := (Below.refl _ _).alloc (Nat.le_refl _) _
  have hsz := h.below.size
  let β' : Nat → Nat := fun j => if j = i then w.heap.size else β j
  have hβi : β' i = w.heap.size := if_pos rfl
  have hβ : ∀ j, j ≠ i → β' j = β j := fun j hj => if_neg hj
  refine ⟨β', hβi, hβ, ?_⟩
  have mem : ∀ j, j ∈ [i] → j = i := fun j hj => by simpa using hj
  refine (h.world hW (fun _ => Nat.le_refl _)).adopt [i] (fun j hj => by rw [mem j hj]; exact hfree) hp β' (fun j hj => hβ j (by simpa using hj)) (fun j hj => by
    rw [mem j hj, hβi]
    exact ⟨⟨fun q => (by rw [hid] at q; cases q), fun _ => hsz⟩, by simp [World.size_alloc], fun o hs => by have := h.sa _ _ hs; omega⟩) (fun j j' hj hj' _ => (mem j hj).trans (mem j' hj').symm) (fun j hj j' hj' e => by
    rw [mem j hj, hβi] at e
    have := (h.al j' hj').2.1; omega) (fun j hj κ v hr hb => ?_) _ (fun κ hκ => ?_) (fun j hj => ?_)
  · rw [mem j hj, hβi] at hb
    rw [rv_same h (fun i hi o => hW.cell (p := ⟨β i, o, none⟩) (h.al i hi).2.1) (there_of_own h (blk_ne hb))] at hr
    have := blk_lt h hr hb
    omega
  · obtain ⟨q1, q2⟩ := hκ i (by simp)
    rw [upds_boxF _ _ _ _ _ (fun i' o' e hh => by subst e; exact q2 o' (by rw [hh.1])), upd_ne _ _ q1]
  · rw [mem j hj, upds_boxF _ _ _ _ _ (fun _ _ e => by cases e), upd_same]
    refine ⟨rfl, by simp [liveC], fun o => ?_⟩
    rw [upds_boxF_at _ _ _ _ _ (Nat.zero_le _), upd_ne _ _ (by simp)]
    cases o with
    | zero => exact ⟨rfl, fun _ => hH β' hβi hβ⟩
    | succ o =>
      show (g (.b i (o + 1))).own = none ∧ ((g (.b i (o + 1))).v ≠ .un → _)
      refine ⟨?_, fun hne => absurd hfree (h.bx i _ hne).2⟩
      cases hv : (g (.b i (o + 1))).own with
      | none => rfl
      | some p => exact absurd hfree (h.blv i _ (by rw [hv]; simp))
end
/-! ### memory that is handed to a function -/
def CV.ren (ρ : Nat → Nat) : CV → CV
  | .pv p => .pv p
  | .ptr i o => .ptr (ρ i) o
  | .mp i => .mp (ρ i)
  | .slp i k lo n => .slp (ρ i) k lo n
def renC (ρ : Nat → Nat) : List CV → List CV
  | [] => []
  | c :: r => c.ren ρ :: renC ρ r
def renP (ρ : Nat → Nat) : List MP → List MP
  | [] => []
  | e :: r => ⟨e.born, e.key, ρ e.i, e.o⟩ :: renP ρ r
/-- The same under other numbers. -/
def FV.ren (ρ : Nat → Nat) : FV → FV
  | .ptr i o => .ptr (ρ i) o
  | .mp i => .mp (ρ i)
  | .it i => .it (ρ i)
  | .slp i k lo n => .slp (ρ i) k lo n
  | .rpt i k r j => .rpt (ρ i) k r j
  | .clo f cs => .clo f (renC ρ cs)
  | .tupf cs => .tupf (renC ρ cs)
  | .aggf cs => .aggf (renC ρ cs)
  | .entp es clk => .entp (renP ρ es) clk
  | .iter m clk seen => .iter (ρ m) clk seen
  | x => x
def renL (ρ : Nat → Nat) : List FV → List FV
  | [] => []
  | x :: r => x.ren ρ :: renL ρ r
section
variable {β : Nat → Nat} {S : Nat → Nat → Prop} {w : World} {ρ : Nat → Nat}
theorem repC_ren : ∀ {vs : List Value} {cs : List CV}, RepC β S w vs (renC ρ cs) ↔ RepC (fun i => β (ρ i)) S w vs cs
  | [], [] => Iff.rfl
  | [], _ :: _ => Iff.rfl
  | _ :: _, [] => Iff.rfl
  | v :: vs, c :: cs => by
    have h : RepCV β S w v (c.ren ρ) ↔ RepCV (fun i => β (ρ i)) S w v c := by cases c <;> exact Iff.rfl
    exact and_congr h repC_ren
theorem repF_ren {v : Value} {x : FV} : RepF β S w v (x.ren ρ) ↔ RepF (fun i => β (ρ i)) S w v x := by
  cases x with
  | clo f cs => exact ⟨fun ⟨c, h1, h2⟩ => ⟨c, h1, repC_ren.1 h2⟩, fun ⟨c, h1, h2⟩ => ⟨c, h1, repC_ren.2 h2⟩⟩
  | tupf cs => exact ⟨fun ⟨c, h1, h2⟩ => ⟨c, h1, repC_ren.1 h2⟩, fun ⟨c, h1, h2⟩ => ⟨c, h1, repC_ren.2 h2⟩⟩
  | aggf cs => exact ⟨fun ⟨c, h1, h2, h3⟩ => ⟨c, h1, repC_ren.1 h2, h3⟩, fun ⟨c, h1, h2, h3⟩ => ⟨c, h1, repC_ren.2 h2, h3⟩⟩
  | _ => exact Iff.rfl
theorem renP_at : ∀ {es : List MP} {i : Nat}, (renP ρ es)[i]? = (es[i]?).map fun e => ⟨e.born, e.key, ρ e.i, e.o⟩
  | [], i => by simp [renP]
  | e :: es, 0 => by simp [renP]
  | e :: es, i + 1 => by simpa [renP] using renP_at
theorem renP_len : ∀ {es : List MP}, (renP ρ es).length = es.length
  | [] => rfl
  | e :: es => by simp [renP, renP_len]
theorem renP_born : ∀ {es : List MP}, (renP ρ es).map MP.born = es.map MP.born
  | [] => rfl
  | e :: es => by simp [renP, renP_born]
theorem renL_at : ∀ {xs : List FV} {i : Nat}, (renL ρ xs)[i]? = (xs[i]?).map (FV.ren ρ)
  | [], i => by simp [renL]
  | e :: es, 0 => by simp [renL]
  | e :: es, i + 1 => by simpa [renL] using renL_at
theorem renL_len : ∀ {es : List FV}, (renL ρ es).length = es.length
  | [] => rfl
  | e :: es => by simp [renL, renL_len]
theorem ren_no {x : FV} : x.ren ρ = .un ↔ x = .un := by cases x <;> simp [FV.ren]
theorem holdsB_ren {i o : Nat} {x : FV} (h1 : objId (ρ i) = objId i) (h2 : isCell (ρ i) o = isCell i o) : HoldsB β S w (ρ i) o (x.ren ρ) ↔ HoldsB (fun i => β (ρ i)) S w i o x := by
  cases x with
  | ents es clk => simp only [FV.ren, HoldsB, h1]
  | siter s pos => simp only [FV.ren, HoldsB, h1]
  | rows k xs => simp only [FV.ren, HoldsB, h1]
  | iter m clk seen => simp only [FV.ren, HoldsB, h1]
  | entp es clk =>
    simp only [FV.ren, HoldsB, h1, renP_born]
    have q : ∀ arr, EntQ β S w arr (renP ρ es) ↔ EntQ (fun i => β (ρ i)) S w arr es := fun arr => by
      unfold EntQ
      rw [renP_len]
      refine and_congr Iff.rfl ⟨fun h i e m he hm => ?_, fun h i e m he hm => ?_⟩
      · exact h i e ⟨m.born, m.key, ρ m.i, m.o⟩ he (by rw [renP_at, hm]; rfl)
      · rw [renP_at] at hm
        cases hq : es[i]? with
        | none => rw [hq] at hm; cases hm
        | some m' => rw [hq] at hm; simp at hm; subst hm; exact h i e m' he hq
    simp only [q]
  | un => simp only [FV.ren, HoldsB, h2, RepF]
  | pv p => simp only [FV.ren, HoldsB, h2, RepF]
  | ptr i o => simp only [FV.ren, HoldsB, h2, RepF]
  | ept row j => simp only [FV.ren, HoldsB, h2, RepF]
  | mp i => simp only [FV.ren, HoldsB, h2, RepF]
  | it i => simp only [FV.ren, HoldsB, h2, RepF]
  | slp i k lo n => simp only [FV.ren, HoldsB, h2, RepF]
  | rpt i k r j => simp only [FV.ren, HoldsB, h2, RepF]
  | clo f cs =>
    simp only [FV.ren, HoldsB, h2]
    refine and_congr Iff.rfl (exists_congr fun c => and_congr Iff.rfl (and_congr ?_ Iff.rfl))
    exact repF_ren (x := .clo f cs)
  | tupf cs =>
    simp only [FV.ren, HoldsB, h2]
    refine and_congr Iff.rfl (exists_congr fun c => and_congr Iff.rfl (and_congr ?_ Iff.rfl))
    exact repF_ren (x := .tupf cs)
  | aggf cs =>
    simp only [FV.ren, HoldsB, h2]
    refine and_congr Iff.rfl (exists_congr fun c => and_congr Iff.rfl (and_congr ?_ Iff.rfl))
    exact repF_ren (x := .aggf cs)
end
abbrev HS := List (Nat × List FV)
def idsOf : HS → List Nat
  | [] => []
  | (i, _) :: r => i :: idsOf r
theorem mem_ids {i : Nat} : ∀ {hs : HS}, i ∈ idsOf hs → ∃ xs, (i, xs) ∈ hs
  | [], h => by simp [idsOf] at h
  | (j, xs) :: r, h => by
    rcases List.mem_cons.1 h with rfl | h
    · exact ⟨xs, List.mem_cons_self ..⟩
    · obtain ⟨ys, hy⟩ := mem_ids h
      exact ⟨ys, List.mem_cons_of_mem _ hy⟩
theorem ids_mem {i : Nat} {xs : List FV} : ∀ {hs : HS}, (i, xs) ∈ hs → i ∈ idsOf hs
  | [], h => by simp at h
  | (j, ys) :: r, h => by
    rcases List.mem_cons.1 h with e | h
    · cases e; exact List.mem_cons_self ..
    · exact List.mem_cons_of_mem _ (ids_mem h)
/-- Which block is handed over under which number. -/
def EH (β : Nat → Nat) (hs : HS) : Nat → Nat → Prop := fun i b => i ∈ idsOf hs ∧ β i = b
structure HPre (β : Nat → Nat) (S : Nat → Nat → Prop) (w : World) (hs : HS) : Prop where
  lt : ∀ i, i ∈ idsOf hs → β i < w.heap.size ∧ ∀ o, ¬ S (β i) o
  inj : ∀ i j, i ∈ idsOf hs → j ∈ idsOf hs → β i = β j → i = j
  holds : ∀ i xs, (i, xs) ∈ hs → ∀ (o : Nat) x, xs[o]? = some x → x ≠ .un → HoldsB β S w i o x
def RepFL (β : Nat → Nat) (S : Nat → Nat → Prop) (w : World) (vs : Array Value) (xs : List FV) : Prop := vs.size = xs.length ∧ ∀ (i : Nat) (v : Value) (x : FV), vs[i]? = some v → xs[i]? = some x → RepF β S w v x
/-- The blocks that are handed over as lists of one's own. -/
def HB (oin : List Own) (vs : Array Value) (b : Nat) : Prop := ∃ (i : Nat) (ow : Own) (v : Value), oin[i]? = some ow ∧ vs[i]? = some v ∧ Blk ow v b
def OwnH (H : Nat → Prop) (S : Nat → Nat → Prop) (w : World) (v : Value) : Own → Prop
  | none => True
  | some p => OwsL H w S (partsO p v)
/-- What a call comes to, of a function to which lists are handed over for good. -/
def OCalls (G : World → Prop) (P : Program) (f : FuncId) (args : List PV) (oin : List Own) (res : PV) (own : Own) : Prop :=
  Callable P f ∧ ∀ (w : World) (S : Nat → Nat → Prop) (vs : Array Value), (∀ w', Kept (HB oin vs) w w' → G w') → (∀ b o, S b o → b < w.heap.size) → RepL S w vs args →
    (∀ (i : Nat) p v, oin[i]? = some (some p) → vs[i]? = some v → OwsL (fun _ => True) w S (partsO p v)) →
    (∀ (i j : Nat) ow ow' v v' b, oin[i]? = some ow → oin[j]? = some ow' → vs[i]? = some v → vs[j]? = some v' → Blk ow v b → Blk ow' v' b → i = j) →
    Calls P f vs w fun e w' => ∃ v S', e = .returned v ∧ Kept (HB oin vs) w w' ∧ (∀ b o, S b o → S' b o) ∧ (∀ b o, S b o → w'.cell? ⟨b, o, none⟩ = w.cell? ⟨b, o, none⟩) ∧ (∀ b o, S' b o → S b o ∨ HB oin vs b ∨ w.heap.size ≤ b) ∧
      (∀ b o, S' b o → b < w'.heap.size) ∧ RepP S' w' v res ∧ OwnH (fun b => HB oin vs b ∨ w.heap.size ≤ b) S' w' v own ∧ ((∀ w, G w) → w.drawn ≤ w'.drawn)
/-- What a call comes to, of a function that memory is handed to: 'hs' before it, 'hs'' after it, with what is new. -/
def HCalls (G : World → Prop) (P : Program) (f : FuncId) (args : List FV) (hs : HS) (res : FV) (own : Own) (hs' : HS) : Prop :=
  Callable P f ∧ ∀ (w : World) (S : Nat → Nat → Prop) (β : Nat → Nat) (vs : Array Value), (∀ w', Kept (EB (EH β hs)) w w' → G w') → (∀ b o, S b o → b < w.heap.size) → HPre β S w hs → RepFL β S w vs args →
    Calls P f vs w fun e w' => ∃ v S' β', e = .returned v ∧ Kept (EB (EH β hs)) w w' ∧ (∀ b o, S b o → S' b o) ∧ (∀ b o, S' b o → S b o ∨ w.heap.size ≤ b) ∧ (∀ b o, S' b o → b < w'.heap.size) ∧
      (∀ i, i ∈ idsOf hs → β' i = β i) ∧ (∀ i, i ∈ idsOf hs' → i ∉ idsOf hs → w.heap.size ≤ β' i) ∧ HPre β' S' w' hs' ∧ RepF β' S' w' v res ∧ OwnR w.heap.size S' w' v own ∧ (∀ b, Blk own v b → ∀ i, i ∈ idsOf hs' → β' i ≠ b) ∧ ((∀ w, G w) → w.drawn ≤ w'.drawn)
end Go.Proofs.YtbjfmkmaghapgaaGreatDoor.B
