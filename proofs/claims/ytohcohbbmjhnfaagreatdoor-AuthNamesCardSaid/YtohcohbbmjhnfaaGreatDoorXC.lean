/-
Closed runs: what is read of memory, of types; values that are put together. Condition: none.
-/
import Derived.Test.YtohcohbbmjhnfaaGreatDoorXB
set_option linter.unusedVariables false
set_option linter.unusedSectionVars false
set_option linter.unusedSimpArgs false
namespace Go.Proofs.YtohcohbbmjhnfaaGreatDoor.X
open Go Go.RowKit
noncomputable section
variable [Tabs]

/-- A frame's temporaries. -/
abbrev Env := Nat → Option XV
structure EnvR (β : Ren) (N : Nat) (E : Env) (a : Act) : Prop where
  df : a.defers = []
  size : a.tmps.size = N
  tm : ∀ t x, E t = some x → VR β x (a.tmps.getD t undef)
theorem EnvR.mono {β β' : Ren} {N : Nat} {E : Env} {a : Act} (h : EnvR β N E a) (he : Ext β β') : EnvR β' N E a := ⟨h.df, h.size, fun t x e => VR.mono he _ (h.tm t x e)⟩
/-- What a temporary holds behind a write. -/
theorem put_getD {a : Act} {d : Nat} {v : Value} (hd : d < a.tmps.size) (t : Nat) : (a.put (some d) v).tmps.getD t undef = if t = d then v else a.tmps.getD t undef := by
  show (a.tmps.setIfInBounds d v).getD t undef = _
  rw [Array.getD_eq_getD_getElem?, Array.getElem?_setIfInBounds]
  by_cases e : t = d
  · subst e
    rw [if_pos rfl, if_pos rfl, if_pos hd]
    rfl
  · rw [if_neg e, if_neg (fun q => e q.symm), ← Array.getD_eq_getD_getElem?]
/-- A frame's temporaries, as they are kept: those of the statement under way, the newest first (w: a bit for each); those that last, where the mask has a bit. -/
structure Loc where
  l : List (Nat × XV)
  t : Tr XV
  m : Nat
  w : Nat
def bitN (m n : Nat) : Bool := Nat.beq (Nat.mod (Nat.shiftRight m n) 2) 1
theorem bitN_eq (m n : Nat) : bitN m n = m.testBit n := by
  unfold bitN
  rw [Nat.testBit_eq_decide_div_mod_eq]
  show Nat.beq ((m >>> n) % 2) 1 = _
  rw [Nat.shiftRight_eq_div_pow, Bool.eq_iff_iff]
  simp
theorem bitN_or (a n m : Nat) : bitN (Nat.lor a (Nat.shiftLeft 1 n)) m = (bitN a m || decide (m = n)) := by
  rw [bitN_eq, bitN_eq]
  show (a ||| (1 <<< n)).testBit m = _
  rw [Nat.testBit_or, Nat.testBit_shiftLeft]
  congr 1
  rw [Bool.eq_iff_iff]
  simp only [Bool.and_eq_true, decide_eq_true_eq]
  constructor
  · rintro ⟨h1, h2⟩
    have : m - n = 0 := by
      rcases Nat.eq_zero_or_pos (m - n) with q | q
      · exact q
      · rw [Nat.testBit_one_eq_true_iff_self_eq_zero] at h2; exact h2
    omega
  · rintro rfl
    simp
theorem bitN_and (a b n : Nat) : bitN (Nat.land a b) n = (bitN a n && bitN b n) := by
  rw [bitN_eq, bitN_eq, bitN_eq]
  show (a &&& b).testBit n = _
  rw [Nat.testBit_and]
def lookL (l : List (Nat × XV)) (n : Nat) (r : Option XV) : Option XV :=
  List.rec (motive := fun _ => Option XV) r (fun p _ ih => Bool.rec (motive := fun _ => Option XV) ih (some p.2) (Nat.beq p.1 n)) l
def lastT (t : Tr XV) (m n : Nat) : Option XV := Bool.rec (motive := fun _ => Option XV) none (t.get n) (bitN m n)
def Loc.get (E : Loc) : Env := fun n => Loc.rec (motive := fun _ => Option XV) (fun l t m w => Bool.rec (motive := fun _ => Option XV) (lastT t m n) (lookL l n (lastT t m n)) (bitN w n)) E
def Loc.set (E : Loc) (n : Nat) (x : XV) : Loc := Loc.rec (motive := fun _ => Loc) (fun l t m w => ⟨(n, x) :: l, t, m, Nat.lor w (Nat.shiftLeft 1 n)⟩) E
def flushT (m : Nat) (t : Tr XV) (l : List (Nat × XV)) : Tr XV :=
  List.rec (motive := fun _ => Tr XV) t (fun p _ ih => Bool.rec (motive := fun _ => Tr XV) ih (ih.set p.1 p.2) (bitN m p.1)) l
def Loc.flush (E : Loc) : Loc := Loc.rec (motive := fun _ => Loc) (fun l t m w => ⟨[], flushT (Nat.land m w) t l, m, 0⟩) E
theorem Loc.get_set {E : Loc} {n m : Nat} {v w : XV} (h : (E.set n v).get m = some w) : (m = n ∧ w = v) ∨ (m ≠ n ∧ E.get m = some w) := by
  obtain ⟨l, t, k, b⟩ := E
  have h' : Bool.rec (motive := fun _ => Option XV) (lastT t k m) (Bool.rec (motive := fun _ => Option XV) (lookL l m (lastT t k m)) (some v) (Nat.beq n m)) (bitN (Nat.lor b (Nat.shiftLeft 1 n)) m) = some w := h
  rw [bitN_or] at h'
  by_cases q : m = n
  · subst q
    simp only [decide_true, Bool.or_true, Nat.beq_refl] at h'
    cases h'
    exact .inl ⟨rfl, rfl⟩
  · refine .inr ⟨q, ?_⟩
    have hn : Nat.beq n m = false := by
      cases z : Nat.beq n m with
      | false => rfl
      | true => exact absurd (beq_t z).symm q
    rw [hn] at h'
    simp only [q, decide_false, Bool.or_false] at h'
    exact h'
theorem flushT_get {m : Nat} {t : Tr XV} {n : Nat} {y : XV} : ∀ {l : List (Nat × XV)}, (flushT m t l).get n = some y → if bitN m n = true then lookL l n (t.get n) = some y else t.get n = some y
  | [], h => by split <;> exact h
  | p :: l, h => by
    have h' : (Bool.rec (motive := fun _ => Tr XV) (flushT m t l) ((flushT m t l).set p.1 p.2) (bitN m p.1)).get n = some y := h
    cases z : bitN m p.1 with
    | false =>
      rw [z] at h'
      have ih := flushT_get (l := l) h'
      split
      · rename_i q
        rw [if_pos q] at ih
        show Bool.rec (motive := fun _ => Option XV) (lookL l n (t.get n)) (some p.2) (Nat.beq p.1 n) = some y
        cases e : Nat.beq p.1 n with
        | true => rw [beq_t e, q] at z; cases z
        | false => exact ih
      · rename_i q
        rw [if_neg q] at ih
        exact ih
    | true =>
      rw [z] at h'
      rcases Tr.get_set h' with ⟨e1, e2⟩ | ⟨e1, e2⟩
      · subst e1
        rw [if_pos z]
        show Bool.rec (motive := fun _ => Option XV) (lookL l p.1 (t.get p.1)) (some p.2) (Nat.beq p.1 p.1) = some y
        rw [Nat.beq_refl, e2]
      · have ih := flushT_get (l := l) e2
        split
        · rename_i q
          rw [if_pos q] at ih
          show Bool.rec (motive := fun _ => Option XV) (lookL l n (t.get n)) (some p.2) (Nat.beq p.1 n) = some y
          cases e : Nat.beq p.1 n with
          | true => exact absurd (beq_t e).symm e1
          | false => exact ih
        · rename_i q
          rw [if_neg q] at ih
          exact ih
theorem Loc.flush_get {E : Loc} {n : Nat} {y : XV} (h : E.flush.get n = some y) : E.get n = some y := by
  obtain ⟨l, t, m, b⟩ := E
  have h0 : Bool.rec (motive := fun _ => Option XV) (lastT (flushT (Nat.land m b) t l) m n) (lookL [] n (lastT (flushT (Nat.land m b) t l) m n)) (bitN 0 n) = some y := h
  have h' : lastT (flushT (Nat.land m b) t l) m n = some y := by
    cases z : bitN 0 n with
    | true => rw [z] at h0; exact h0
    | false => rw [z] at h0; exact h0
  have h2 : Bool.rec (motive := fun _ => Option XV) none ((flushT (Nat.land m b) t l).get n) (bitN m n) = some y := h'
  show Bool.rec (motive := fun _ => Option XV) (Bool.rec (motive := fun _ => Option XV) none (t.get n) (bitN m n)) (lookL l n (Bool.rec (motive := fun _ => Option XV) none (t.get n) (bitN m n))) (bitN b n) = some y
  cases q : bitN m n with
  | false => rw [q] at h2; cases h2
  | true =>
    rw [q] at h2
    have h3 := flushT_get h2
    rw [bitN_and, q, Bool.true_and] at h3
    cases z : bitN b n with
    | true => rw [z, if_pos rfl] at h3; exact h3
    | false => rw [z, if_neg (by simp)] at h3; exact h3
theorem EnvR.sub {β : Ren} {N : Nat} {E E' : Env} {a : Act} (h : EnvR β N E a) (hs : ∀ t x, E' t = some x → E t = some x) : EnvR β N E' a := ⟨h.df, h.size, fun t x e => h.tm t x (hs t x e)⟩
theorem EnvR.put {β : Ren} {N : Nat} {E : Loc} {a : Act} (h : EnvR β N E.get a) {d : Nat} (hd : d < N) {x : XV} {v : Value} (hv : VR β x v) : EnvR β N (E.set d x).get (a.put (some d) v) := by
  refine ⟨h.df, by simp [Act.put, h.size], fun t y e => ?_⟩
  rw [put_getD (by rw [h.size]; exact hd)]
  rcases Loc.get_set e with ⟨rfl, rfl⟩ | ⟨q, e2⟩
  · rw [if_pos rfl]; exact hv
  · rw [if_neg q]; exact h.tm t y e2
def setD (E : Loc) (dst : Option Tmp) (N : Nat) (x : XV) : Option Loc :=
  Option.rec (motive := fun _ => Option Loc) (some E) (fun d => Bool.rec (motive := fun _ => Option Loc) none (some (E.set d x)) (Nat.blt d N)) dst
theorem setD_none {E : Loc} {N : Nat} {x : XV} : setD E none N x = some E := rfl
theorem setD_some {E E' : Loc} {d N : Nat} {x : XV} (h : setD E (some d) N x = some E') : d < N ∧ E' = E.set d x := by
  have h' : Bool.rec (motive := fun _ => Option Loc) none (some (E.set d x)) (Nat.blt d N) = some E' := h
  cases q : Nat.blt d N with
  | true => rw [q] at h'; cases h'; exact ⟨by simpa [blt_iff] using q, rfl⟩
  | false => rw [q] at h'; cases h'
theorem setD_ok {β : Ren} {N : Nat} {E E' : Loc} {a : Act} (h : EnvR β N E.get a) {dst : Option Tmp} {x : XV} {v : Value} (hv : VR β x v) (hs : setD E dst N x = some E') : EnvR β N E'.get (a.put dst v) := by
  cases dst with
  | none => cases hs; exact ⟨h.df, h.size, h.tm⟩
  | some d =>
    obtain ⟨h1, rfl⟩ := setD_some hs
    exact h.put h1 hv
theorem setD_get {N : Nat} {E E' : Loc} {dst : Option Tmp} {x : XV} (h : setD E dst N x = some E') {t : Nat} {y : XV} (hy : E'.get t = some y) : (dst = some t ∧ y = x) ∨ (dst ≠ some t ∧ E.get t = some y) := by
  cases dst with
  | none => cases h; exact .inr ⟨by simp, hy⟩
  | some d =>
    obtain ⟨_, rfl⟩ := setD_some h
    rcases Loc.get_set hy with ⟨rfl, rfl⟩ | ⟨q, e⟩
    · exact .inl ⟨rfl, rfl⟩
    · exact .inr ⟨fun z => q (by cases z; rfl), e⟩
def opnd (E : Env) : Operand → Option XV
  | .tmp t => E t
  | .const v => ofV v
  | .global _ => none
  | .func f => some (.fn (.func f) [] [])
theorem opnd_ok {β : Ren} {N : Nat} {E : Env} {a : Act} (h : EnvR β N E a) {x : Operand} {y : XV} (hx : opnd E x = some y) : VR β y (a.eval x) := by
  cases x with
  | tmp t => exact h.tm t y hx
  | const v => exact ofV_ok hx
  | global g => cases hx
  | func f => cases hx; exact ⟨_, _, rfl, rfl, rfl⟩
def opnds (E : Env) : List Operand → Option (List XV)
  | [] => some []
  | x :: xs => match opnd E x, opnds E xs with
    | some y, some ys => some (y :: ys)
    | _, _ => none
theorem opnds_ok {β : Ren} {N : Nat} {E : Env} {a : Act} (h : EnvR β N E a) : ∀ {xs : List Operand} {ys : List XV}, opnds E xs = some ys → VRs β ys (xs.map a.eval)
  | [], ys, e => by cases e; rfl
  | x :: xs, ys, e => by
    unfold opnds at e
    split at e
    · rename_i y zs h1 h2
      cases e
      exact .cons (opnd_ok h h1) (opnds_ok h h2)
    · cases e
theorem opnd_congr {E E' : Env} {x : Operand} (h : ∀ t, x = .tmp t → E t = E' t) : opnd E x = opnd E' x := by
  cases x with
  | tmp t => exact h t rfl
  | _ => rfl
theorem opnds_congr {E E' : Env} : ∀ {xs : List Operand}, (∀ t, Operand.tmp t ∈ xs → E t = E' t) → opnds E xs = opnds E' xs
  | [], _ => rfl
  | x :: xs, h => by
    unfold opnds
    rw [opnd_congr (fun t e => h t (by rw [e]; exact List.mem_cons_self ..)), opnds_congr (fun t ht => h t (List.mem_cons_of_mem _ ht))]

/-! ### types -/
section
variable {P : Program} {w : World}
def isAggD : TypeDesc → Bool
  | .struct _ | .array _ _ => true
  | _ => false
def szOf (P : Program) (t : TypeId) : Option Nat :=
  match P.info? t with
  | some i => some i.size
  | none => none
def zeroOf (P : Program) (t : TypeId) : Option XV :=
  match P.info? t with
  | some i => match i.zero with
    | some z => ofV z
    | none => none
  | none => none
theorem run_und {t : TypeId} {d : TypeDesc} (h : P.underlying t = some d) (w : World) : (underlying t).run P w = .ok d w := by simp [underlying, h]
theorem run_isAgg {t : TypeId} {d : TypeDesc} (h : P.underlying t = some d) (w : World) : (isAgg t).run P w = .ok (isAggD d) w := by
  unfold isAgg
  rw [Sem.run_bind, run_und h]
  cases d <;> rfl
theorem run_size {t : TypeId} {n : Nat} (h : szOf P t = some n) (w : World) : (sizeOf t).run P w = .ok n w := by
  unfold szOf at h
  split at h
  · rename_i i hi; cases h; simp [sizeOf, typeInfo, hi]
  · cases h
theorem run_zero {t : TypeId} {x : XV} (h : zeroOf P t = some x) : ∃ z, ofV z = some x ∧ ∀ w, (zeroValue t).run P w = .ok z w := by
  unfold zeroOf at h
  split at h
  · rename_i i hi
    split at h
    · rename_i z hz
      exact ⟨z, h, fun w => by simp [zeroValue, typeInfo, hi, hz]⟩
    · cases h
  · cases h
/-! ### cells -/
theorem cell_of {rb o : Nat} {c : Array Value} {e : TypeId} {fr : Nat × Nat} (h : w.heap[rb]? = some (.cells c e fr)) : w.cell? ⟨rb, o, none⟩ = c[o]? := by
  simp [World.cell?, h]
theorem add_none (rb o n : Nat) : Addr.add ⟨rb, o, none⟩ n = ⟨rb, o + n, none⟩ := by
  unfold Addr.add
  split
  · rename_i e; subst e; rfl
  · rfl
theorem run_load1 {rb o : Nat} {v : Value} (h : w.cell? ⟨rb, o, none⟩ = some v) : (load ⟨rb, o, none⟩).run P w = .ok v w := by
  rw [run_load, h]
theorem loadFrom {rb off : Nat} : ∀ (n i : Nat) (acc : Array Value) (us : List Value), us.length = n → (∀ j u, us[j]? = some u → w.cell? ⟨rb, off + (i + j), none⟩ = some u) →
    (loadCellsFrom ⟨rb, off, none⟩ i n acc).run P w = .ok (acc ++ us.toArray) w
  | 0, i, acc, us, hl, _ => by
    cases us with
    | nil => simp [loadCellsFrom]
    | cons => simp at hl
  | n + 1, i, acc, [], hl, _ => by simp at hl
  | n + 1, i, acc, u :: us, hl, h => by
    have h0 := h 0 u rfl
    rw [Nat.add_zero] at h0
    unfold loadCellsFrom
    rw [add_none, Sem.run_bind, run_load1 h0]
    simp only [Result.andThen_ok]
    rw [loadFrom n (i + 1) (acc.push u) us (by simpa using hl) (fun j v hj => by
      have := h (j + 1) v (by simpa using hj)
      rwa [show i + (j + 1) = i + 1 + j by omega] at this)]
    simp
theorem run_loadCells {rb off : Nat} {us : List Value} (h : ∀ j u, us[j]? = some u → w.cell? ⟨rb, off + j, none⟩ = some u) : (loadCells ⟨rb, off, none⟩ us.length).run P w = .ok us.toArray w := by
  unfold loadCells
  rw [loadFrom us.length 0 #[] us rfl (fun j u hj => by rw [Nat.zero_add]; exact h j u hj)]
  simp
/-- So many cells are read. -/
def rd (h : Heap) (b o k : Nat) : Option (List XV) :=
  match h.get b with
  | some (.cells t n _ _ _) => match Nat.ble (Nat.add o k) n with
    | true => t.gets o k
    | false => none
  | _ => none
theorem rd_ok {B : Nat} {β : Ren} {h : Heap} {nx : Nat} (hr : HR B β h nx w) {b o k : Nat} {xs : List XV} {bi : BI} (hb : β b = some bi) (hx : rd h b o k = some xs) :
    ∃ us : List Value, us.length = k ∧ VRs β xs us ∧ allOne xs = true ∧ (∀ j u, us[j]? = some u → w.cell? ⟨bi.rb, bi.base + o + j, none⟩ = some u) ∧ xs.length = k := by
  unfold rd at hx
  split at hx
  · rename_i t n e wr ex hg
    split at hx
    · rename_i hle
      have hle : o + k ≤ n := Nat.le_of_ble_eq_true hle
      obtain ⟨h1, h2⟩ := Tr.gets_some hx
      obtain ⟨c, fr, k1, k2, k3, k4, _⟩ := hr.blk b bi _ hb hg
      have key : ∀ i, i < k → ∃ x v, xs[i]? = some x ∧ c[bi.base + o + i]? = some v ∧ CellR β x v := fun i hi => by
        obtain ⟨x, v, q1, q2, q3⟩ := k4 (o + i) (by omega)
        exact ⟨x, v, by rw [← h2 i hi]; exact q1, by rw [← Nat.add_assoc] at q2; exact q2, q3⟩
      refine ⟨(c.toList.drop (bi.base + o)).take k, ?_, ?_, ?_, ?_, h1⟩
      · rw [List.length_take, List.length_drop, Array.length_toList, k2]; omega
      · refine VRs.of_get (by rw [List.length_take, List.length_drop, Array.length_toList, k2, h1]; omega) (fun i x v hx hv => ?_)
        have hi : i < k := by have := (List.getElem?_eq_some_iff.1 hx).1; omega
        obtain ⟨x', v', q1, q2, q3⟩ := key i hi
        rw [hx] at q1; cases q1
        rw [List.getElem?_take, if_pos hi, List.getElem?_drop, Array.getElem?_toList, q2] at hv
        cases hv
        exact q3.v
      · have : ∀ (ys : List XV), (∀ (i : Nat) x, ys[i]? = some x → x.one = true) → allOne ys = true := by
          intro ys
          induction ys with
          | nil => intro _; rfl
          | cons y ys ih =>
            intro hy
            unfold allOne
            rw [hy 0 y rfl]
            exact ih (fun i x hx => hy (i + 1) x (by simpa using hx))
        refine this xs (fun i x hx => ?_)
        obtain ⟨x', v', q1, q2, q3⟩ := key i (by have := (List.getElem?_eq_some_iff.1 hx).1; omega)
        rw [hx] at q1; cases q1
        exact q3.one
      · intro j u hu
        have hj : j < k := by
          have := (List.getElem?_eq_some_iff.1 hu).1
          rw [List.length_take] at this
          omega
        rw [List.getElem?_take, if_pos hj, List.getElem?_drop, Array.getElem?_toList] at hu
        rw [cell_of k1]
        exact hu
    · cases hx
  · cases hx
def xload (P : Program) (h : Heap) (t : TypeId) (x : XV) : Option XV :=
  match x with
  | .ptr b o => match P.underlying t with
    | some d => match isAggD d with
      | true => match szOf P t with
        | some n => match rd h b o n with
          | some xs => some (.agg xs)
          | none => none
        | none => none
      | false => match rd h b o 1 with
        | some [y] => some y
        | _ => none
    | none => none
  | _ => none
theorem xload_ok {B : Nat} {β : Ren} {h : Heap} {nx : Nat} (hr : HR B β h nx w) {t : TypeId} {x y : XV} {v : Value} (hv : VR β x v) (hx : xload P h t x = some y) : ∃ u, (Instr.loadAt t v).run P w = .ok u w ∧ VR β y u := by
  unfold xload at hx
  split at hx
  · rename_i b o
    obtain ⟨bi, hb, rfl⟩ := hv
    split at hx
    · rename_i d hd
      split at hx
      · rename_i hagg
        split at hx
        · rename_i n hn
          split at hx
          · rename_i xs hxs
            cases hx
            obtain ⟨us, h1, h2, _, h3, _⟩ := rd_ok hr hb hxs
            refine ⟨.agg us.toArray, ?_, us.toArray, rfl, by simpa using h2⟩
            simp only [Instr.loadAt, Instr.sureAddr, loadVar, Sem.run_bind, Sem.run_pure, Result.andThen_ok, run_isAgg hd, hagg, if_true, run_size hn]
            rw [← h1, run_loadCells h3]
            rfl
          · cases hx
        · cases hx
      · rename_i hagg
        split at hx
        · rename_i y' hxs
          cases hx
          obtain ⟨us, h1, ⟨u, r, h2, h4, h5⟩, _, h3, _⟩ := rd_ok hr hb hxs
          refine ⟨u, ?_, h4⟩
          have h3 := h3 0 u (by rw [h2]; rfl)
          rw [Nat.add_zero] at h3
          simp only [Instr.loadAt, Instr.sureAddr, loadVar, Sem.run_bind, Sem.run_pure, Result.andThen_ok, run_isAgg hd, hagg]
          exact run_load1 h3
        · cases hx
    · cases hx
  · cases hx
/-! ### new memory -/
/-- A new block's content. -/
structure NewB (B : Nat) (β : Ren) (id : Nat) (w w' : World) (x : XV) (v : Value) (ob : AO) : Prop where
  out : ∃ bi : BI, bi.rb = w.heap.size ∧ (∀ k, k < w.heap.size → w'.heap[k]? = w.heap[k]?) ∧ w.heap.size < w'.heap.size ∧ Below w.heap.size w w' ∧ ∀ β', Ext β β' → β' id = some bi → BR β' w' bi ob ∧ VR β' x v
theorem push_at (w : World) (o : Obj) : ({ w with heap := w.heap.push o } : World).heap[w.heap.size]? = some o := by simp
theorem push_ne (w : World) (o : Obj) {k : Nat} (h : k < w.heap.size) : ({ w with heap := w.heap.push o } : World).heap[k]? = w.heap[k]? := by
  simp only [Array.getElem?_push]
  rw [if_neg (by omega)]
theorem push_below (w : World) (o : Obj) : Below w.heap.size w { w with heap := w.heap.push o } :=
  ⟨rfl, rfl, rfl, by simp, fun k hk => push_ne w o hk⟩
/-- Cells laid anew. -/
def newX (cs : List XV) (e : TypeId) (ex : Bool) : AO := .cells (Tr.nil.puts 0 cs) cs.length e true ex
theorem cells_get {cs : List XV} {i : Nat} {x : XV} (h : (Tr.nil.puts 0 cs).get i = some x) : cs[i]? = some x := by
  rcases Tr.get_puts cs .nil 0 i x h with ⟨_, _, h3⟩ | ⟨_, h2⟩
  · simpa using h3
  · cases h2
theorem br_new {β : Ren} {w : World} {bi : BI} {cs : List XV} {us : List Value} {e : TypeId} {ex : Bool} {fr : Nat × Nat} {c : Array Value} (hw : w.heap[bi.rb]? = some (.cells c e fr)) (hb : bi.base = 0) (hs : c.size = bi.size) (hpre : ∀ (i : Nat) (u : Value), us[i]? = some u → c[i]? = some u) (hv : VRs β cs us) (h1 : allOne cs = true)
    (hall : ∀ i, i < cs.length → ∃ x, (Tr.nil.puts 0 cs).get i = some x) (hfr : FrozenFree fr bi.size) (hex : ex = true → bi.size = cs.length) : BR β w bi (newX cs e ex) := by
  have hl := hv.length
  have hlc : cs.length ≤ c.size := by
    by_cases e0 : cs.length = 0
    · omega
    · have hlt : cs.length - 1 < us.length := by omega
      have := hpre (cs.length - 1) _ (List.getElem?_eq_getElem hlt)
      have := (Array.getElem?_eq_some_iff.1 this).1
      omega
  refine ⟨c, fr, hw, hs, by omega, fun i hi => ?_, fun _ => hfr, fun q => ⟨hb, hex q⟩⟩
  obtain ⟨x, hx⟩ := hall i hi
  have hx' := cells_get hx
  obtain ⟨v, hv1, hv2⟩ := hv.get hx'
  exact ⟨x, v, hx, by rw [hb, Nat.zero_add]; exact hpre i v hv1, hv2, allOne_get h1 hx'⟩
end
end
end Go.Proofs.YtohcohbbmjhnfaaGreatDoor.X
