/-
The logic of pure values, continued: stores into rows, and of pointers. Condition: none.
-/
import Derived.Test.YtbjfmkmaghapgaaGreatDoorBOk2
set_option linter.unusedVariables false
set_option linter.unusedSimpArgs false
set_option linter.unnecessarySimpa false
namespace Go.Proofs.YtbjfmkmaghapgaaGreatDoor.B
open Go.RowKit

/-- What the storing of cells leaves. -/
structure Stored (w w' : World) (b lo : Nat) (vs : List Value) : Prop where
  os : w'.os = w.os
  tape : w'.tape = w.tape
  output : w'.output = w.output
  size : w'.heap.size = w.heap.size
  block : ∀ k, k ≠ b → w'.heap[k]? = w.heap[k]?
  new : ∀ (q : Nat) v, vs[q]? = some v → w'.cell? ⟨b, lo + q, none⟩ = some v
  old : ∀ o, (o < lo ∨ lo + vs.length ≤ o) → w'.cell? ⟨b, o, none⟩ = w.cell? ⟨b, o, none⟩
  frz : ∀ o, w'.frozen? ⟨b, o, none⟩ = w.frozen? ⟨b, o, none⟩
theorem stores_run {P : Program} {b off : Nat} : ∀ (vs : List Value) (j : Nat) {w : World}, (∀ v, v ∈ vs → v.oneCell' = true) → (∀ q, q < vs.length → ∃ old, w.cell? ⟨b, off + j + q, none⟩ = some old) →
    (∀ o, w.frozen? ⟨b, o, none⟩ = false) → ∃ w', (storeCells ⟨b, off, none⟩ vs j).run P w = .ok () w' ∧ Stored w w' b (off + j) vs
  | [], j, w, _, _, _ => ⟨w, rfl, rfl, rfl, rfl, rfl, fun _ _ => rfl, fun q v h => by simp at h, fun _ _ => rfl, fun _ => rfl⟩
  | v :: vs, j, w, h1, hc, hf => by
    obtain ⟨old, k1⟩ := hc 0 (by simp)
    have hv1 := h1 v (List.mem_cons_self ..)
    have hs : (store (⟨b, off + j, none⟩ : Addr) v).run P w = .ok () (w.setCell ⟨b, off + j, none⟩ v) := by
      rw [run_store P w _ v _ hv1, show w.cell? ⟨b, off + j, none⟩ = some old from k1]
      simp [hf]
    have hoth : ∀ o, o ≠ off + j → (w.setCell ⟨b, off + j, none⟩ v).cell? ⟨b, o, none⟩ = w.cell? ⟨b, o, none⟩ := fun o ho => World.cell?_setCell_other _ _ _ _ (fun e => ho (by simp only [Addr.mk.injEq, and_true, true_and] at e; exact e.symm))
    obtain ⟨w', r1, r2⟩ := stores_run (P := P) (off := off) vs (j + 1) (w := w.setCell ⟨b, off + j, none⟩ v) (fun u hu => h1 u (List.mem_cons_of_mem _ hu)) (fun q hq => by
      obtain ⟨o2, z⟩ := hc (q + 1) (by simp; omega)
      refine ⟨o2, ?_⟩
      rw [hoth _ (by omega), show off + (j + 1) + q = off + j + (q + 1) from by omega]
      exact z) (fun o => by simpa using hf o)
    refine ⟨w', ?_, ⟨by rw [r2.os]; rfl, by rw [r2.tape]; rfl, by rw [r2.output]; rfl, by rw [r2.size]; simp, fun k hk => ?_, fun q u hq => ?_, fun o ho => ?_, fun o => ?_⟩⟩
    · simp only [storeCells, Addr.add_lit, Sem.run_bind, hs, Result.andThen_ok]
      exact r1
    · rw [r2.block k hk]
      exact Below.heap_setCell _ _ _ _ (by simpa using hk)
    · cases q with
      | zero =>
        simp at hq
        subst hq
        rw [r2.old (off + j + 0) (.inl (by omega))]
        exact World.cell?_setCell_same _ _ _ k1
      | succ q =>
        have := r2.new q u (by simpa using hq)
        rwa [show off + (j + 1) + q = off + j + (q + 1) from by omega] at this
    · rw [r2.old o (by simp at ho; omega)]
      exact hoth o (by simp at ho; omega)
    · rw [r2.frz o]; simp
section
variable {G : World → Prop} {P : Program} {τ : Tau} {Dr : Prop} {w0 : World} {E0 : Nat → Nat → Prop} {S0 : Nat → Nat → Prop} {N : Nat} {wr : Key → Bool} {g : Key → C} {a : Act} {w : World} {β : Nat → Nat} {S : Nat → Nat → Prop}
variable {o : Oper} {K : Act → World → Prop} {Q : Exit → Act → World → Prop} {ws : List (Key × C)}
theorem obj_none {i o : Nat} (h : objId i = true) : isCell i o = false := by unfold isCell; rw [h]; rfl
/-- The content of a map, an iterator or a list is written. -/
theorem Rel.whole {wr : Key → Prop} (h : Rel Dr w0 E0 S0 N wr g a w β S) {i : Nat} (hlive : (g (.al i)).v ≠ .un) {w' : World} (hk : Kept (fun b => β i = b) w w') (hdr : Dr → w.drawn ≤ w'.drawn) (hsz : w'.heap.size = w.heap.size) {x : FV} (hx : HoldsB β S w' i 0 x) (hobj : objId i = true)
    {wr' : Key → Prop} (hw : ∀ κ, wr κ → wr' κ) : Rel Dr w0 E0 S0 N wr' (upd g (.b i 0) ⟨x, none, none⟩) a w' β S := by
  have hun : ∀ o, o ≠ 0 → (g (.b i o)).v = .un ∧ (g (.b i o)).own = none := fun o ho => by
    constructor
    · cases hv : (g (.b i o)).v with
      | un => rfl
      | _ =>
        exfalso
        obtain ⟨hb, _⟩ := h.bx i o (by rw [hv]; simp)
        cases hu : (g (.b i o)).v.isUn with
        | false =>
          have := isCell_obj (hb.cell hu).1
          rw [hobj] at this; cases this
        | true => rw [hv] at hu hb; first | exact ho hb.2.1 | cases hu
    · cases hv : (g (.b i o)).own with
      | none => rfl
      | some p =>
        obtain ⟨v, h1, _⟩ := h.own _ p hv
        rw [rv_obj (obj_none hobj)] at h1; cases h1
  refine h.hand [i] (fun j hj => by simp at hj; subst hj; exact hlive) (w' := w') (S' := S) ⟨hk.os, hk.tape, hk.output, hk.size, fun k h1 h2 => hk.block k h1 (fun e => h2 ⟨i, by simp, e⟩)⟩ hdr (fun _ _ h => h) (fun _ _ h => .inl h)
    (fun b o hs => by rw [hsz]; exact h.sa b o hs) (fun κ hκ => upd_ne _ _ (hκ i 0 (by simp))) (fun j o hj => ?_) hw (fun j o hj hc => by simp at hj; subst hj; rw [obj_none hobj] at hc; cases hc)
  simp at hj
  subst hj
  by_cases ho : o = 0
  · subst ho
    rw [upd_same]
    exact ⟨rfl, fun _ => hx⟩
  · rw [upd_ne _ _ (by simpa using ho)]
    obtain ⟨q1, q2⟩ := hun o ho
    exact ⟨q2, fun hne => absurd q1 hne⟩
theorem setCs_at : ∀ (ps cs : List PV) (o : Nat) (q : Nat), o + ps.length ≤ cs.length → (setCs cs o ps)[q]? = if o ≤ q ∧ q < o + ps.length then ps[q - o]? else cs[q]?
  | [], cs, o, q, h => by
    rw [if_neg (by simp <;> omega)]
    rfl
  | p :: ps, cs, o, q, h => by
    show (setCs (cs.set o p) (o + 1) ps)[q]? = _
    rw [setCs_at ps (cs.set o p) (o + 1) q (by simp at h ⊢; omega)]
    by_cases h1 : o + 1 ≤ q ∧ q < o + 1 + ps.length
    · rw [if_pos h1, if_pos (by simp; omega)]
      have : q - o = (q - (o + 1)) + 1 := by omega
      rw [this]
      rfl
    · rw [if_neg h1, List.getElem?_set]
      by_cases h2 : o = q
      · subst h2
        simp at h
        rw [if_pos rfl, if_pos (by omega), if_pos (by simp)]
        simp
      · rw [if_neg h2, if_neg (by simp; omega)]
theorem setCs_len' : ∀ (ps : List PV) (cs : List PV) (o : Nat), (setCs cs o ps).length = cs.length
  | [], cs, o => rfl
  | p :: ps, cs, o => by show (setCs (cs.set o p) (o + 1) ps).length = _; rw [setCs_len' ps]; simp
/-- A list of which rows are written. -/
theorem rows_stored {b k : Nat} {xs : List (List PV)} {r j : Nat} {row : List PV} {vs : List Value} {cs : List PV} {w' : World} (hra : RowsAt S w b k xs) (hr : xs[r]? = some row) (hst : Stored w w' b (r * k + j) vs) (hl : vs.length = cs.length) (hj : j + cs.length ≤ row.length)
    (h1 : ∀ v, v ∈ vs → v.oneCell' = true) (hrep : ∀ (q : Nat) v x, vs[q]? = some v → cs[q]? = some x → RepP S w v x) (hS : ∀ b' o, S b' o → w'.cell? ⟨b', o, none⟩ = w.cell? ⟨b', o, none⟩) :
    RowsAt S w' b k (xs.set r (setCs row j cs)) := by
  have hrl : row.length = k := hra.1 row (List.mem_of_getElem? hr)
  have hrlt : r < xs.length := (List.getElem?_eq_some_iff.1 hr).1
  refine ⟨fun r' hr' => ?_, fun i q r' x hi hq => ?_⟩
  · rcases List.mem_or_eq_of_mem_set hr' with h | h
    · exact hra.1 r' h
    · rw [h, setCs_len', hrl]
  · rw [List.getElem?_set] at hi
    by_cases hir : r = i
    · subst hir
      rw [if_pos rfl, if_pos hrlt] at hi
      cases hi
      rw [setCs_at _ _ _ _ hj] at hq
      split at hq
      · rename_i hin
        have hv : vs[q - j]? = some vs[q - j] := List.getElem?_eq_getElem (by rw [hl]; omega)
        refine ⟨_, ?_, (hrep _ _ x hv hq).mono (fun _ _ h => h) hS, h1 _ (List.getElem_mem _)⟩
        have := hst.new (q - j) _ hv
        rwa [show r * k + j + (q - j) = r * k + q from by omega] at this
      · rename_i hout
        obtain ⟨c, c1, c2, c3⟩ := hra.2 r q row x hr hq
        exact ⟨c, (hst.old _ (by omega)).trans c1, c2.mono (fun _ _ h => h) hS, c3⟩
    · rw [if_neg hir] at hi
      obtain ⟨c, c1, c2, c3⟩ := hra.2 i q r' x hi hq
      have hr' : r'.length = k := hra.1 r' (List.mem_of_getElem? hi)
      have hqk : q < k := by rw [← hr']; exact (List.getElem?_eq_some_iff.1 hq).1
      refine ⟨c, (hst.old _ ?_).trans c1, c2.mono (fun _ _ h => h) hS, c3⟩
      rcases Nat.lt_or_gt_of_ne hir with hlt | hgt
      · have := Nat.mul_le_mul_right k (show r + 1 ≤ i by omega)
        rw [Nat.add_mul] at this
        omega
      · have := Nat.mul_le_mul_right k (show i + 1 ≤ r by omega)
        rw [Nat.add_mul] at this
        omega
end
end Go.Proofs.YtbjfmkmaghapgaaGreatDoor.B
