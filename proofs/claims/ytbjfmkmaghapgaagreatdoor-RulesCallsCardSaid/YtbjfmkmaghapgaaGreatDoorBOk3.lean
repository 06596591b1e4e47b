/-
The logic of pure values, continued: stores, arithmetic, fields, elements. Condition: none.
-/
import Derived.Test.YtbjfmkmaghapgaaGreatDoorBOkR
import Derived.Laws.StructEq
import Derived.ShutString
import Derived.Lib.IndexLaws
set_option linter.unusedVariables false
set_option linter.unusedSimpArgs false
namespace Go.Proofs.YtbjfmkmaghapgaaGreatDoor.B
open Go.RowKit

section
variable {G : World → Prop} {P : Program} {τ : Tau} {Dr : Prop} {w0 : World} {E0 : Nat → Nat → Prop} {S0 : Nat → Nat → Prop} {N : Nat} {wr : Key → Bool} {g : Key → C} {a : Act} {w : World} {β : Nat → Nat} {S : Nat → Nat → Prop}
section
variable {o : Oper} {K : Act → World → Prop} {Q : Exit → Act → World → Prop} {ws : List (Key × C)}
theorem hasN_ev {i : Nat} : ∀ (n o : Nat) {t : T}, vcT G P (hasN i o n t) g wr (fun _ v => v = ws) → (∀ j, j < n → (g (.b i (o + j))).v.isUn = false) ∧ vcT G P t g wr (fun _ v => v = ws)
  | 0, o, t, he => ⟨fun j h => absurd h (by omega), he⟩
  | n + 1, o, t, he => by
    have he' : vcT G P (if (g (.b i o)).v.isUn = true then .fail else hasN i (o + 1) n t) g wr (fun _ v => v = ws) := he
    split at he'
    · exact he'.elim
    · rename_i hu
      obtain ⟨h1, h2⟩ := hasN_ev n (o + 1) he'
      refine ⟨fun j hj => ?_, h2⟩
      cases j with
      | zero => simpa using hu
      | succ j =>
        have := h1 j (by omega)
        rwa [show o + 1 + j = o + (j + 1) from by omega] at this
theorem stores {i off : Nat} {wr' : Key → Prop} : ∀ (vs : List Value) (cs : List PV) (j : Nat) {g : Key → C} {w : World}, Rel Dr w0 E0 S0 N wr' g a w β S → vs.length = cs.length → (∀ v, v ∈ vs → v.oneCell' = true) →
    (∀ (q : Nat) v x, vs[q]? = some v → cs[q]? = some x → RepP S w v x) → (∀ q, q < vs.length → (g (.b i (off + j + q))).v.isUn = false) → (∀ q, wr' (.b i (off + j + q)) ∨ vs.length ≤ q) →
    ∃ w', (storeCells ⟨β i, off, none⟩ vs j).run P w = .ok () w' ∧ Rel Dr w0 E0 S0 N wr' (upds g (boxW i (off + j) cs)) a w' β S ∧ (∀ qs, FreeL w0 E0 g a w β S qs → FreeL w0 E0 (upds g (boxW i (off + j) cs)) a w' β S qs) ∧
      (∀ (q : Nat) v, vs[q]? = some v → w'.cell? ⟨β i, off + j + q, none⟩ = some v) ∧ ∀ o, o < off + j → w'.cell? ⟨β i, o, none⟩ = w.cell? ⟨β i, o, none⟩
  | [], cs, j, g, w, h, hl, _, _, _, _ => by
    have : cs = [] := List.eq_nil_of_length_eq_zero (by simpa using hl.symm)
    subst this
    exact ⟨w, rfl, h, fun qs hf => hf, fun q v hv => by simp at hv, fun o _ => rfl⟩
  | v :: vs, [], j, g, w, h, hl, _, _, _, _ => by simp at hl
  | v :: vs, x :: cs, j, g, w, h, hl, h1, hr, hu, hw => by
    have hu0 : (g (.b i (off + j))).v.isUn = false := hu 0 (by simp)
    obtain ⟨k0, k4⟩ := h.bx i (off + j) (fun e => by rw [e] at hu0; cases hu0)
    obtain ⟨_, old, k1, _, k3⟩ := k0.cell hu0
    have hv1 := h1 v (List.mem_cons_self ..)
    have hst := h.store (c := ⟨.pv x, none, none⟩) hu0 (v := v) (hr 0 v x rfl rfl) (ownV_none _ _) rfl rfl (wr' := wr') (fun κ hk => hk) ((hw 0).resolve_right (by simp))
    obtain ⟨w', r1, r2, r3, r4, r5⟩ := stores vs cs (j + 1) hst (by simpa using hl) (fun u hu => h1 u (List.mem_cons_of_mem _ hu)) (fun q u y hq hy => by
      refine (hr (q + 1) u y hq hy).mono (fun _ _ h => h) (fun b o' hs => World.cell?_setCell_other _ _ _ _ (fun e => by
        simp only [Addr.mk.injEq, and_true] at e
        exact (h.al i k4).2.2 o' (e.1 ▸ hs)))) (fun q hq => by
      rw [upd_ne _ _ (show Key.b i (off + (j + 1) + q) ≠ Key.b i (off + j) by simp; omega)]
      have := hu (q + 1) (by simp; omega)
      rwa [show off + j + (q + 1) = off + (j + 1) + q from by omega] at this) (fun q => by
      have := hw (q + 1)
      rw [show off + j + (q + 1) = off + (j + 1) + q from by omega] at this
      simpa using this)
    refine ⟨w', ?_, r2, fun qs hf => r3 qs (FreeL.store h hf k4 rfl), fun q u hq => ?_, fun o ho => ?_⟩
    rotate_left
    · cases q with
      | zero =>
        simp at hq
        subst hq
        rw [r5 (off + j + 0) (by omega)]
        exact World.cell?_setCell_same _ _ _ k1
      | succ q =>
        have := r4 q u (by simpa using hq)
        rwa [show off + (j + 1) + q = off + j + (q + 1) from by omega] at this
    · rw [r5 o (by omega)]
      exact World.cell?_setCell_other _ _ _ _ (fun e => by simp only [Addr.mk.injEq, and_true, true_and] at e; omega)
    have hs : (store (⟨β i, off + j, none⟩ : Addr) v).run P w = .ok () (w.setCell ⟨β i, off + j, none⟩ v) := by
      rw [run_store P w _ v _ hv1, k1]
      simp [k3]
    simp only [storeCells, Addr.add_lit, Sem.run_bind, hs, Result.andThen_ok]
    exact r1
theorem keysOf_boxW (i : Nat) : ∀ (cs : List PV) (o q : Nat), q < cs.length → Key.b i (o + q) ∈ keysOf (boxW i o cs)
  | [], o, q, h => absurd h (by simp)
  | x :: cs, o, q, h => by
    cases q with
    | zero => exact List.mem_cons_self ..
    | succ q =>
      have := keysOf_boxW i cs (o + 1) q (by simpa using h)
      rw [show o + 1 + q = o + (q + 1) from by omega] at this
      exact List.mem_cons_of_mem _ this
theorem storesF {i off : Nat} {wr' : Key → Prop} : ∀ (vs : List Value) (cs : List FV) (j : Nat) {g : Key → C} {w : World}, Rel Dr w0 E0 S0 N wr' g a w β S → vs.length = cs.length → (∀ v, v ∈ vs → v.oneCell' = true) →
    (∀ (q : Nat) v x, vs[q]? = some v → cs[q]? = some x → RepF β S w v x ∧ x.isUn = false) → (∀ q, q < vs.length → (g (.b i (off + j + q))).v.isUn = false) → (∀ q, wr' (.b i (off + j + q)) ∨ vs.length ≤ q) →
    ∃ w', (storeCells ⟨β i, off, none⟩ vs j).run P w = .ok () w' ∧ Rel Dr w0 E0 S0 N wr' (upds g (boxF i (off + j) cs)) a w' β S
  | [], cs, j, g, w, h, hl, _, _, _, _ => by
    have : cs = [] := List.eq_nil_of_length_eq_zero (by simpa using hl.symm)
    subst this
    exact ⟨w, rfl, h⟩
  | v :: vs, [], j, g, w, h, hl, _, _, _, _ => by simp at hl
  | v :: vs, x :: cs, j, g, w, h, hl, h1, hr, hu, hw => by
    have hu0 : (g (.b i (off + j))).v.isUn = false := hu 0 (by simp)
    obtain ⟨k0, k4⟩ := h.bx i (off + j) (fun e => by rw [e] at hu0; cases hu0)
    obtain ⟨_, old, k1, _, k3⟩ := k0.cell hu0
    have hv1 := h1 v (List.mem_cons_self ..)
    have hst := h.store (c := ⟨x, none, none⟩) hu0 (v := v) (hr 0 v x rfl rfl).1 (ownV_none _ _) rfl (hr 0 v x rfl rfl).2 (wr' := wr') (fun κ hk => hk) ((hw 0).resolve_right (by simp))
    obtain ⟨w', r1, r2⟩ := storesF vs cs (j + 1) hst (by simpa using hl) (fun u hu => h1 u (List.mem_cons_of_mem _ hu)) (fun q u y hq hy => by
      obtain ⟨z1, z2⟩ := hr (q + 1) u y hq hy
      refine ⟨z1.mono (fun _ _ h => h) (fun b o' hs => World.cell?_setCell_other _ _ _ _ (fun e => by
        simp only [Addr.mk.injEq, and_true] at e
        exact (h.al i k4).2.2 o' (e.1 ▸ hs))), z2⟩) (fun q hq => by
      rw [upd_ne _ _ (show Key.b i (off + (j + 1) + q) ≠ Key.b i (off + j) by simp; omega)]
      have := hu (q + 1) (by simp; omega)
      rwa [show off + j + (q + 1) = off + (j + 1) + q from by omega] at this) (fun q => by
      have := hw (q + 1)
      rw [show off + j + (q + 1) = off + (j + 1) + q from by omega] at this
      simpa using this)
    refine ⟨w', ?_, r2⟩
    have hs : (store (⟨β i, off + j, none⟩ : Addr) v).run P w = .ok () (w.setCell ⟨β i, off + j, none⟩ v) := by
      rw [run_store P w _ v _ hv1, k1]
      simp [k3]
    simp only [storeCells, Addr.add_lit, Sem.run_bind, hs, Result.andThen_ok]
    exact r1
theorem keysOf_boxF (i : Nat) : ∀ (cs : List FV) (o q : Nat), q < cs.length → Key.b i (o + q) ∈ keysOf (boxF i o cs)
  | [], o, q, h => absurd h (by simp)
  | x :: cs, o, q, h => by
    cases q with
    | zero => exact List.mem_cons_self ..
    | succ q =>
      have := keysOf_boxF i cs (o + 1) q (by simpa using h)
      rw [show o + 1 + q = o + (q + 1) from by omega] at this
      exact List.mem_cons_of_mem _ this
theorem ptrOK_boxF (i : Nat) : ∀ (cs : List FV) (o : Nat) {g : Key → C}, PtrOK g → (∀ x, x ∈ cs → ∀ j, j ∈ x.refs → (g (.al j)).v ≠ .un) → PtrOK (upds g (boxF i o cs))
  | [], o, g, h, _ => h
  | x :: cs, o, g, h, hl => ptrOK_boxF i cs (o + 1) (ptrOK_upd h (fun i => by simp) (fun j e => hl x (List.mem_cons_self ..) j e)) (fun y hy j hj => by
    rw [upd_ne _ _ (by simp)]
    exact hl y (List.mem_cons_of_mem _ hy) j hj)
theorem fvsC_len : ∀ (vs : List CV), (fvsC vs).length = vs.length
  | [] => rfl
  | c :: r => by simp [fvsC, fvsC_len r]
theorem rep_len {β : Nat → Nat} : ∀ {vs : List Value} {cs : List CV}, RepC β S w vs cs → vs.length = cs.length
  | [], [], _ => rfl
  | [], _ :: _, h => h.elim
  | _ :: _, [], h => h.elim
  | v :: vs, c :: cs, h => by simp [rep_len h.2]
theorem repC_fv {β : Nat → Nat} : ∀ {vs : List Value} {cs : List CV}, RepC β S w vs cs → ∀ (q : Nat) v x, vs[q]? = some v → (fvsC cs)[q]? = some x → RepF β S w v x ∧ x.isUn = false
  | [], [], _, q, v, x, hv, _ => by simp at hv
  | [], _ :: _, h, _, _, _, _, _ => h.elim
  | _ :: _, [], h, _, _, _, _, _ => h.elim
  | u :: us, c :: cs, h, q, v, x, hv, hx => by
    cases q with
    | zero =>
      have hx' : some c.fv = some x := hx
      simp at hv
      subst hv
      cases hx'
      cases c <;> exact ⟨h.1, rfl⟩
    | succ q => exact repC_fv h.2 q v x (by simpa using hv) (by simpa [fvsC] using hx)
theorem fvsC_refs : ∀ {cs : List CV} (x : FV), x ∈ fvsC cs → ∀ j, j ∈ x.refs → j ∈ (FV.aggf cs).refs
  | [], x, hx, j, hj => by simp [fvsC] at hx
  | c :: cs, x, hx, j, hj => by
    have hx' : x ∈ c.fv :: fvsC cs := hx
    show j ∈ c.refs ++ refsC cs
    rcases List.mem_cons.1 hx' with e | hx'
    · subst e
      refine List.mem_append_left _ ?_
      cases c <;> exact hj
    · exact List.mem_append_right _ (fvsC_refs x hx' j hj)
theorem keysOf_boxWO (i : Nat) : ∀ (ows : List Own) (cs : List PV) (o q : Nat), ows.length = cs.length → q < cs.length → Key.b i (o + q) ∈ keysOf (boxWO i o ows cs)
  | [], [], o, q, _, h => absurd h (by simp)
  | [], _ :: _, o, q, h, _ => by simp at h
  | _ :: _, [], o, q, h, _ => by simp at h
  | ow :: ows, x :: cs, o, q, hl, h => by
    cases q with
    | zero => exact List.mem_cons_self ..
    | succ q =>
      have := keysOf_boxWO i ows cs (o + 1) q (by simpa using hl) (by simpa using h)
      rw [show o + 1 + q = o + (q + 1) from by omega] at this
      exact List.mem_cons_of_mem _ this
theorem ptrOK_boxW (i : Nat) : ∀ (cs : List PV) (o : Nat) {g : Key → C}, PtrOK g → PtrOK (upds g (boxW i o cs))
  | [], o, g, h => h
  | x :: cs, o, g, h => ptrOK_boxW i cs (o + 1) (ptrOK_upd h (fun i => by simp) (fun i e => by simp [FV.refs] at e))
theorem isPtr_one {β : Nat → Nat} {S : Nat → Nat → Prop} {w : World} {v : Value} {x : FV} (h : RepF β S w v x) (hx : x.isPtr = true) : v.oneCell' = true ∧ v.cells = #[v] := by
  cases x with
  | ptr i o => have h' : v = _ := h; rw [h']; exact ⟨rfl, rfl⟩
  | mp i => have h' : v = _ := h; rw [h']; exact ⟨rfl, rfl⟩
  | it i => have h' : v = _ := h; rw [h']; exact ⟨rfl, rfl⟩
  | rpt i k r j => have h' : v = _ := h; rw [h']; exact ⟨rfl, rfl⟩
  | slp i k lo n => obtain ⟨_, _, _, h', _⟩ := h; rw [h']; exact ⟨rfl, rfl⟩
  | clo f cs => obtain ⟨_, h', _⟩ := h; rw [h']; exact ⟨rfl, rfl⟩
  | _ => cases hx
theorem own_one {p : TypeId × Nat} {v : Value} (h : FreeL w0 E0 g a w β S (partsO p v)) (hp : p.2 ≠ 0) : v.oneCell' = true ∧ v.cells = #[v] := by
  obtain ⟨n, xs, hap⟩ := FreeL.apart (e := p.1) (k := p.2) hp h
  rcases hap.1.2 with ⟨q, _⟩ | ⟨_, _, _, q, _⟩ <;> rw [q] <;> exact ⟨rfl, rfl⟩
theorem store_ok (hτ : TauOK P τ) (t : TypeId) (y x : Operand) (ho : o.op = .store t y x) (h : Rel Dr w0 E0 S0 N (fun κ => wr κ = true) g a w β S) (hp : PtrOK g) (hd : dstOK N o = true) (hN : Next Dr w0 E0 S0 N wr g ws K)
    (he : vcT G P (opT P τ o) g wr (fun _ v => v = ws)) : o.wp P a w K Q := by
  simp only [opT, ho] at he
  obtain ⟨ca, he, hva, hca⟩ := opnd_ev hKt h he
  obtain ⟨cx, he, hvx, hcx⟩ := opnd_ev hKt h he
  split at he
  · rename_i hdst
    unfold tStore at he
    split at he
    · rename_i i off p ti hcav hcxv hti
      rw [hcav] at hva
      rw [hcxv] at hvx
      have hya : a.eval y = .pointer (some ⟨β i, off, none⟩) := hva
      split at he
      · rename_i cs hcs
        obtain ⟨q1, q2, q3⟩ := cellsP_cells (S := S) (w := w) hvx hcs
        split at he
        · rename_i hlen
          have hsz : (a.eval x).cells.size = ti.size := by rw [q1, hlen]
          have fin : ∀ w' g', (storeCells ⟨β i, off, none⟩ (a.eval x).cells.toList 0).run P w = .ok () w' → Rel Dr w0 E0 S0 N (WrP wr ws) g' a w' β S → g' = upds g ws → PtrOK g' → o.wp P a w K Q := by
            intro w' g' hr hrel hg hpp
            subst hg
            unfold Oper.wp
            have hrun : (execOp a.eval o).run P w = .ok .skip w' := by
              simp [execOp, ho, hya, Instr.storeAt, Instr.sureAddr, storeVar, run_sizeD hτ hti, hsz, hr]
            rw [hrun]
            show K (a.put o.dst undef) w'
            rw [hdst]
            exact hN a w' β S hrel hpp
          split at he
          · rename_i ow kx q hso
            obtain ⟨hown, hk, hcs1, how0⟩ := storeOwn_some hso
            have he' : vcT G P (if (g (.b i off)).v.isUn = true then .fail else .ret [(kx, ⟨cx.v, none, cx.frm⟩), (.b i off, ⟨.pv q, some ow, none⟩)]) g wr (fun _ v => v = ws) := he
            split at he'
            · exact he'.elim
            · rename_i hu
              have hne : (g (.b i off)).v ≠ .un := fun e => hu (by rw [e]; rfl)
              have hws : [(kx, (⟨cx.v, none, cx.frm⟩ : C)), (.b i off, ⟨.pv q, some ow, none⟩)] = ws := he'
              cases x with
              | tmp t' =>
                cases hk
                have hcx' : cx = g (.t t') := hcx
                have h1 := h.drop (.t t') (fun i => by simp)
                have e1 : upd g (.t t') { g (.t t') with own := none } = upd g (.t t') ⟨cx.v, none, cx.frm⟩ := by rw [← hcx']
                rw [e1] at h1
                have hp1 : PtrOK (upd g (.t t') ⟨cx.v, none, cx.frm⟩) := ptrOK_upd hp (fun i => by simp) (ptr_live (c := cx) h hp hcx)
                obtain ⟨v, k1, k2⟩ := h.dropF (.t t') (p := ow) (by rw [← hcx', hown])
                have hvv : v = a.eval (.tmp t') := by cases k1; rfl
                subst hvv
                rw [e1] at k2
                subst hcs1
                obtain ⟨hone, hcl⟩ := own_one k2 how0
                have hb : (upd g (.t t') ⟨cx.v, none, cx.frm⟩ (.b i off)).v.isUn = false := by rw [upd_ne _ _ (by simp)]; simpa using hu
                have hrq : RepP S w (a.eval (.tmp t')) q := q3 0 _ _ (by rw [hcl]; rfl) rfl
                obtain ⟨_, old, z1, _, z3⟩ := (h.bx i off hne).1.cell (by simpa using hu)
                have hst := h1.store (c := ⟨.pv q, some ow, none⟩) hb (v := a.eval (.tmp t')) hrq (k2.ownV _) rfl rfl (wr' := WrP wr ws) (fun κ hk => .inl hk) (.inr (by rw [← hws]; simp [keysOf]))
                refine fin _ _ ?_ hst (by rw [← hws]; rfl) (ptrOK_upd hp1 (fun i => by simp) (fun i e => by simp [FV.refs] at e))
                rw [hcl]
                have hs : (store (⟨β i, off, none⟩ : Addr) (a.eval (.tmp t'))).run P w = .ok () (w.setCell ⟨β i, off, none⟩ (a.eval (.tmp t'))) := by
                  rw [run_store P w _ _ _ hone, z1]
                  simp [z3]
                simp only [storeCells, Addr.add_lit, Nat.add_zero, Sem.run_bind, hs, Result.andThen_ok]
                rfl
              | _ => cases hk
          · split at he
            · rename_i code kx hso2
              obtain ⟨s1, s2, ds, s3⟩ := structOwn_some hso2
              rw [hcxv] at s3
              cases s3
              have hds : ds = cs := by cases hcs; rfl
              subst hds
              obtain ⟨vs, e1, _⟩ := rep_agg hvx
              obtain ⟨hu, he2⟩ := hasN_ev _ _ he
              have hws : (kx, (⟨cx.v, none, cx.frm⟩ : C)) :: boxWO i off (ownsFrom 0 ds.length (decO 16 code)) ds = ws := he2
              generalize hows : ownsFrom 0 ds.length (decO 16 code) = ows at hws
              have hol : ows.length = ds.length := by rw [← hows, ownsFrom_len]
              cases x with
              | tmp t' =>
                cases s2
                have hcx' : cx = g (.t t') := hcx
                have h1 := h.drop (.t t') (fun i => by simp)
                have e0 : upd g (.t t') { g (.t t') with own := none } = upd g (.t t') ⟨cx.v, none, cx.frm⟩ := by rw [← hcx']
                obtain ⟨v, k1, k2⟩ := h.dropF (.t t') (p := (code, 0)) (by rw [← hcx', s1])
                have hvv : v = a.eval (.tmp t') := by cases k1; rfl
                subst hvv
                rw [e0] at h1 k2
                have hp1 : PtrOK (upd g (.t t') ⟨cx.v, none, cx.frm⟩) := ptrOK_upd hp (fun i => by simp) (ptr_live (c := cx) h hp hcx)
                generalize hg1 : upd g (.t t') ⟨cx.v, none, cx.frm⟩ = g1 at h1 k2 hp1
                have hgb : ∀ j o', g1 (.b j o') = g (.b j o') := fun j o' => by rw [← hg1]; exact upd_ne _ _ (by simp)
                have hga : ∀ j, g1 (.al j) = g (.al j) := fun j => by rw [← hg1]; exact upd_ne _ _ (by simp)
                have hcv : (a.eval (.tmp t')).cells = vs := by rw [e1]; rfl
                rw [hcv] at q1 q2 q3
                obtain ⟨w', r1, r2, r3, r4, _⟩ := stores (P := P) (i := i) (off := off) (wr' := WrP wr ws) vs.toList ds 0 (h1.wider (fun κ hk => .inl hk)) (by simp [q1]) (fun v hv => q2 v (by simpa using hv))
                  (fun q v y hq hy => q3 q v y (by simpa using hq) hy) (fun q hq => by rw [Nat.add_zero, hgb]; exact hu q (by simpa [q1] using hq)) (fun q => by
                    by_cases hq : q < ds.length
                    · refine .inl (.inr ?_)
                      rw [← hws, Nat.add_zero]
                      exact List.mem_cons_of_mem _ (keysOf_boxWO i ows ds off q hol hq)
                    · exact .inr (by simp [q1]; omega))
                rw [Nat.add_zero] at r2 r3 r4
                have hsub : List.Sublist (partsL ows vs.toList) (partsO (code, 0) (a.eval (.tmp t'))) := by
                  have := partsL_sub ds.length 0 (decO 16 code) vs.toList (fun u hu => q2 u (by simpa using hu)) (by simpa using q1)
                  rw [List.drop_zero, Array.toArray_toList, hows] at this
                  have e : partsO (code, 0) (a.eval (.tmp t')) = cutO vs (decO 16 code) := by rw [e1]; exact if_pos rfl
                  rw [e]
                  exact this
                by_cases hz : ds.length = 0
                · have hd0 : ds = [] := List.eq_nil_of_length_eq_zero hz
                  subst hd0
                  have ho0 : ows = [] := List.eq_nil_of_length_eq_zero (by simpa using hol)
                  subst ho0
                  refine fin w' _ (by rw [hcv]; exact r1) r2 (by rw [← hws, ← hg1]; rfl) hp1
                · have hlive : (g (.al i)).v ≠ .un := by
                    have := hu 0 (by omega)
                    exact (h.bx i (off + 0) (fun e => by rw [e] at this; cases this)).2
                  have h2 := Rel.gives (i := i) vs.toList ows ds off r2 hol (by simpa using q1) (fun q u x hu' hx => by
                    have hq : q < ds.length := (List.getElem?_eq_some_iff.1 hx).1
                    have hq2 : (off + q) - off = q := by omega
                    refine ⟨by rw [upds_boxW_at _ _ _ _ _ (by omega), hq2, hx], ?_⟩
                    have hcell : isCell i (off + q) = true := by
                      have := hu q hq
                      exact ((h.bx i (off + q) (fun e => by rw [e] at this; cases this)).1.cell this).1
                    rw [rv_b hcell]
                    exact r4 q u hu') (by rw [upds_boxW _ _ _ _ _ (fun _ _ e => by cases e), hga]; exact hlive) (OwsL.sub (r3 _ k2) hsub)
                  rw [upds_boxW_WO _ _ _ _ _ hol] at h2
                  exact fin w' _ (by rw [hcv]; exact r1) h2 (by rw [← hws, ← hg1]; rfl) (ptrOK_pv hp1 ows ds off)
              | _ => cases s2
            obtain ⟨hu, he2⟩ := hasN_ev _ _ he
            have hws : boxW i off cs = ws := he2
            obtain ⟨w', r1, r2, _⟩ := stores (P := P) (i := i) (off := off) (wr' := WrP wr ws) (a.eval x).cells.toList cs 0 (h.wider (fun κ hk => .inl hk)) (by simp [q1]) (fun v hv => q2 v (by simpa using hv))
              (fun q v y hq hy => q3 q v y (by simpa using hq) hy) (fun q hq => by rw [Nat.add_zero]; exact hu q (by simpa [q1] using hq)) (fun q => by
                by_cases hq : q < cs.length
                · exact .inl (.inr (by rw [← hws, Nat.add_zero]; exact keysOf_boxW i cs off q hq))
                · exact .inr (by simp [q1]; omega))
            rw [Nat.add_zero, hws] at r2
            exact fin w' _ r1 r2 rfl (by rw [← hws]; exact ptrOK_boxW i cs off hp)
        · exact he.elim
      · exact he.elim
    · rename_i i k r j p ti hcav hcxv hti
      rw [hcav] at hva
      rw [hcxv] at hvx
      have hya : a.eval y = .pointer (some ⟨β i, r * k + j, none⟩) := hva
      split at he
      · rename_i cs hcs
        obtain ⟨q1, q2, q3⟩ := cellsP_cells (S := S) (w := w) hvx hcs
        split at he
        · rename_i hlen
          have hsz : (a.eval x).cells.size = ti.size := by rw [q1, hlen]
          have he' : vcT G P (match (g (.b i 0)).v with
            | .rows k' xs => if k = k' then .row xs r fun row => (if j + cs.length ≤ row.length then .lval (fun _ => xs.set r (setCs row j cs)) fun ys => .ret [(.b i 0, ⟨.rows k ys, none, none⟩)] else .fail) else .fail
            | _ => .fail) g wr (fun _ v => v = ws) := he
          split at he'
          · rename_i k' xs hrows
            split at he'
            · rename_i hk
              subst hk
              obtain ⟨hb, hlive⟩ := h.bx i 0 (by rw [hrows]; simp)
              rw [hrows] at hb
              obtain ⟨hobj, _, hra, hfz⟩ := hb
              obtain ⟨row, hr, he2⟩ := row_evN he'
              split at he2
              · rename_i hfit
                have he3 : vcT G P (.ret [(.b i 0, ⟨.rows k (xs.set r (setCs row j cs)), none, none⟩)]) g wr (fun _ v => v = ws) := he2 _ ⟨rfl⟩
                have hws : [(Key.b i 0, (⟨.rows k (xs.set r (setCs row j cs)), none, none⟩ : C))] = ws := he3
                obtain ⟨w', r1, r2⟩ := stores_run (P := P) (b := β i) (off := r * k + j) (w := w) (a.eval x).cells.toList 0 (fun v hv => q2 v (by simpa using hv)) (fun q hq => by
                  have hq' : j + q < row.length := by simp [q1] at hq; omega
                  obtain ⟨c, c1, _⟩ := hra.2 r (j + q) row _ hr (List.getElem?_eq_getElem hq')
                  exact ⟨c, by rw [Nat.add_zero, Nat.add_assoc]; exact c1⟩) hfz
                rw [Nat.add_zero] at r2
                have hS : ∀ b' o, S b' o → w'.cell? ⟨b', o, none⟩ = w.cell? ⟨b', o, none⟩ := fun b' o hs => cell_of_block (r2.block b' (fun e => (h.al i hlive).2.2 o (e ▸ hs))) o
                have hrel := h.whole hlive (w' := w') ⟨r2.os, r2.tape, r2.output, by rw [r2.size]; exact Nat.le_refl _, fun k' _ hk' => r2.block k' (fun e => hk' e.symm)⟩ (fun _ => run_ok_drawn r1) r2.size (x := .rows k (xs.set r (setCs row j cs)))
                  ⟨hobj, rfl, rows_stored hra hr r2 (by simp [q1]) hfit (fun v hv => q2 v (by simpa using hv)) (fun q v x hq hx => q3 q v x (by simpa using hq) hx) hS, fun q => (r2.frz q).trans (hfz q)⟩ hobj (wr' := WrP wr ws) (fun κ hk => .inl hk)
                unfold Oper.wp
                have hrun : (execOp a.eval o).run P w = .ok .skip w' := by
                  simp [execOp, ho, hya, Instr.storeAt, Instr.sureAddr, storeVar, run_sizeD hτ hti, hsz, r1]
                rw [hrun]
                show K (a.put o.dst undef) w'
                rw [hdst]
                have hup : upds g ws = upd g (.b i 0) ⟨.rows k (xs.set r (setCs row j cs)), none, none⟩ := by rw [← hws]; rfl
                rw [← hup] at hrel
                exact hN a w' β S hrel (by rw [hup]; exact ptrOK_upd hp (fun i => by simp) (fun i e => by simp [FV.refs] at e))
              · exact he2.elim
            · exact he'.elim
          · exact he'.elim
        · exact he.elim
      · exact he.elim
    · rename_i i off avs ti hcav hcxv hti
      rw [hcav] at hva
      have hya : a.eval y = .pointer (some ⟨β i, off, none⟩) := hva
      split at he
      · rename_i hlen
        obtain ⟨hu, he2⟩ := hasN_ev _ _ he
        have hws : boxF i off (fvsC avs) = ws := he2
        rw [hcxv] at hvx
        obtain ⟨us, hxe, hrc, h1c⟩ := hvx
        have hlive := ptr_live (c := cx) h hp hcx
        rw [hcxv] at hlive
        have hul : us.length = (fvsC avs).length := by rw [fvsC_len, rep_len hrc]
        have hrf := repC_fv hrc
        obtain ⟨w', r1, r2⟩ := storesF (P := P) (i := i) (off := off) (wr' := WrP wr ws) us (fvsC avs) 0 (h.wider (fun κ hk => .inl hk)) hul h1c hrf (fun q hq => by rw [Nat.add_zero]; exact hu q (by rw [hul, fvsC_len] at hq; exact hq)) (fun q => by
          by_cases hq : q < (fvsC avs).length
          · exact .inl (.inr (by rw [← hws, Nat.add_zero]; exact keysOf_boxF i _ off q hq))
          · exact .inr (by omega))
        rw [Nat.add_zero, hws] at r2
        have hsz : (a.eval x).cells.size = ti.size := by rw [hxe, ← hlen, ← fvsC_len, ← hul]; rfl
        have hcl : (a.eval x).cells.toList = us := by rw [hxe]; rfl
        unfold Oper.wp
        have hrun : (execOp a.eval o).run P w = .ok .skip w' := by
          simp [execOp, ho, hya, Instr.storeAt, Instr.sureAddr, storeVar, run_sizeD hτ hti, hsz, hcl, r1]
        rw [hrun]
        show K (a.put o.dst undef) w'
        rw [hdst]
        exact hN a w' β S r2 (by rw [← hws]; exact ptrOK_boxF i _ off hp (fun x hx j hj => hlive j (fvsC_refs x hx j hj)))
      · exact he.elim
    · rename_i i off ti hcav hti hno hno2
      rw [hcav] at hva
      have hya : a.eval y = .pointer (some ⟨β i, off, none⟩) := hva
      split at he
      · rename_i hpt
        obtain ⟨hu, he2⟩ := hasN_ev _ _ he
        have hws : [(Key.b i off, (⟨cx.v, none, none⟩ : C))] = ws := he2
        have hu0 : (g (.b i off)).v.isUn = false := hu 0 (by simp)
        obtain ⟨k0, k4⟩ := h.bx i off (fun e => by rw [e] at hu0; cases hu0)
        obtain ⟨_, old, k1, _, k3⟩ := k0.cell hu0
        obtain ⟨hone, hcl⟩ := isPtr_one hvx hpt.1
        have hxu : cx.v.isUn = false := by cases hq : cx.v <;> rw [hq] at hpt <;> first | rfl | cases hpt.1
        have hst := h.store (c := ⟨cx.v, none, none⟩) hu0 (v := a.eval x) hvx (ownV_none _ _) rfl hxu (wr' := WrP wr ws) (fun κ hk => .inl hk) (.inr (by rw [← hws]; simp [keysOf]))
        have hs : (store (⟨β i, off, none⟩ : Addr) (a.eval x)).run P w = .ok () (w.setCell ⟨β i, off, none⟩ (a.eval x)) := by
          rw [run_store P w _ _ _ hone, k1]
          simp [k3]
        unfold Oper.wp
        have hrun : (execOp a.eval o).run P w = .ok .skip (w.setCell ⟨β i, off, none⟩ (a.eval x)) := by
          simp [execOp, ho, hya, Instr.storeAt, Instr.sureAddr, storeVar, run_sizeD hτ hti, hpt.2, hcl, storeCells, Addr.add_lit, hs]
        rw [hrun]
        show K (a.put o.dst undef) _
        rw [hdst]
        have hup : upds g ws = upd g (.b i off) ⟨cx.v, none, none⟩ := by rw [← hws]; rfl
        rw [← hup] at hst
        exact hN a _ β S hst (by rw [hup]; exact ptrOK_upd hp (fun i => by simp) (ptr_live (c := cx) h hp hcx))
      · exact he.elim
    · exact he.elim
  · exact he.elim
theorem nilCheck_ok (x : Operand) (ho : o.op = .nilCheck x) (h : Rel Dr w0 E0 S0 N (fun κ => wr κ = true) g a w β S) (hp : PtrOK g) (hd : dstOK N o = true) (hN : Next Dr w0 E0 S0 N wr g ws K)
    (he : vcT G P (opT P τ o) g wr (fun _ v => v = ws)) : o.wp P a w K Q := by
  simp only [opT, ho] at he
  obtain ⟨c, he, hv, hc⟩ := opnd_ev hKt h he
  have hl := ptr_live (c := c) h hp hc
  split at he
  · rename_i i o' hcv
    have hv' := hv
    rw [hcv] at hv'
    have hx : a.eval x = .pointer (some ⟨β i, o', none⟩) := hv'
    exact finWV hN hd (v := a.eval x) (by simp [execOp, ho, hx]) h hp hv hl he
  · rename_i row j hcv
    have hv' := hv
    rw [hcv] at hv'
    obtain ⟨b, base, hx, _⟩ := hv'
    exact finWV hN hd (v := a.eval x) (by simp [execOp, ho, hx]) h hp hv hl he
  · rename_i f p q hcv
    have hv' := hv
    rw [hcv] at hv'
    have hx := (rep_lit hv').1
    exact finWV hN hd (v := a.eval x) (by simp [execOp, ho, hx]) h hp hv hl he
  · rename_i i k r j hcv
    have hv' := hv
    rw [hcv] at hv'
    have hx : a.eval x = .pointer (some ⟨β i, r * k + j, none⟩) := hv'
    exact finWV hN hd (v := a.eval x) (by simp [execOp, ho, hx]) h hp hv hl he
  · rename_i f cs hcv
    have hv' := hv
    rw [hcv] at hv'
    obtain ⟨caps, hx, _⟩ := hv'
    exact finWV hN hd (v := a.eval x) (by simp [execOp, ho, hx]) h hp hv hl he
  · exact he.elim
theorem num_ev {n : Unit → Int} {f : Int → T} (he : vcT G P (.ival n f) g wr (fun _ v => v = ws)) : vcT G P (f (n ())) g wr (fun _ v => v = ws) := he _ ⟨rfl⟩
theorem bool_ev {n : Unit → Bool} {f : Bool → T} (he : vcT G P (.bval n f) g wr (fun _ v => v = ws)) : vcT G P (f (n ())) g wr (fun _ v => v = ws) := he _ ⟨rfl⟩
theorem str_ev {n : Unit → ByteArray} {f : ByteArray → T} (he : vcT G P (.sval n f) g wr (fun _ v => v = ws)) : vcT G P (f (n ())) g wr (fun _ v => v = ws) := he _ ⟨rfl⟩
theorem list_ev {n : Unit → List (List PV)} {f : List (List PV) → T} (he : vcT G P (.lval n f) g wr (fun _ v => v = ws)) : vcT G P (f (n ())) g wr (fun _ v => v = ws) := he _ ⟨rfl⟩
theorem eq_dec {α : Type} [DecidableEq α] (a b : α) : (a == b) = decide (a = b) := by rw [Bool.eq_iff_iff]; simp
theorem ne_dec {α : Type} [DecidableEq α] (a b : α) : (a != b) = decide (a ≠ b) := by rw [Bool.eq_iff_iff]; simp
theorem toList_inj {a b : ByteArray} (h : a.toList = b.toList) : a = b := by
  rw [Lib.toList_data, Lib.toList_data] at h
  cases a; cases b
  simpa using h
theorem str_eq (a b : ByteArray) : (a.toList == b.toList) = decide (a = b) := by
  rw [Bool.eq_iff_iff]
  simp only [beq_iff_eq, decide_eq_true_eq]
  exact ⟨toList_inj, fun e => by rw [e]⟩
theorem run_equal_bool {t : TypeId} (hu : P.underlying t = some .bool) (s u : Bool) (w : World) : (Op.equal t (.bool s) (.bool u)).run P w = .ok (s == u) w := by
  have key : ∀ d, (Op.equalIn (d + 1) t (.bool s) (.bool u)).run P w = .ok (s == u) w := fun d => by simp [Op.equalIn, run_underlying hu]
  exact key 9999
theorem part_one (hτ : TauOK P τ) {t : TypeId} {ti : TI} (ht : τ t = some ti) (hagg : isAggD ti.desc = false) {vs : Array Value} {o : Nat} {u : Value} (hu : vs[o]? = some u) (w : World) : (part t vs o).run P w = .ok u w := by
  simp [part, run_isAggD hτ ht, hagg, hu]
theorem eqLit_run (hτ : TauOK P τ) {t : TypeId} {ti : TI} (ht : τ t = some ti) {x y : Value} {u v : PV} (hx : RepP S w x u) (hy : RepP S w y v) {q : Unit → Bool} (h : eqLit ti.desc u v = some q) (d : Nat) (w' : World) :
    isAggD ti.desc = false ∧ (Op.equalIn (d + 1) t x y).run P w' = .ok (q ()) w' := by
  have hu := hτ.u _ _ ht
  unfold eqLit at h
  split at h
  · rename_i hd
    split at h
    · rename_i hk
      subst hk
      cases h
      rw [hd] at hu
      rw [(rep_lit hx).1, (rep_lit hy).1, hd, run_equalIn_int w' d t _ _ _ _ hu, eq_dec]
      exact ⟨rfl, rfl⟩
    · cases h
  · rename_i hd
    cases h
    rw [hd] at hu
    rw [(rep_lit hx).1, (rep_lit hy).1, hd, run_equalIn_string w' d t _ _ hu, str_eq]
    exact ⟨rfl, rfl⟩
  · rename_i hd
    cases h
    rw [hd] at hu
    rw [(rep_lit hx).1, (rep_lit hy).1, hd, run_equalIn_bool' w' d t _ _ hu, eq_dec]
    exact ⟨rfl, rfl⟩
  · cases h
theorem eqFs_run (hτ : TauOK P τ) {vs us : Array Value} {as bs : List PV} (hv : vs.size = as.length) (hu : us.size = bs.length) (hvr : ∀ (i : Nat) (v : Value) (x : PV), vs[i]? = some v → as[i]? = some x → RepP S w v x)
    (hur : ∀ (i : Nat) (v : Value) (x : PV), us[i]? = some v → bs[i]? = some x → RepP S w v x) (d : Nat) (w' : World) : ∀ (fs : List Field) {q : Unit → Bool}, eqFs τ fs as bs = some q → (Op.eqFields (d + 1) vs us fs).run P w' = .ok (q ()) w'
  | [], q, h => by cases h; simp [Op.eqFields]
  | f :: fs, q, h => by
    unfold eqFs at h
    split at h
    · cases h
    · rename_i hname
      split at h
      · rename_i ti u v r ht ha hb hr
        split at h
        · rename_i q' hq
          cases h
          have h1 : f.offset < vs.size := by rw [hv]; exact (List.getElem?_eq_some_iff.1 ha).1
          have h2 : f.offset < us.size := by rw [hu]; exact (List.getElem?_eq_some_iff.1 hb).1
          have e1 := Array.getElem?_eq_getElem h1
          have e2 := Array.getElem?_eq_getElem h2
          obtain ⟨k1, k2⟩ := eqLit_run hτ ht (hvr _ _ _ e1 ha) (hur _ _ _ e2 hb) hq d w'
          have ih := eqFs_run hτ hv hu hvr hur d w' fs hr
          simp only [Op.eqFields, ne_eq, hname, not_false_eq_true, if_true, Sem.run_bind, part_one hτ ht k1 e1, part_one hτ ht k1 e2, Result.andThen_ok, k2]
          cases hq' : q' () with
          | false => simp
          | true => simpa using ih
        · cases h
      · cases h
theorem eqS_ok (hτ : TauOK P τ) (neg : Bool) (ty yt : TypeId) (x y : Operand) (ho : o.op = .binOp (if neg = true then .neq else .eql) ty x y yt) (h : Rel Dr w0 E0 S0 N (fun κ => wr κ = true) g a w β S) (hp : PtrOK g) (hd : dstOK N o = true) (hN : Next Dr w0 E0 S0 N wr g ws K)
    {as bs : List PV} (hx : RepP S w (a.eval x) (.agg as)) (hy : RepP S w (a.eval y) (.agg bs)) (he : vcT G P (tEqS τ o.dst neg ty as bs) g wr (fun _ v => v = ws)) : o.wp P a w K Q := by
  unfold tEqS at he
  split at he
  · rename_i ti ht
    split at he
    · rename_i fs hfs
      split at he
      · rename_i hok
        split at he
        · rename_i q hq
          have hu := hτ.u _ _ ht
          rw [hfs] at hu
          obtain ⟨g1, g2⟩ := hτ.e _ _ ht hok
          obtain ⟨vs, e1, l1, _, r1⟩ := rep_agg hx
          obtain ⟨us, e2, l2, _, r2⟩ := rep_agg hy
          have hF : P.fieldsOf ty = fs := by simp [Program.fieldsOf, hu]
          have hE : (Op.equalIn 10000 ty (.agg vs) (.agg us)).run P w = .ok (q ()) w := by
            rw [run_equalIn_agg w 9999 ty vs us (by rw [hF]; exact hu) g1, hF]
            exact eqFs_run hτ l1 l2 r1 r2 9998 w _ hq
          cases neg with
          | false =>
            refine finWP hN hd (v := .bool (q ())) (w' := w) ?_ h hp (RepP.lit _ rfl) (bool_ev he)
            simp only [execOp, ho, e1, e2, Sem.run_bind, Bool.false_eq_true, if_false, run_eqGuard_agg w .eql ty x y vs us g2, run_eql_struct, hE, Result.andThen_ok, Sem.run_pure]
          | true =>
            refine finWP hN hd (v := .bool (!(q ()))) (w' := w) ?_ h hp (RepP.lit _ rfl) (bool_ev he)
            simp only [execOp, ho, e1, e2, Sem.run_bind, if_true, run_eqGuard_agg w .neq ty x y vs us g2, run_neq_struct, hE, Result.andThen_ok, Sem.run_pure]
        · exact he.elim
      · exact he.elim
    · exact he.elim
  · exact he.elim
set_option maxHeartbeats 1000000 in
theorem binOp_ok (hτ : TauOK P τ) (op : BinOp) (ty yt : TypeId) (x y : Operand) (ho : o.op = .binOp op ty x y yt) (h : Rel Dr w0 E0 S0 N (fun κ => wr κ = true) g a w β S) (hp : PtrOK g) (hd : dstOK N o = true) (hN : Next Dr w0 E0 S0 N wr g ws K)
    (he : vcT G P (opT P τ o) g wr (fun _ v => v = ws)) : o.wp P a w K Q := by
  simp only [opT, ho] at he
  obtain ⟨cx, he, hvx, _⟩ := opnd_ev hKt h he
  obtain ⟨cy, he, hvy, _⟩ := opnd_ev hKt h he
  unfold tBin at he
  split at he
  · rename_i u v hcx hcy
    rw [hcx] at hvx
    rw [hcy] at hvy
    have hx := (rep_lit hvx).1
    have hy := (rep_lit hvy).1
    have lit : ∀ {r : Value}, r.oneCell' = true → (∀ w, (do eqGuard op ty x y u v; binOp op ty u v : Sem Value).run P w = .ok r w) → vcT G P (WP o.dst (.lit r)) g wr (fun _ v => v = ws) → o.wp P a w K Q := fun h1 hr he => by
      refine finWP hN hd (v := _) (w' := w) ?_ h hp (RepP.lit _ h1) he
      have := hr w
      simp only [execOp, ho, hx, hy, Sem.run_bind, this, Result.andThen_ok, Sem.run_pure]
    split at he
    · split at he
      · rename_i hk; subst hk
        exact lit (r := .int _ _) rfl (fun w => by simp [eqGuard, binOp, Op.intArith]) (num_ev he)
      · exact he.elim
    · split at he
      · rename_i hk; subst hk
        exact lit (r := .int _ _) rfl (fun w => by simp [eqGuard, binOp, Op.intArith]) (num_ev he)
      · exact he.elim
    · split at he
      · rename_i hk; subst hk
        exact lit (r := .int _ _) rfl (fun w => by simp [eqGuard, binOp, Op.intArith]) (num_ev he)
      · exact he.elim
    · split at he
      · rename_i hk; subst hk
        exact lit (r := .bool _) rfl (fun w => by simp [eqGuard, binOp, Op.intCmp, eq_dec, ne_dec]) (bool_ev he)
      · exact he.elim
    · split at he
      · rename_i hk; subst hk
        exact lit (r := .bool _) rfl (fun w => by simp [eqGuard, binOp, Op.intCmp, eq_dec, ne_dec]) (bool_ev he)
      · exact he.elim
    · split at he
      · rename_i hk; subst hk
        exact lit (r := .bool _) rfl (fun w => by simp [eqGuard, binOp, Op.intCmp, eq_dec, ne_dec]) (bool_ev he)
      · exact he.elim
    · split at he
      · rename_i hk; subst hk
        exact lit (r := .bool _) rfl (fun w => by simp [eqGuard, binOp, Op.intCmp, eq_dec, ne_dec]) (bool_ev he)
      · exact he.elim
    · split at he
      · rename_i hk; subst hk
        exact lit (r := .bool _) rfl (fun w => by simp [eqGuard, binOp, Op.intCmp, eq_dec, ne_dec]) (bool_ev he)
      · exact he.elim
    · split at he
      · rename_i hk; subst hk
        exact lit (r := .bool _) rfl (fun w => by simp [eqGuard, binOp, Op.intCmp, eq_dec, ne_dec]) (bool_ev he)
      · exact he.elim
    · obtain ⟨⟨hle⟩, he⟩ := he
      exact lit (r := .string _) rfl (fun w => by
        simp [eqGuard, binOp, Op.stringOp]
        omega) (str_ev he)
    · exact lit (r := .bool _) rfl (fun w => by simp [eqGuard, binOp, Op.stringOp, str_eq]) (bool_ev he)
    · exact lit (r := .bool _) rfl (fun w => by simp [eqGuard, binOp, Op.stringOp, str_eq]) (bool_ev he)
    · exact lit (r := .bool _) rfl (fun w => by simp [eqGuard, binOp, Op.stringOp, str_eq]) (bool_ev he)
    · exact lit (r := .bool _) rfl (fun w => by simp [eqGuard, binOp, Op.stringOp, str_eq]) (bool_ev he)
    · exact lit (r := .bool _) rfl (fun w => by simp [eqGuard, binOp, Op.stringOp, str_eq]) (bool_ev he)
    · exact lit (r := .bool _) rfl (fun w => by simp [eqGuard, binOp, Op.stringOp, str_eq]) (bool_ev he)
    · split at he
      · rename_i ht
        have hu := hτ.u _ _ ht
        exact lit (r := .bool _) rfl (fun w => by simp [eqGuard, binOp, run_equal_bool hu, eq_dec, ne_dec]) (bool_ev he)
      · exact he.elim
    · split at he
      · rename_i ht
        have hu := hτ.u _ _ ht
        exact lit (r := .bool _) rfl (fun w => by simp [eqGuard, binOp, run_equal_bool hu, eq_dec, ne_dec]) (bool_ev he)
      · exact he.elim
    · split at he
      · rename_i hk; subst hk
        obtain ⟨⟨hne⟩, he⟩ := he
        exact lit (r := .int _ _) rfl (fun w => by simp [eqGuard, binOp, Op.intDiv, hne]) (num_ev he)
      · exact he.elim
    · split at he
      · rename_i hk; subst hk
        obtain ⟨⟨hne⟩, he⟩ := he
        exact lit (r := .int _ _) rfl (fun w => by simp [eqGuard, binOp, Op.intDiv, hne]) (num_ev he)
      · exact he.elim
    · exact he.elim
  · rename_i as bs hcx hcy
    rw [hcx] at hvx
    rw [hcy] at hvy
    split at he
    · exact eqS_ok hτ false ty yt x y ho h hp hd hN hvx hvy he
    · exact eqS_ok hτ true ty yt x y ho h hp hd hN hvx hvy he
    · exact he.elim
  · exact he.elim
end
end
end Go.Proofs.YtbjfmkmaghapgaaGreatDoor.B
