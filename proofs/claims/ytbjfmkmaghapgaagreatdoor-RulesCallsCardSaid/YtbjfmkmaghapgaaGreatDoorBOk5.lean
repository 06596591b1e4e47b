/-
The logic of pure values, continued: values built of parts. Condition: none.
-/
import Derived.Test.YtbjfmkmaghapgaaGreatDoorBOk4
import Derived.Laws.Tables
set_option linter.unusedVariables false
set_option linter.unusedSimpArgs false
namespace Go.Proofs.YtbjfmkmaghapgaaGreatDoor.B
open Go.RowKit

section
variable {G : World → Prop} {P : Program} {τ : Tau} {Dr : Prop} {w0 : World} {E0 : Nat → Nat → Prop} {S0 : Nat → Nat → Prop} {N : Nat} {wr : Key → Bool} {g : Key → C} {a : Act} {w : World} {β : Nat → Nat} {S : Nat → Nat → Prop}
section
variable {o : Oper} {K : Act → World → Prop} {Q : Exit → Act → World → Prop} {ws : List (Key × C)}
theorem slice_ok (hτ : TauOK P τ) (t : TypeId) (x : Operand) (lo hi : Option Operand) (ho : o.op = .slice t x lo hi none) (h : Rel Dr w0 E0 S0 N (fun κ => wr κ = true) g a w β S) (hp : PtrOK g) (hd : dstOK N o = true) (hN : Next Dr w0 E0 S0 N wr g ws K)
    (he : vcT G P (opT P τ o) g wr (fun _ v => v = ws)) : o.wp P a w K Q := by
  simp only [opT, ho] at he
  obtain ⟨cx, he, hvx, hcx0⟩ := opnd_ev hKt h he
  -- the bounds
  have main : ∀ (cl ch : Option C), (∀ c, cl = some c → ∃ y, lo = some y ∧ RepF β S w (a.eval y) c.v) → (cl = none → lo = none) → (∀ c, ch = some c → ∃ y, hi = some y ∧ RepF β S w (a.eval y) c.v) → (ch = none → hi = none) →
      vcT G P (tSlice τ o.dst t cx cl ch) g wr (fun _ v => v = ws) → o.wp P a w K Q := by
    intro cl ch hl hl0 hh hh0 he
    have fin : ∀ {u : Value} {p : PV}, (Instr.sliceAt t (a.eval x) (lo.map a.eval) (hi.map a.eval) none).run P w = .ok u w → RepP S w u p → vcT G P (WP o.dst p) g wr (fun _ v => v = ws) → o.wp P a w K Q := fun hr hrep he =>
      finWP hN hd (by simp [execOp, ho, hr]) h hp hrep he
    unfold tSlice at he
    split at he
    · rename_i ti hti
      split at he
      · rename_i s hdesc hcx
        rw [hcx] at hvx
        have hx := (rep_lit hvx).1
        cases cl with
        | none =>
          have hlo := hl0 rfl
          cases ch with
          | none => exact fin (by rw [hx, hlo, hh0 rfl]; exact slice_str hτ hti hdesc (l := 0) (.inl ⟨rfl, rfl⟩) (.inl ⟨rfl, rfl⟩) (Nat.zero_le _) (Nat.le_refl _)) (RepP.lit _ rfl) (str_ev he)
          | some c =>
            obtain ⟨y, hy, hvy⟩ := hh c rfl
            simp only at he
            split at he
            · rename_i k i hci
              rw [hci] at hvy
              obtain ⟨⟨q1, q2⟩, he⟩ := he
              obtain ⟨i, rfl⟩ := Int.eq_ofNat_of_zero_le q1
              exact fin (by rw [hx, hlo, hy]; exact slice_str hτ hti hdesc (l := 0) (hh := i) (.inl ⟨rfl, rfl⟩) (.inr ⟨k, by simp [(rep_lit hvy).1]⟩) (Nat.zero_le _) (by omega)) (RepP.lit _ rfl) (str_ev he)
            · exact he.elim
        | some c =>
          obtain ⟨y, hy, hvy⟩ := hl c rfl
          cases ch with
          | none =>
            simp only at he
            split at he
            · rename_i k i hci
              rw [hci] at hvy
              obtain ⟨⟨q1, q2⟩, he⟩ := he
              obtain ⟨i, rfl⟩ := Int.eq_ofNat_of_zero_le q1
              exact fin (by rw [hx, hh0 rfl, hy]; exact slice_str hτ hti hdesc (l := i) (.inr ⟨k, by simp [(rep_lit hvy).1]⟩) (.inl ⟨rfl, rfl⟩) (by omega) (Nat.le_refl _)) (RepP.lit _ rfl) (str_ev he)
            · exact he.elim
          | some c2 =>
            obtain ⟨y2, hy2, hvy2⟩ := hh c2 rfl
            simp only at he
            split at he
            · rename_i k i k2 i2 hci hci2
              rw [hci] at hvy
              rw [hci2] at hvy2
              obtain ⟨⟨q1, q2, q3⟩, he⟩ := he
              obtain ⟨i, rfl⟩ := Int.eq_ofNat_of_zero_le q1
              obtain ⟨i2, rfl⟩ := Int.eq_ofNat_of_zero_le (by omega : 0 ≤ i2)
              exact fin (by rw [hx, hy, hy2]; exact slice_str hτ hti hdesc (l := i) (hh := i2) (.inr ⟨k, by simp [(rep_lit hvy).1]⟩) (.inr ⟨k2, by simp [(rep_lit hvy2).1]⟩) (by omega) (by omega)) (RepP.lit _ rfl) (str_ev he)
            · exact he.elim
      · rename_i e xs hdesc hcx
        rw [hcx] at hvx
        split at he
        · rename_i te hte
          split at he
          · exact he.elim
          · cases cl with
            | none =>
              have hlo := hl0 rfl
              cases ch with
              | none =>
                simp only [sliceT] at he
                rw [hlo, hh0 rfl] at fin
                have hu := hτ.u _ _ hti
                rw [hdesc] at hu
                obtain ⟨A, n, cap, hx⟩ : ∃ A n cap, a.eval x = .slice A n cap := by
                  rcases rep_sl hvx with ⟨⟨A, q⟩, _⟩ | ⟨_, _, _, _, q, _⟩
                  · exact ⟨_, _, _, q⟩
                  · exact ⟨_, _, _, q⟩
                refine fin (u := a.eval x) ?_ hvx he
                rw [hx]
                simp [Instr.sliceAt, run_underlying hu, Instr.slice, Instr.sliceBounds, run_sizeD hτ hte]
                intro _
                cases A with
                | none => rfl
                | some A => simp [Addr.add]
              | some c =>
                obtain ⟨y, hy, hvy⟩ := hh c rfl
                simp only [sliceT] at he
                split at he
                · rename_i k i hci
                  rw [hci] at hvy
                  obtain ⟨⟨q1, q2, q3⟩, he⟩ := he
                  obtain ⟨i, rfl⟩ := Int.eq_ofNat_of_zero_le q1
                  rw [hlo, hy] at fin
                  obtain ⟨u, r1, r2⟩ := slice_sl (S := S) (w := w) hτ hti hdesc hte hvx (lo := none) (hi := some (a.eval y)) (l := 0) (hh := i) (.inl ⟨rfl, rfl⟩) (.inr ⟨k, by rw [(rep_lit hvy).1]⟩) (Nat.zero_le _) (by omega) q3
                  exact fin r1 r2 (by simpa using list_ev he)
                · exact he.elim
            | some c =>
              obtain ⟨y, hy, hvy⟩ := hl c rfl
              cases ch with
              | none =>
                simp only [sliceT] at he
                split at he
                · rename_i k i hci
                  rw [hci] at hvy
                  obtain ⟨⟨q1, q2, q3⟩, he⟩ := he
                  obtain ⟨i, rfl⟩ := Int.eq_ofNat_of_zero_le q1
                  rw [hh0 rfl, hy] at fin
                  obtain ⟨u, r1, r2⟩ := slice_sl (S := S) (w := w) hτ hti hdesc hte hvx (lo := some (a.eval y)) (hi := none) (l := i) (hh := xs.length) (.inr ⟨k, by rw [(rep_lit hvy).1]⟩) (.inl ⟨rfl, rfl⟩) (by omega) (Nat.le_refl _) q3
                  exact fin r1 r2 (by simpa using list_ev he)
                · exact he.elim
              | some c2 =>
                obtain ⟨y2, hy2, hvy2⟩ := hh c2 rfl
                simp only [sliceT] at he
                split at he
                · rename_i k i k2 i2 hci hci2
                  rw [hci] at hvy
                  rw [hci2] at hvy2
                  obtain ⟨⟨q1, q2, q3, q4⟩, he⟩ := he
                  obtain ⟨i, rfl⟩ := Int.eq_ofNat_of_zero_le q1
                  obtain ⟨i2, rfl⟩ := Int.eq_ofNat_of_zero_le (by omega : 0 ≤ i2)
                  rw [hy, hy2] at fin
                  obtain ⟨u, r1, r2⟩ := slice_sl (S := S) (w := w) hτ hti hdesc hte hvx (lo := some (a.eval y)) (hi := some (a.eval y2)) (l := i) (hh := i2) (.inr ⟨k, by rw [(rep_lit hvy).1]⟩) (.inr ⟨k2, by rw [(rep_lit hvy2).1]⟩) (by omega) (by omega) q4
                  exact fin r1 r2 (by simpa using list_ev he)
                · exact he.elim
        · exact he.elim
      · rename_i e i k l0 n hdesc hcx
        have hlv := ptr_live (c := cx) h hp hcx0 i (by rw [hcx]; simp [FV.refs])
        rw [hcx] at hvx
        split at he
        · rename_i te hte
          split at he
          · rename_i hsz
            subst hsz
            have finS : ∀ {l hh : Nat}, ((lo.map a.eval = none ∧ l = 0) ∨ ∃ k, lo.map a.eval = some (.int k l)) → ((hi.map a.eval = none ∧ hh = n) ∨ ∃ k, hi.map a.eval = some (.int k hh)) → l ≤ hh → hh ≤ n →
                vcT G P (WV o.dst (.slp i te.size (l0 + l) (hh - l))) g wr (fun _ v => v = ws) → o.wp P a w K Q := fun {l hh} e1 e2 e3 e4 he => by
              obtain ⟨u, r1, r2⟩ := slice_slp (P := P) (S := S) (w := w) hτ hti hdesc hte hvx e1 e2 e3 e4
              exact finWV hN hd (by simp [execOp, ho, r1]) h hp r2 (fun i' e => by simp [FV.refs] at e; subst e; exact hlv) he
            cases cl with
            | none =>
              have hlo := hl0 rfl
              cases ch with
              | none => exact finS (l := 0) (hh := n) (.inl ⟨by rw [hlo]; rfl, rfl⟩) (.inl ⟨by rw [hh0 rfl]; rfl, rfl⟩) (Nat.zero_le _) (Nat.le_refl _) he
              | some c =>
                obtain ⟨y, hy, hvy⟩ := hh c rfl
                simp only at he
                split at he
                · rename_i k h' hci
                  rw [hci] at hvy
                  obtain ⟨⟨q1, q2⟩, he⟩ := he
                  obtain ⟨i', rfl⟩ := Int.eq_ofNat_of_zero_le q1
                  have he := he _ ⟨rfl⟩
                  exact finS (l := 0) (hh := i') (.inl ⟨by rw [hlo]; rfl, rfl⟩) (.inr ⟨k, by rw [hy]; simp [(rep_lit hvy).1]⟩) (Nat.zero_le _) (by omega) he
                · exact he.elim
            | some c =>
              obtain ⟨y, hy, hvy⟩ := hl c rfl
              cases ch with
              | none =>
                simp only at he
                split at he
                · rename_i k h' hci
                  rw [hci] at hvy
                  obtain ⟨⟨q1, q2⟩, he⟩ := he
                  obtain ⟨i', rfl⟩ := Int.eq_ofNat_of_zero_le q1
                  have he := he _ ⟨rfl⟩ _ ⟨rfl⟩
                  exact finS (l := i') (hh := n) (.inr ⟨k, by rw [hy]; simp [(rep_lit hvy).1]⟩) (.inl ⟨by rw [hh0 rfl]; rfl, rfl⟩) (by omega) (Nat.le_refl _) he
                · exact he.elim
              | some c2 =>
                obtain ⟨y2, hy2, hvy2⟩ := hh c2 rfl
                simp only at he
                split at he
                · rename_i k h1' k2 h2' hci hci2
                  rw [hci] at hvy
                  rw [hci2] at hvy2
                  obtain ⟨⟨q1, q2, q3⟩, he⟩ := he
                  obtain ⟨i', rfl⟩ := Int.eq_ofNat_of_zero_le q1
                  obtain ⟨i2, rfl⟩ := Int.eq_ofNat_of_zero_le (by omega : 0 ≤ h2')
                  have he := he _ ⟨rfl⟩ _ ⟨rfl⟩
                  exact finS (l := i') (hh := i2) (.inr ⟨k, by rw [hy]; simp [(rep_lit hvy).1]⟩) (.inr ⟨k2, by rw [hy2]; simp [(rep_lit hvy2).1]⟩) (by omega) (by omega) he
                · exact he.elim
          · exact he.elim
        · exact he.elim
      · exact he.elim
    · exact he.elim
  cases lo with
  | none =>
    cases hi with
    | none => exact main none none (fun c e => by cases e) (fun _ => rfl) (fun c e => by cases e) (fun _ => rfl) he
    | some y =>
      obtain ⟨c, he, hv, _⟩ := opnd_ev hKt h he
      exact main none (some c) (fun c e => by cases e) (fun _ => rfl) (fun c' e => by cases e; exact ⟨y, rfl, hv⟩) (fun e => by cases e) he
  | some z =>
    cases hi with
    | none =>
      obtain ⟨c, he, hv, _⟩ := opnd_ev hKt h he
      exact main (some c) none (fun c' e => by cases e; exact ⟨z, rfl, hv⟩) (fun e => by cases e) (fun c e => by cases e) (fun _ => rfl) he
    | some y =>
      obtain ⟨c, he, hv, _⟩ := opnd_ev hKt h he
      obtain ⟨c2, he, hv2, _⟩ := opnd_ev hKt h he
      exact main (some c) (some c2) (fun c' e => by cases e; exact ⟨z, rfl, hv⟩) (fun e => by cases e) (fun c' e => by cases e; exact ⟨y, rfl, hv2⟩) (fun e => by cases e) he
theorem rep_cap {A : Option Addr} {n cap : Nat} {xs : List (List PV)} (h : RepP S w (.slice A n cap) (.sl xs)) : RepP S w (.slice A n n) (.sl xs) := by
  generalize hv : Value.slice A n cap = v at h
  cases h with
  | nil' A => cases hv; exact .nil' _
  | sl b off k cap xs c h1 h2 h3 h4 h5 => cases hv; exact .sl _ _ _ _ _ c (Nat.le_refl _) h2 h3 h4 h5
theorem slice3_ok (hτ : TauOK P τ) (t : TypeId) (x yh ym : Operand) (ho : o.op = .slice t x none (some yh) (some ym)) (h : Rel Dr w0 E0 S0 N (fun κ => wr κ = true) g a w β S) (hp : PtrOK g) (hd : dstOK N o = true) (hN : Next Dr w0 E0 S0 N wr g ws K)
    (he : vcT G P (opT P τ o) g wr (fun _ v => v = ws)) : o.wp P a w K Q := by
  simp only [opT, ho] at he
  obtain ⟨cx, he, hvx, hcx0⟩ := opnd_ev hKt h he
  obtain ⟨ch, he, hvh, _⟩ := opnd_ev hKt h he
  obtain ⟨cm, he, hvm, _⟩ := opnd_ev hKt h he
  unfold tSlice3 at he
  split at he
  · rename_i ti hti
    split at he
    · rename_i e i k l0 n k1 h' k2 m hdesc hcx hch hcm
      have hlv := ptr_live (c := cx) h hp hcx0 i (by rw [hcx]; simp [FV.refs])
      rw [hcx] at hvx
      rw [hch] at hvh
      rw [hcm] at hvm
      have hu := hτ.u _ _ hti
      rw [hdesc] at hu
      split at he
      · rename_i te hte
        split at he
        · rename_i hsz
          subst hsz
          obtain ⟨⟨q1, q2, q3⟩, he⟩ := he
          obtain ⟨i', rfl⟩ := Int.eq_ofNat_of_zero_le q1
          obtain ⟨m', rfl⟩ := Int.eq_ofNat_of_zero_le (by omega : 0 ≤ m)
          have he := he _ ⟨rfl⟩
          obtain ⟨cap, off, hcap, hx, hoff⟩ := hvx
          have e1 : i' ≤ m' := by omega
          have e2 : m' ≤ cap := by omega
          refine finWV hN hd (v := .slice (some ⟨β i, off, none⟩) i' m') ?_ h hp (x := .slp i te.size l0 i') ⟨m', off, e1, rfl, ?_⟩ (fun j hj => by simp [FV.refs] at hj; subst hj; exact hlv) he
          · simp [execOp, ho, hx, (rep_lit hvh).1, (rep_lit hvm).1, Instr.sliceAt, run_underlying hu, Instr.slice, Instr.sliceBounds, run_sliceBound, run_sizeD hτ hte, e1, e2, Addr.add]
          · rcases hoff with q | q
            · exact .inl (by omega)
            · exact .inr q
        · exact he.elim
      · exact he.elim
    · rename_i e xs k1 h' k2 m hdesc hcx hch hcm
      rw [hcx] at hvx
      rw [hch] at hvh
      rw [hcm] at hvm
      have hu := hτ.u _ _ hti
      rw [hdesc] at hu
      split at he
      · rename_i te hte
        obtain ⟨⟨q1, q2⟩, he⟩ := he
        subst q1
        subst q2
        have run : ∀ A cap, a.eval x = .slice A xs.length cap → xs.length ≤ cap → (execOp a.eval o).run P w = .ok (.value (.slice A xs.length xs.length)) w := fun A cap hx hcap => by
          cases A <;> simp [execOp, ho, hx, (rep_lit hvh).1, (rep_lit hvm).1, Instr.sliceAt, run_underlying hu, Instr.slice, Instr.sliceBounds, run_sliceBound, run_sizeD hτ hte, hcap, Addr.add]
        rcases rep_sl hvx with ⟨⟨A, q⟩, rfl⟩ | ⟨b, off, k, cap, q, hcap, hk, hrows⟩
        · exact finWP hN hd (run A 0 q (Nat.le_refl _)) h hp (.nil' A) he
        · refine finWP hN hd (run _ cap q hcap) h hp ?_ he
          rw [q] at hvx
          exact rep_cap hvx
      · exact he.elim
    · exact he.elim
  · exact he.elim
/-! ### parts laid into cells -/
def CellsR (S : Nat → Nat → Prop) (w : World) (vs : Array Value) (cs : List PV) : Prop := vs.size = cs.length ∧ (∀ v, v ∈ vs → v.oneCell' = true) ∧ ∀ (i : Nat) (v : Value) (x : PV), vs[i]? = some v → cs[i]? = some x → RepP S w v x
theorem setCs_len : ∀ (ps : List PV) (cs : List PV) (o : Nat), (setCs cs o ps).length = cs.length
  | [], cs, o => rfl
  | p :: ps, cs, o => by
    show (setCs (cs.set o p) (o + 1) ps).length = _
    rw [setCs_len ps]
    simp
theorem set_cells {off : Nat} : ∀ (us : List Value) (ps : List PV) (j : Nat) {vs : Array Value} {cs : List PV}, CellsR S w vs cs → us.length = ps.length → (∀ u, u ∈ us → u.oneCell' = true) →
    (∀ (i : Nat) (v : Value) (x : PV), us[i]? = some v → ps[i]? = some x → RepP S w v x) →
    CellsR S w ((us.zipIdx j).foldl (fun cs (c, j) => cs.setIfInBounds (off + j) c) vs) (setCs cs (off + j) ps)
  | [], [], j, vs, cs, h, _, _, _ => h
  | [], p :: ps, j, vs, cs, h, hl, _, _ => by simp at hl
  | u :: us, [], j, vs, cs, h, hl, _, _ => by simp at hl
  | u :: us, p :: ps, j, vs, cs, h, hl, h1, hr => by
    have hstep : CellsR S w (vs.setIfInBounds (off + j) u) (cs.set (off + j) p) := by
      refine ⟨by simp [h.1], fun v hv => ?_, fun i v x hv hx => ?_⟩
      · rcases Array.mem_or_eq_of_mem_setIfInBounds hv with hv | hv
        · exact h.2.1 v hv
        · exact hv ▸ h1 u (List.mem_cons_self ..)
      · rw [Array.getElem?_setIfInBounds] at hv
        rw [List.getElem?_set] at hx
        by_cases e : off + j = i
        · rw [if_pos e] at hv hx
          split at hv
          · cases hv
            split at hx
            · cases hx
              exact hr 0 u p rfl rfl
            · cases hx
          · cases hv
        · rw [if_neg e] at hv hx
          exact h.2.2 i v x hv hx
    have := set_cells (off := off) us ps (j + 1) hstep (by simpa using hl) (fun v hv => h1 v (List.mem_cons_of_mem _ hv)) (fun i v x hv hx => hr (i + 1) v x hv hx)
    rw [show off + (j + 1) = off + j + 1 from by omega] at this
    simpa [List.zipIdx_cons, setCs] using this
theorem fill_cells {place place' : Nat → Option (Nat × Nat)} (hpl : ∀ i, place i = place' i) : ∀ (ls : List (Nat × Value)) (ms : List (Nat × PV)) {vs : Array Value} {cs r : List PV}, CellsR S w vs cs → layParts place' cs ms = some r →
    ls.length = ms.length → (∀ (i : Nat) (p : Nat × Value) (q : Nat × PV), ls[i]? = some p → ms[i]? = some q → p.1 = q.1 ∧ RepP S w p.2 q.2) → ∃ us, Instr.fill place vs ls = some us ∧ CellsR S w us r
  | [], [], vs, cs, r, h, hr, _, _ => by
    cases hr
    exact ⟨vs, rfl, h⟩
  | [], m :: ms, vs, cs, r, h, hr, hl, _ => by simp at hl
  | p :: ls, [], vs, cs, r, h, hr, hl, _ => by simp at hl
  | (i, v) :: ls, (i', p) :: ms, vs, cs, r, h, hr, hl, hq => by
    obtain ⟨e, hv⟩ := hq 0 _ _ rfl rfl
    have e : i = i' := e
    subst e
    have hv : RepP S w v p := hv
    unfold layParts at hr
    split at hr
    · rename_i off size ps hp hps
      split at hr
      · rename_i hc
        obtain ⟨q1, q2, q3⟩ := cellsP_cells hv hps
        have hstep := set_cells (off := off) v.cells.toList ps 0 h (by simp [q1]) (fun u hu => q2 u (by simpa using hu)) (fun i u x hu hx => q3 i u x (by simpa using hu) hx)
        obtain ⟨us, r1, r2⟩ := fill_cells hpl ls ms hstep hr (by simpa using hl) (fun j p' q' hp' hq' => hq (j + 1) p' q' hp' hq')
        refine ⟨us, ?_, r2⟩
        unfold Instr.fill
        rw [hpl, hp]
        have c1 : ¬ ((decide (v.cells.size ≠ size) || decide (off + v.cells.size > vs.size)) = true) := by
          have := h.1
          simp
          omega
        rw [← r1]
        show (if (decide (v.cells.size ≠ size) || decide (off + v.cells.size > vs.size)) = true then none else Instr.fill place (v.cells.zipIdx.foldl (fun cs (c, j) => cs.setIfInBounds (off + j) c) vs) ls) = _
        rw [if_neg c1, ← Array.foldl_toList, Array.toList_zipIdx]
      · cases hr
    · cases hr
theorem places_run (hτ : TauOK P τ) : ∀ (fs : List Field) {pl : List (Nat × Nat)}, placesOf τ fs = some pl → fs.mapM (fun f => (P.info? f.type).map fun i => (f.offset, i.size)) = some pl
  | [], pl, h => by cases h; rfl
  | f :: fs, pl, h => by
    unfold placesOf at h
    split at h
    · rename_i ft r hft hr
      cases h
      obtain ⟨i, h1, h2, _⟩ := hτ.i _ _ hft
      simp [List.mapM_cons, h1, h2, places_run hτ fs hr]
    · cases h
theorem zero_cells (hτ : TauOK P τ) {t : TypeId} {ti : TI} (h : τ t = some ti) : CellsR S w ti.zero.cells (ti.zero.cells.toList.map cellP) := by
  obtain ⟨hz1, hz2⟩ := hτ.z t ti h
  have h' : ∀ v, v ∈ ti.zero.cells → v.oneCell' = true := fun v hv => List.all_eq_true.1 hz2 v (by simpa using hv)
  refine ⟨by simp, h', fun i v x hv hx => ?_⟩
  rw [List.getElem?_map, Array.getElem?_toList, hv] at hx
  simp only [Option.map_some, Option.some.injEq] at hx
  subst hx
  exact cellP_rep v (h' v (Array.mem_of_getElem? hv))
theorem parts_rel (h : Rel Dr w0 E0 S0 N (fun κ => wr κ = true) g a w β S) {parts : Array (Nat × Operand)} {cs : List C} {ps : List PV} (hl : cs.length = (parts.toList.map (·.2)).length)
    (hc : ∀ (i : Nat) x c, (parts.toList.map (·.2))[i]? = some x → cs[i]? = some c → RepF β S w (a.eval x) c.v) (hps : pvs cs = some ps) :
    (parts.map fun (i, x) => (i, a.eval x)).toList.length = ((parts.toList.map (·.1)).zip ps).length ∧
    ∀ (i : Nat) (p : Nat × Value) (q : Nat × PV), (parts.map fun (i, x) => (i, a.eval x)).toList[i]? = some p → ((parts.toList.map (·.1)).zip ps)[i]? = some q → p.1 = q.1 ∧ RepP S w p.2 q.2 := by
  obtain ⟨k1, k2⟩ := pvs_some hps
  refine ⟨by simp [k1, hl], fun i p q hp hq => ?_⟩
  rw [Array.toList_map, List.getElem?_map] at hp
  cases hx : parts.toList[i]? with
  | none => rw [hx] at hp; cases hp
  | some x =>
    rw [hx] at hp
    simp only [Option.map_some, Option.some.injEq] at hp
    subst hp
    rw [List.zip_eq_zipWith, List.getElem?_zipWith] at hq
    rw [List.getElem?_map, hx] at hq
    cases hps' : ps[i]? with
    | none => rw [hps'] at hq; simp at hq
    | some p =>
      rw [hps'] at hq
      simp at hq
      subst hq
      have hi : i < cs.length := by rw [← k1]; exact (List.getElem?_eq_some_iff.1 hps').1
      have hcv := k2 i _ p (List.getElem?_eq_getElem hi) hps'
      have := hc i x.2 _ (by rw [List.getElem?_map, hx]; rfl) (List.getElem?_eq_getElem hi)
      rw [hcv] at this
      exact ⟨rfl, this⟩
/-! ### a struct made of lists of one's own -/
theorem fold_at {off : Nat} : ∀ (us : List Value) (j : Nat) (vs : Array Value) (o : Nat), off + j + us.length ≤ vs.size →
    ((us.zipIdx j).foldl (fun cs (c, j) => cs.setIfInBounds (off + j) c) vs)[o]? = if off + j ≤ o ∧ o < off + j + us.length then us[o - (off + j)]? else vs[o]?
  | [], j, vs, o, _ => by rw [if_neg (by simp <;> omega)]; rfl
  | u :: us, j, vs, o, h => by
    rw [List.zipIdx_cons, List.foldl_cons, fold_at us (j + 1) _ o (by simp at h ⊢; omega)]
    by_cases h1 : off + (j + 1) ≤ o ∧ o < off + (j + 1) + us.length
    · rw [if_pos h1, if_pos (by simp; omega)]
      have : o - (off + j) = (o - (off + (j + 1))) + 1 := by omega
      rw [this]
      rfl
    · rw [if_neg h1, Array.getElem?_setIfInBounds]
      by_cases h2 : off + j = o
      · subst h2
        simp at h
        rw [if_pos rfl, if_pos (by omega), if_pos (by simp)]
        simp
      · rw [if_neg h2, if_neg (by simp; omega)]
theorem fill_at {pl : List (Nat × Nat)} {o : Nat} {α : Type} (val : α → Value) : ∀ (is : List Nat) (as : List α) (prev : Option α) {vs us : Array Value} {x : α}, is.length = as.length →
    Instr.fill (fun i => pl[i]?) vs (is.zip (as.map val)) = some us → covO pl o is as prev = some x → (prev = some x → vs[o]? = (val x).cells[0]?) → us[o]? = (val x).cells[0]?
  | [], [], prev, vs, us, x, _, hf, hc, hp => by
    cases hf
    exact hp hc
  | [], _ :: _, _, _, _, _, h, _, _, _ => by simp at h
  | _ :: _, [], _, _, _, _, h, _, _, _ => by simp at h
  | i :: is, b :: as, prev, vs, us, x, hl, hf, hc, hp => by
    have hf' : (match pl[i]? with
      | none => none
      | some (off, size) => if (val b).cells.size ≠ size || off + (val b).cells.size > vs.size then none else Instr.fill (fun i => pl[i]?) ((val b).cells.zipIdx.foldl (fun cs (c, j) => cs.setIfInBounds (off + j) c) vs) (is.zip (as.map val))) = some us := hf
    unfold covO at hc
    cases hpi : pl[i]? with
    | none => rw [hpi] at hf'; cases hf'
    | some q =>
      obtain ⟨off, size⟩ := q
      rw [hpi] at hf' hc
      simp only at hf' hc
      split at hf'
      · cases hf'
      · rename_i hno
        have hsz : (val b).cells.size = size ∧ off + size ≤ vs.size := by
          simp at hno
          omega
        have hat : ((val b).cells.zipIdx.foldl (fun cs (c, j) => cs.setIfInBounds (off + j) c) vs)[o]? = if off ≤ o ∧ o < off + size then (val b).cells[o - off]? else vs[o]? := by
          rw [← Array.foldl_toList, Array.toList_zipIdx]
          have := fold_at (off := off) (val b).cells.toList 0 vs o (by simp; omega)
          rw [this]
          simp only [Nat.add_zero, Array.length_toList, hsz.1]
          split <;> simp
        split at hc
        · rename_i hin
          rw [if_pos hin] at hat
          split at hc
          · rename_i h1
            obtain ⟨rfl, rfl⟩ := h1
            refine fill_at val is as (some b) (by simpa using hl) hf' hc (fun e => ?_)
            cases e
            rw [hat]
            simp
          · exact fill_at val is as none (by simpa using hl) hf' hc (fun e => by cases e)
        · rename_i hin
          rw [if_neg hin] at hat
          exact fill_at val is as prev (by simpa using hl) hf' hc (fun e => by rw [hat]; exact hp e)
theorem covO_mem {α : Type} {pl : List (Nat × Nat)} {o : Nat} : ∀ (is : List Nat) (as : List α) (prev : Option α) {x : α}, covO pl o is as prev = some x → prev = some x ∨ x ∈ as
  | [], _, prev, x, h => by
    cases ‹List α› <;> exact .inl h
  | i :: is, [], prev, x, h => .inl h
  | i :: is, b :: as, prev, x, h => by
    unfold covO at h
    split at h
    · split at h
      · split at h
        · rcases covO_mem is as _ h with e | e
          · cases e; exact .inr (List.mem_cons_self ..)
          · exact .inr (List.mem_cons_of_mem _ e)
        · rcases covO_mem is as _ h with e | e
          · cases e
          · exact .inr (List.mem_cons_of_mem _ e)
      · rcases covO_mem is as _ h with e | e
        · exact .inl e
        · exact .inr (List.mem_cons_of_mem _ e)
    · cases h
theorem zipXC_mem : ∀ {xs : List Operand} {cs : List C} {x : Operand} {c : C}, (x, c) ∈ zipXC xs cs → ∃ i : Nat, xs[i]? = some x ∧ cs[i]? = some c
  | [], _, x, c, h => by simp [zipXC] at h
  | _ :: _, [], x, c, h => by simp [zipXC] at h
  | y :: xs, d :: cs, x, c, h => by
    rcases List.mem_cons.1 (show (x, c) ∈ (y, d) :: zipXC xs cs from h) with e | h
    · cases e; exact ⟨0, rfl, rfl⟩
    · obtain ⟨i, h1, h2⟩ := zipXC_mem h
      exact ⟨i + 1, by simpa using h1, by simpa using h2⟩
theorem zipXC_fst : ∀ {xs : List Operand} {cs : List C}, xs.length = cs.length → (zipXC xs cs).map (·.1) = xs
  | [], [], _ => rfl
  | [], _ :: _, h => by simp at h
  | _ :: _, [], h => by simp at h
  | x :: xs, c :: cs, h => by simp [zipXC, zipXC_fst (xs := xs) (cs := cs) (by simpa using h)]
theorem memK'_iff {κ : Key} : ∀ {ws : List (Key × C)}, memK' κ ws = true ↔ κ ∈ keysOf ws
  | [] => by simp [memK', keysOf]
  | (k, c) :: r => by
    unfold memK'
    show _ ↔ κ ∈ k :: keysOf r
    by_cases e : κ = k
    · simp [e]
    · rw [if_neg e, memK'_iff]; simp [e]
theorem own_cells {p : TypeId × Nat} {v : Value} (h : FreeL w0 E0 g a w β S (partsO p v)) (hp : p.2 ≠ 0) : v.oneCell' = true ∧ v.cells = #[v] := by
  obtain ⟨n, xs, hap⟩ := FreeL.apart (e := p.1) (k := p.2) hp h
  rcases hap.1.2 with ⟨q, _⟩ | ⟨_, _, _, q, _⟩ <;> rw [q] <;> exact ⟨rfl, rfl⟩
theorem bldC_ok (h : Rel Dr w0 E0 S0 N (fun κ => wr κ = true) g a w β S) (hp : PtrOK g) {pl : List (Nat × Nat)} {is : List Nat} {xs : List Operand} {cs : List C} {r : List PV} {us : Array Value}
    (hc : ∀ (i : Nat) x c, xs[i]? = some x → cs[i]? = some c → RepF β S w (a.eval x) c.v ∧ OpndC g x c) (hlen : xs.length = cs.length) (hil : is.length = xs.length) {zs : Array Value}
    (hfill : Instr.fill (fun i => pl[i]?) zs (is.zip (xs.map a.eval)) = some us) (hr : ∀ (i : Nat) u x, us[i]? = some u → r[i]? = some x → RepP S w u x) (hur : us.size = r.length) :
    ∀ (l : List (Nat × TypeId × Nat)) {cw : List (Key × C)}, bldC pl is (zipXC xs cs) r l = some cw → Rel Dr w0 E0 S0 N (fun κ => wr κ = true) (upds g cw) a w β S ∧ PtrOK (upds g cw) ∧ FreeL w0 E0 (upds g cw) a w β S (cutO us l) ∧ ∀ κ, (upds g cw κ).v = (g κ).v
  | [], cw, e => by
    cases e
    exact ⟨h, hp, OwsL.nil, fun κ => rfl⟩
  | (o, e, k) :: l, cw, he => by
    unfold bldC at he
    split at he
    · rename_i cw0 hcw0
      split at he
      · cases he
      · rename_i hno
        have hk : k ≠ 0 := fun e => hno (.inr e)
        obtain ⟨q1, q2, q3, q4⟩ := bldC_ok h hp hc hlen hil hfill hr hur l hcw0
        have nilc : (match r[o]? with | some .nil => some cw0 | _ => none) = some cw → Rel Dr w0 E0 S0 N (fun κ => wr κ = true) (upds g cw) a w β S ∧ PtrOK (upds g cw) ∧ FreeL w0 E0 (upds g cw) a w β S (cutO us ((o, e, k) :: l)) ∧ ∀ κ, (upds g cw κ).v = (g κ).v := fun hn => by
          split at hn
          · rename_i hro
            cases hn
            have hlt := (List.getElem?_eq_some_iff.1 hro).1
            have hu : us[o]? = some us[o] := Array.getElem?_eq_getElem (by omega)
            have hun := rep_nil (hr o _ _ hu hro)
            have hcut : cutO us ((o, e, k) :: l) = (e, k, us[o]) :: cutO us l := by
              show (match us[o]? with | some u => (e, k, u) :: cutO us l | none => cutO us l) = _
              rw [hu]
            rw [hcut]
            refine ⟨q1, q2, OwsL.cons.2 ⟨⟨⟨0, [], ?_, fun b hb => ?_⟩, fun b hb => ?_⟩, q3⟩, q4⟩
            · rw [hun]; exact World.ownsRow_nil _ _ _ _
            · rw [hun] at hb; cases hb
            · rw [hun] at hb; cases hb
          · cases hn
        split at he
        · rename_i x c hcov
          split at he
          · rename_i p kx hown hkx
            split at he
            · rename_i hcond
              obtain ⟨e1, e2, e3⟩ := hcond
              cases he
              obtain ⟨i, hi1, hi2⟩ := zipXC_mem ((covO_mem _ _ _ hcov).resolve_left (by simp))
              obtain ⟨hv, hoc⟩ := hc i x c hi1 hi2
              cases x with
              | tmp t =>
                cases hkx
                have hcg : c = g (.t t) := hoc
                have hnot : Key.t t ∉ keysOf cw0 := fun hm => by rw [memK'_iff.2 hm] at e3; cases e3
                have hκ : upds g cw0 (.t t) = c := by rw [upds_none' hnot, hcg]
                have ho' : (upds g cw0 (.t t)).own = some p := by rw [hκ]; exact hown
                have h1 := q1.drop (.t t) (fun i => by simp)
                obtain ⟨u, k1, k2⟩ := q1.dropAdd (.t t) ho' q3
                have hu : u = a.eval (.tmp t) := by cases k1; rfl
                subst hu
                obtain ⟨u', k1', k2'⟩ := q1.dropF (.t t) ho'
                have hu' : u' = a.eval (.tmp t) := by cases k1'; rfl
                subst hu'
                have hp2 : p.2 ≠ 0 := by rw [e2]; exact hk
                obtain ⟨_, hcl⟩ := own_cells k2' hp2
                have hat := fill_at (fun xc : Operand × C => a.eval xc.1) is (zipXC xs cs) none (by
                  have := congrArg List.length (zipXC_fst hlen)
                  rw [List.length_map] at this
                  omega) (by
                  have e : (zipXC xs cs).map (fun xc : Operand × C => a.eval xc.1) = xs.map a.eval := by
                    rw [← zipXC_fst hlen, List.map_map]
                    rw [zipXC_fst hlen]
                    rfl
                  rw [e]
                  exact hfill) hcov (fun e => by cases e)
                have huo : us[o]? = some (a.eval (.tmp t)) := by
                  rw [hat]
                  show (a.eval (.tmp t)).cells[0]? = _
                  rw [hcl]
                  rfl
                have hcut : cutO us ((o, e, k) :: l) = (e, k, a.eval (.tmp t)) :: cutO us l := by
                  show (match us[o]? with | some u => (e, k, u) :: cutO us l | none => cutO us l) = _
                  rw [huo]
                have hpp : partsO p (a.eval (.tmp t)) = [(e, k, a.eval (.tmp t))] := by
                  obtain ⟨p1, p2⟩ := p
                  simp only at e1 e2
                  subst e1 e2
                  exact partsO_one hk _
                rw [hpp] at k2
                have eg : upds g (cw0 ++ [(Key.t t, (⟨c.v, none, c.frm⟩ : C))]) = upd (upds g cw0) (.t t) { upds g cw0 (.t t) with own := none } := by
                  rw [upds_append, hκ]
                  rfl
                rw [eg, hcut]
                refine ⟨h1, ptrOK_upd q2 (fun i => by simp) (fun j e => q2 _ _ e), k2, fun κ => ?_⟩
                by_cases e2 : κ = .t t
                · subst e2; rw [upd_same]; exact q4 _
                · rw [upd_ne _ _ e2]; exact q4 _
              | _ => cases hkx
            · cases he
          · exact nilc he
        · exact nilc he
    · cases he
theorem opnds_evC {K : List Key → List (Key × C) → Prop} (hK : ∀ k r v, K r v ↔ K (k :: r) v) (h : Rel Dr w0 E0 S0 N (fun κ => wr κ = true) g a w β S) : ∀ {xs : List Operand} {f : List C → T}, vcT G P (opnds xs f) g wr K →
    ∃ cs, vcT G P (f cs) g wr K ∧ cs.length = xs.length ∧ ∀ (i : Nat) x c, xs[i]? = some x → cs[i]? = some c → RepF β S w (a.eval x) c.v ∧ OpndC g x c
  | [], f, he => ⟨[], he, rfl, fun i x c hx => by simp at hx⟩
  | x :: xs, f, he => by
    obtain ⟨c, he1, h1, h1'⟩ := opnd_ev hK h he
    obtain ⟨cs, he2, h2, h3⟩ := opnds_evC hK h (xs := xs) (f := fun cs => f (c :: cs)) he1
    refine ⟨c :: cs, he2, by simp [h2], fun i y d hy hd => ?_⟩
    cases i with
    | zero => simp at hy hd; subst hy; subst hd; exact ⟨h1, h1'⟩
    | succ i => exact h3 i y d (by simpa using hy) (by simpa using hd)
theorem build_ok (hτ : TauOK P τ) (t : TypeId) (parts : Array (Nat × Operand)) (ho : o.op = .build t parts) (h : Rel Dr w0 E0 S0 N (fun κ => wr κ = true) g a w β S) (hp : PtrOK g) (hd : dstOK N o = true) (hN : Next Dr w0 E0 S0 N wr g ws K)
    (he : vcT G P (opT P τ o) g wr (fun _ v => v = ws)) : o.wp P a w K Q := by
  simp only [opT, ho] at he
  obtain ⟨cs, he, hl, hcC⟩ := opnds_evC hKt h he
  have hc : ∀ (i : Nat) x c, (parts.toList.map (·.2))[i]? = some x → cs[i]? = some c → RepF β S w (a.eval x) c.v := fun i x c h1 h2 => (hcC i x c h1 h2).1
  unfold tBuild at he
  split at he
  · rename_i ti ps hti hps
    obtain ⟨z1, z2⟩ := parts_rel h hl hc hps
    have hu := hτ.u _ _ hti
    split at he
    · rename_i fs hfs
      rw [hfs] at hu
      split at he
      · rename_i pl hpl
        split at he
        · rename_i r hr
          obtain ⟨us, r1, r2⟩ := fill_cells (S := S) (w := w) (place := fun i => pl.toArray[i]?) (fun i => by simp) _ _ (zero_cells hτ hti) hr z1 z2
          have r1' : Instr.fill (fun x => pl[x]?) ti.zero.cells (List.map (fun x => (x.fst, a.eval x.snd)) parts.toList) = some us := by
            rw [← r1]
            congr 1
            · funext i; simp
            · simp
          have hrun : (execOp a.eval o).run P w = .ok (.value (.agg us)) w := by
            have hr1 := run_places (P := P) w _ _ (places_run hτ fs.toList hpl)
            simp [execOp, ho, Instr.build, run_zeroD hτ hti, run_underlying hu, Array.mapM_eq_mapM_toList, hr1]
            rw [r1']
            rfl
          split at he
          · rename_i d code cw hdst hcw
            have hcoll : bldC pl (parts.toList.map (·.1)) (zipXC (parts.toList.map (·.2)) cs) r (decO 16 code) = some cw := by
              unfold bldW at hcw
              split at hcw
              · cases hcw
              · split at hcw
                · rename_i hh; cases hcw; exact hh
                · cases hcw
            obtain ⟨y1, y2, y3, y4⟩ := bldC_ok h hp hcC hl.symm (by simp) (us := us) (r := r) (by
              rw [← r1']
              congr 1
              rw [List.zip_eq_zipWith, List.map_map, List.zipWith_map, List.zipWith_self]
              rfl) r2.2.2 r2.1 _ hcoll
            have hws : cw ++ [(Key.t d, (⟨.pv (.agg r), some (code, 0), none⟩ : C))] = ws := he
            unfold Oper.wp
            rw [hrun]
            show K (a.put o.dst _) w
            rw [hdst]
            have hdN : d < N := by unfold dstOK at hd; rw [hdst] at hd; simpa [Nat.blt_eq] using hd
            have hparts : partsO (code, 0) (.agg us) = cutO us (decO 16 code) := if_pos rfl
            rw [← hparts] at y3
            have h5 := y1.put (c := ⟨.pv (.agg r), some (code, 0), none⟩) hdN (RepP.agg us r r2.1 r2.2.1 r2.2.2) (y3.ownV _) (fun κ' e => by cases e) (wr' := WrP wr ws) (fun κ hk => .inl hk) (.inr (by rw [← hws]; simp [keysOf, keysOf_append]))
            have h6 := ptrOK_upd (κ := .t d) (c := ⟨.pv (.agg r), some (code, 0), none⟩) y2 (fun i => by simp) (fun i e => by simp [FV.refs] at e)
            have hup : upds g ws = upd (upds g cw) (.t d) ⟨.pv (.agg r), some (code, 0), none⟩ := by rw [← hws, upds_append]; rfl
            rw [← hup] at h5 h6
            exact hN _ _ β S h5 h6
          · exact finWP hN hd hrun h hp (.agg us r r2.1 r2.2.1 r2.2.2) he
        · exact he.elim
      · exact he.elim
    · rename_i n e hfs
      rw [hfs] at hu
      split at he
      · rename_i te hte
        split at he
        · rename_i r hr
          obtain ⟨us, r1, r2⟩ := fill_cells (S := S) (w := w) (place := fun i => some (i * te.size, te.size)) (fun i => rfl) _ _ (zero_cells hτ hti) hr z1 z2
          exact finWP hN hd (v := .agg us) (by
            simp only [execOp, ho, Instr.build, Sem.run_bind, run_zeroD hτ hti, run_underlying hu, run_sizeD hτ hte, Result.andThen_ok]
            rw [show (Array.map (fun x : Nat × Operand => (x.fst, a.eval x.snd)) parts) = (parts.map fun (i, x) => (i, a.eval x)) from rfl, r1]
            rfl) h hp (.agg us r r2.1 r2.2.1 r2.2.2) he
        · exact he.elim
      · exact he.elim
    · exact he.elim
  · exact he.elim
end
end
end Go.Proofs.YtbjfmkmaghapgaaGreatDoor.B
