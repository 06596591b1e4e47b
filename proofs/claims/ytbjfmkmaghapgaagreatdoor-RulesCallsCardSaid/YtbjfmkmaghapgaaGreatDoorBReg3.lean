/-
The logic of pure values, continued: a statement. Condition: none.
-/
import Derived.Test.YtbjfmkmaghapgaaGreatDoorBReg2
set_option linter.unusedVariables false
set_option linter.unusedSimpArgs false
set_option linter.unnecessarySimpa false
namespace Go.Proofs.YtbjfmkmaghapgaaGreatDoor.B
open Go.RowKit

theorem vcT_mono {G : World → Prop} {P : Program} {g : Key → C} {wr : Key → Bool} : ∀ (t : T) {K K' : List Key → List (Key × C) → Prop}, (∀ r v, K r v → K' r v) → vcT G P t g wr K → vcT G P t g wr K'
  | .ret ws, K, K', hk, h => hk _ _ h
  | .fail, K, K', hk, h => h
  | .get k f, K, K', hk, h => vcT_mono (f (g k)) (fun r v => hk _ _) h
  | .chk k t, K, K', hk, h => ⟨h.1, vcT_mono t (fun r v => hk _ _) h.2⟩
  | .row xs i f, K, K', hk, h => ⟨h.1, fun r e => vcT_mono (f r) hk (h.2 r e)⟩
  | .byte s i f, K, K', hk, h => ⟨h.1, fun r e => vcT_mono (f r) hk (h.2 r e)⟩
  | .ival n f, K, K', hk, h => fun m e => vcT_mono (f m) hk (h m e)
  | .bval n f, K, K', hk, h => fun m e => vcT_mono (f m) hk (h m e)
  | .sval n f, K, K', hk, h => fun m e => vcT_mono (f m) hk (h m e)
  | .lval n f, K, K', hk, h => fun m e => vcT_mono (f m) hk (h m e)
  | .req p t, K, K', hk, h => ⟨h.1, vcT_mono t hk h.2⟩
  | .ite b x y, K, K', hk, h => by
    by_cases hb : b = true
    · rw [vcT, if_pos hb] at h ⊢
      exact vcT_mono x hk h
    · rw [vcT, if_neg hb] at h ⊢
      exact vcT_mono y hk h
  | .call fn args f, K, K', hk, ⟨res, ow, h0, h2⟩ => ⟨res, ow, h0, vcT_mono (f res ow) hk h2⟩
  | .know b o f, K, K', hk, ⟨v, h0, h1, h2⟩ => ⟨v, h0, h1, vcT_mono (f v) hk h2⟩
  | .look es key f, K, K', hk, ⟨r, h0, h2⟩ => ⟨r, h0, vcT_mono (f r) hk h2⟩
  | .one es b f, K, K', hk, ⟨r, h0, h2⟩ => ⟨r, h0, vcT_mono (f r) hk h2⟩
  | .hcall fn f, K, K', hk, ⟨D, h0, h2⟩ => ⟨D, h0, vcT_mono (f D) hk h2⟩
  | .ocall fn args f, K, K', hk, ⟨oin, res, ow, h0, h2⟩ => ⟨oin, res, ow, h0, vcT_mono (f oin res ow) hk h2⟩
  | .alt x y, K, K', hk, h => h.elim (fun h => .inl (vcT_mono x hk h)) (fun h => .inr (vcT_mono y hk h))
  | .mval n f, K, K', hk, h => fun m e => vcT_mono (f m) hk (h m e)
  | .nval n f, K, K', hk, h => fun m e => vcT_mono (f m) hk (h m e)
abbrev Eff := List Key × List (Key × C)
def wrD (E : List Eff) (D : Nat → Bool) (κ : Key) : Prop := ∃ q e', D q = true ∧ E[q]? = some e' ∧ κ ∈ keysOf e'.2
def bare (e : Eff) : List Key × List Key := (e.1, keysOf e.2)
section
variable {G : World → Prop} {P : Program} {τ : Tau} {Dr : Prop} {w0 : World} {E0 : Nat → Nat → Prop} {S0 : Nat → Nat → Prop} {N : Nat}
open Classical in
def Chain (G : World → Prop) (P : Program) (τ : Tau) (N : Nat) (ops : List Oper) (g0 : Key → C) (E : List Eff) : Prop :=
  E.length = ops.length ∧ ∀ (i : Nat) o e, ops[i]? = some o → E[i]? = some e → dstOK N o = true ∧
    vcT G P (gT P τ ops o) (F (fun q => decide (q < i)) 0 (E.map (·.2)) g0) (fun κ => memK κ [] || decide (∃ q e', q < i ∧ E[q]? = some e' ∧ κ ∈ keysOf e'.2)) (fun r v => r = e.1 ∧ v = e.2)
/-- Operations apart. -/
def Free (E : List Eff) (D : Nat → Bool) (j : Nat) (e : Eff) : Prop :=
  (∀ i e', i < j → D i = false → E[i]? = some e' → conflict (bare e') (bare e) = false) ∧ ∀ i e', j < i → D i = true → E[i]? = some e' → conflict (bare e) (bare e') = false
open Classical in
theorem step_ok {ops : List Oper} {g0 : Key → C} {E : List Eff} (hC : Chain G P τ N ops g0 E) {D : Nat → Bool} {j : Nat} {o : Oper} {e : Eff} (ho : ops[j]? = some o) (he : E[j]? = some e) (hDj : D j = false) (hF : Free E D j e)
    {a : Act} {w : World} {β : Nat → Nat} {S : Nat → Nat → Prop} {K : Act → World → Prop} {Q : Exit → Act → World → Prop} (hG : GOK Dr E0 w0 G) (hτ : TauOK P τ)
    (h : Rel Dr w0 E0 S0 N (wrD E D) (F D 0 (E.map (·.2)) g0) a w β S) (hp : PtrOK (F D 0 (E.map (·.2)) g0))
    (hN : ∀ a' w' β' S', Rel Dr w0 E0 S0 N (wrD E (fun i => D i || decide (i = j))) (F (fun i => D i || decide (i = j)) 0 (E.map (·.2)) g0) a' w' β' S' → PtrOK (F (fun i => D i || decide (i = j)) 0 (E.map (·.2)) g0) → K a' w') : wpOp P ops.toArray Q j K a w := by
  obtain ⟨hd, hev⟩ := hC.2 j o e ho he
  have hmap : ∀ (i : Nat) ws, (E.map (·.2))[i]? = some ws → ∃ e', E[i]? = some e' ∧ e'.2 = ws := fun i ws hi => by
    rw [List.getElem?_map] at hi
    cases hq : E[i]? with
    | none => rw [hq] at hi; cases hi
    | some e' => rw [hq] at hi; simp at hi; exact ⟨e', rfl, hi⟩
  have nconf : ∀ {x y : List Key × List Key}, conflict x y = false → (∀ k, k ∈ x.2 → k ∉ y.1) ∧ (∀ k, k ∈ x.2 → k ∉ y.2) ∧ (∀ k, k ∈ y.2 → k ∉ x.1) := fun hc => by
    simp only [conflict, Bool.or_eq_false_iff] at hc
    exact ⟨meet_false hc.1.1, meet_false hc.1.2, meet_false hc.2⟩
  have hrd : ∀ k, k ∈ e.1 → F D 0 (E.map (·.2)) g0 k = F (fun q => decide (q < j)) 0 (E.map (·.2)) g0 k := fun k hk => by
    refine F_agree _ 0 (fun i ws hi hkw => ?_) rfl
    obtain ⟨e', hi', rfl⟩ := hmap i ws hi
    rw [Nat.zero_add]
    rcases Nat.lt_trichotomy i j with hlt | rfl | hgt
    · cases hDi : D i with
      | true => simp [hlt]
      | false => exact absurd hk ((nconf (hF.1 i e' hlt hDi hi')).1 k hkw)
    · rw [hDj]; simp
    · cases hDi : D i with
      | false => simp; omega
      | true => exact absurd hk ((nconf (hF.2 i e' hgt hDi hi')).2.2 k hkw)
  have hwr : ∀ k, k ∈ e.1 → (memK k [] || decide (∃ q e', q < j ∧ E[q]? = some e' ∧ k ∈ keysOf e'.2)) = false → decide (wrD E D k) = false := fun k hk hf => by
    have hf' : ¬ ∃ q e', q < j ∧ E[q]? = some e' ∧ k ∈ keysOf e'.2 := by simpa [memK] using hf
    refine decide_eq_false (fun ⟨q, e', hq, hq1, hq2⟩ => ?_)
    rcases Nat.lt_trichotomy q j with hlt | rfl | hgt
    · exact hf' ⟨q, e', hlt, hq1, hq2⟩
    · rw [hDj] at hq; cases hq
    · exact (nconf (hF.2 q e' hgt hq hq1)).2.2 k hq2 hk
  have hev' := vcT_local (g' := F D 0 (E.map (·.2)) g0) (wr' := fun κ => decide (wrD E D κ)) _ (rs0 := []) (show vcT G P _ _ _ (fun r v => [] ++ r = e.1 ∧ v = e.2) from hev) hrd hwr
  have hev2 : vcT G P (gT P τ ops o) (F D 0 (E.map (·.2)) g0) (fun κ => decide (wrD E D κ)) (fun _ v => v = e.2) := vcT_mono _ (fun r v hh => hh.2) hev'
  have heq : upds (F D 0 (E.map (·.2)) g0) e.2 = F (fun i => D i || decide (i = j)) 0 (E.map (·.2)) g0 := by
    funext k
    refine (F_more (D := D) (k := k) (j := j) (wj := e.2) (E.map (·.2)) 0 (Nat.zero_le _) (by rw [Nat.sub_zero, List.getElem?_map, he]; rfl) hDj (fun hk i ws hi hlt hDi => ?_)).symm
    rw [Nat.zero_add] at hlt hDi
    obtain ⟨e', hi', rfl⟩ := hmap i ws hi
    exact (nconf (hF.2 i e' hlt hDi hi')).2.1 k hk
  refine gop_ok hG hτ ho (h.wider (fun κ hκ => by simpa using hκ)) hp hd ?_ hev2
  intro a' w' β' S' hr hpp
  rw [heq] at hr hpp
  refine hN a' w' β' S' (hr.wider (fun κ hκ => ?_)) hpp
  rcases hκ with hκ | hκ
  · have hκ' : wrD E D κ := of_decide_eq_true hκ
    obtain ⟨q, e', k1, k2, k3⟩ := hκ'
    exact ⟨q, e', by simp [k1], k2, k3⟩
  · exact ⟨j, e, by simp, he, hκ⟩
/-! ### in the text's order -/
theorem seq_ok {ops : List Oper} {g0 : Key → C} {E : List Eff} (hC : Chain G P τ N ops g0 E) {Q : Exit → Act → World → Prop} (hG : GOK Dr E0 w0 G) (hτ : TauOK P τ)
    (hK : ∀ a' w' β' S', Rel Dr w0 E0 S0 N (wrD E (fun i => decide (i < ops.length))) (F (fun i => decide (i < ops.length)) 0 (E.map (·.2)) g0) a' w' β' S' → PtrOK (F (fun i => decide (i < ops.length)) 0 (E.map (·.2)) g0) → Q .normal a' w') :
    ∀ (m i : Nat), i + m = ops.length → ∀ {a : Act} {w : World} {β : Nat → Nat} {S : Nat → Nat → Prop}, Rel Dr w0 E0 S0 N (wrD E (fun q => decide (q < i))) (F (fun q => decide (q < i)) 0 (E.map (·.2)) g0) a w β S → PtrOK (F (fun q => decide (q < i)) 0 (E.map (·.2)) g0) →
      wpOps P ops.toArray Q (List.range' i m) a w
  | 0, i, him, a, w, β, S, h, hp => by
    have : i = ops.length := by omega
    subst this
    exact hK a w β S h hp
  | m + 1, i, him, a, w, β, S, h, hp => by
    rw [List.range'_succ, wpOps_cons]
    have hi : i < ops.length := by omega
    have hiE : i < E.length := by rw [hC.1]; exact hi
    have hD : (fun q => decide (q < i) || decide (q = i)) = fun q => decide (q < i + 1) := by
      funext q
      rw [Bool.eq_iff_iff]
      simp
      omega
    refine step_ok hC (j := i) (D := fun q => decide (q < i)) (List.getElem?_eq_getElem hi) (List.getElem?_eq_getElem hiE) (by simp) ⟨fun q e' hq hq' => by simp at hq'; omega, fun q e' hq hq' => by simp at hq'; omega⟩ hG hτ h hp ?_
    intro a' w' β' S' hr hpp
    rw [hD] at hr hpp
    exact seq_ok hC hG hτ hK m (i + 1) (by omega) hr hpp
/-! ### in any order -/
theorem union_mem {x : Nat} : ∀ {a b : List Nat}, x ∈ union a b → x ∈ a ∨ x ∈ b
  | [], b, h => .inr h
  | y :: a, b, h => by
    unfold union at h
    split at h
    · exact (union_mem h).imp (List.mem_cons_of_mem _) id
    · rcases List.mem_cons.1 h with rfl | h
      · exact .inl (List.mem_cons_self ..)
      · exact (union_mem h).imp (List.mem_cons_of_mem _) id
theorem befFrom_mem {x : Nat} {acc : List (List Nat)} : ∀ {l : List Nat}, x ∈ befFrom acc l → x ∈ l ∨ ∃ e, e ∈ l ∧ x ∈ nthL acc e
  | [], h => by simp [befFrom] at h
  | i :: r, h => by
    unfold befFrom at h
    rcases union_mem h with h | h
    · simp at h; subst h; exact .inl (List.mem_cons_self ..)
    · rcases union_mem h with h | h
      · exact .inr ⟨i, List.mem_cons_self .., h⟩
      · rcases befFrom_mem h with h | ⟨e, h1, h2⟩
        · exact .inl (List.mem_cons_of_mem _ h)
        · exact .inr ⟨e, List.mem_cons_of_mem _ h1, h2⟩
theorem nthL_append {acc : List (List Nat)} {l : List Nat} : ∀ (i : Nat), nthL (acc ++ [l]) i = if i < acc.length then nthL acc i else if i = acc.length then l else [] := by
  induction acc with
  | nil => intro i; cases i <;> simp [nthL]
  | cons c acc ih =>
    intro i
    cases i with
    | zero => simp [nthL]
    | succ i =>
      have := ih i
      simpa [nthL] using this
theorem nthL_out {acc : List (List Nat)} : ∀ (i : Nat), acc.length ≤ i → nthL acc i = [] := by
  induction acc with
  | nil => intro i _; rfl
  | cons c acc ih =>
    intro i h
    cases i with
    | zero => simp at h
    | succ i => exact ih i (by simpa using h)
/-- What must go before lies in whatever is closed. -/
theorem befs_closed {ops : List Oper} {D : Nat → Prop} (hcl : ∀ i o, D i → ops[i]? = some o → ∀ x, x ∈ directOf o → D x) : ∀ (rest : List Oper) (m : Nat) (acc : List (List Nat)), acc.length = m → (∀ i, rest[i]? = ops[m + i]?) →
    (∀ (i : Nat) o, i < m → ops[i]? = some o → (∀ x, x ∈ directOf o → D x) → ∀ x, x ∈ nthL acc i → D x) →
    ∀ (i : Nat) o, ops[i]? = some o → (∀ x, x ∈ directOf o → D x) → ∀ x, x ∈ nthL (befs acc rest) i → D x
  | [], m, acc, hl, hr, ih, i, o, ho, hd, x, hx => by
    by_cases hi : i < m
    · exact ih i o hi ho hd x hx
    · exfalso
      have : nthL (befs acc []) i = [] := nthL_out (acc := acc) i (by omega)
      rw [this] at hx
      simp at hx
  | o' :: rest, m, acc, hl, hr, ih, i, o, ho, hd, x, hx => by
    refine befs_closed hcl rest (m + 1) (acc ++ [befFrom acc (directOf o')]) (by simp [hl]) (fun i => by rw [show m + 1 + i = m + (i + 1) from by omega, ← hr (i + 1)]; simp) (fun i o hi ho hd x hx => ?_) i o ho hd x hx
    rw [nthL_append] at hx
    by_cases hlt : i < acc.length
    · rw [if_pos hlt] at hx
      exact ih i o (by omega) ho hd x hx
    · rw [if_neg hlt, if_pos (by omega)] at hx
      have hi' : i = m := by omega
      subst hi'
      have h0 : ops[i]? = some o' := by
        have := hr 0
        rw [Nat.add_zero] at this
        rw [← this]; rfl
      rw [h0] at ho
      cases ho
      rcases befFrom_mem hx with hx | ⟨e, he1, he2⟩
      · exact hd x hx
      · have hDe := hd e he1
        by_cases hem : e < acc.length
        · have hem' : e < ops.length := by
            have h1 : i < ops.length := (List.getElem?_eq_some_iff.1 h0).1
            omega
          exact ih e _ (by omega) (List.getElem?_eq_getElem hem') (hcl e _ hDe (List.getElem?_eq_getElem hem')) x he2
        · rw [nthL_out e (by omega)] at he2
          simp at he2
theorem chkRow_spec {bf : List Nat} {y : List Key × List Key} : ∀ (l : Trace) (i m : Nat) (x : List Key × List Key), chkRow bf y i l = true → l[m]? = some x → conflict x y = true → i + m ∈ bf
  | [], i, m, x, _, h, _ => by simp at h
  | z :: l, i, m, x, hc, h, hx => by
    simp only [chkRow, Bool.and_eq_true, Bool.or_eq_true, Bool.not_eq_true', memN_iff] at hc
    cases m with
    | zero =>
      simp at h
      subst h
      rcases hc.1 with q | q
      · rw [q] at hx; cases hx
      · exact q
    | succ m =>
      have := chkRow_spec l (i + 1) m x hc.2 (by simpa using h) hx
      rwa [show i + 1 + m = i + (m + 1) from by omega] at this
theorem chkAll_spec {bs : List (List Nat)} {all : Trace} : ∀ (l : Trace) (j m : Nat) (y : List Key × List Key), chkAll bs all j l = true → l[m]? = some y → chkRow (nthL bs (j + m)) y 0 (all.take (j + m)) = true
  | [], j, m, y, _, h => by simp at h
  | z :: l, j, m, y, hc, h => by
    simp only [chkAll, Bool.and_eq_true] at hc
    cases m with
    | zero => simp at h; subst h; exact hc.1
    | succ m =>
      have := chkAll_spec l (j + 1) m y hc.2 (by simpa using h)
      rwa [show j + 1 + m = j + (m + 1) from by omega] at this
theorem backOK_spec : ∀ (l : List Oper) (i m : Nat) (o : Oper), backOK i l = true → l[m]? = some o → ∀ x, x ∈ directOf o → x < i + m
  | [], i, m, o, _, h => by simp at h
  | z :: l, i, m, o, hc, h => by
    simp only [backOK, Bool.and_eq_true, List.all_eq_true] at hc
    cases m with
    | zero =>
      simp at h
      subst h
      intro x hx
      simpa [Nat.blt_eq] using hc.1 x hx
    | succ m =>
      intro x hx
      have := backOK_spec l (i + 1) m o hc.2 (by simpa using h) x hx
      omega
theorem direct_iff {o : Oper} {x : Nat} : x ∈ directOf o ↔ ∃ e, e ∈ o.after ∧ Region.binds .any e = true ∧ e.on = x := by
  unfold directOf
  simp only [List.mem_map, List.mem_filter, Array.mem_toList_iff]
  constructor
  · rintro ⟨e, ⟨h1, h2⟩, h3⟩; exact ⟨e, h1, h2, h3⟩
  · rintro ⟨e, h1, h2, h3⟩; exact ⟨e, ⟨h1, h2⟩, h3⟩
theorem any_ok {ops : List Oper} {g0 : Key → C} {E : List Eff} (hC : Chain G P τ N ops g0 E) {Q : Exit → Act → World → Prop} (hG : GOK Dr E0 w0 G) (hτ : TauOK P τ)
    (hback : backOK 0 ops = true) (hchk : chkAll (befs [] ops) (E.map bare) 0 (E.map bare) = true)
    (hK : ∀ a' w' β' S', Rel Dr w0 E0 S0 N (wrD E (fun i => decide (i < ops.length))) (F (fun i => decide (i < ops.length)) 0 (E.map (·.2)) g0) a' w' β' S' → PtrOK (F (fun i => decide (i < ops.length)) 0 (E.map (·.2)) g0) → Q .normal a' w') :
    ∀ (fuel : Nat) (listed : Array Bool) {a : Act} {w : World} {β : Nat → Nat} {S : Nat → Nat → Prop}, listed.size = ops.length → ((List.range ops.length).filter fun i => !listed.getD i true).length = fuel →
      (∀ i o, listed.getD i false = true → ops[i]? = some o → ∀ x, x ∈ directOf o → listed.getD x false = true) →
      Rel Dr w0 E0 S0 N (wrD E (fun i => listed.getD i false)) (F (fun i => listed.getD i false) 0 (E.map (·.2)) g0) a w β S → PtrOK (F (fun i => listed.getD i false) 0 (E.map (·.2)) g0) → wpAny P .any ops.toArray Q fuel listed a w := by
  have hget : ∀ (listed : Array Bool), listed.size = ops.length → ∀ i, i < ops.length → listed.getD i true = listed.getD i false := fun listed hl i hi => by
    rw [Array.getD_eq_getD_getElem?, Array.getD_eq_getD_getElem?, Array.getElem?_eq_getElem (by omega)]
    rfl
  have hout : ∀ (listed : Array Bool), listed.size = ops.length → ∀ i, listed.getD i false = true → i < ops.length := fun listed hl i hi => by
    rcases Nat.lt_or_ge i ops.length with h | h
    · exact h
    · rw [Array.getD_eq_getD_getElem?, Array.getElem?_eq_none (by omega)] at hi; cases hi
  have hready : ∀ (listed : Array Bool) i, i ∈ Region.ready .any ops.toArray listed ↔ i < ops.length ∧ listed.getD i true = false ∧ ∀ o, ops[i]? = some o → ∀ x, x ∈ directOf o → listed.getD x false = true := fun listed i => by
    unfold Region.ready
    simp only [List.mem_filter, List.mem_range, List.size_toArray, Bool.and_eq_true, Bool.not_eq_true']
    constructor
    · rintro ⟨h1, h2, h3⟩
      refine ⟨h1, h2, fun o ho x hx => ?_⟩
      have ho' : ops.toArray[i]? = some o := by simpa using ho
      rw [ho'] at h3
      simp only [Option.map_some, Option.getD_some, Array.all_eq_true_iff_forall_mem, Bool.or_eq_true, Bool.not_eq_true'] at h3
      obtain ⟨e, h4, h5, h6⟩ := direct_iff.1 hx
      subst h6
      exact (h3 e h4).resolve_left (by rw [h5]; simp)
    · rintro ⟨h1, h2, h3⟩
      refine ⟨h1, h2, ?_⟩
      have ho : ops[i]? = some ops[i] := List.getElem?_eq_getElem h1
      have ho' : ops.toArray[i]? = some ops[i] := by simpa using ho
      rw [ho']
      simp only [Option.map_some, Option.getD_some, Array.all_eq_true_iff_forall_mem, Bool.or_eq_true, Bool.not_eq_true']
      intro e he
      by_cases hb : Region.binds .any e = true
      · exact .inr (h3 _ ho e.on (direct_iff.2 ⟨e, he, hb, rfl⟩))
      · exact .inl (by simpa using hb)
  -- what stands when nothing is left
  have hdone : ∀ (listed : Array Bool) {a : Act} {w : World} {β : Nat → Nat} {S : Nat → Nat → Prop}, listed.size = ops.length → Region.ready .any ops.toArray listed = [] →
      Rel Dr w0 E0 S0 N (wrD E (fun i => listed.getD i false)) (F (fun i => listed.getD i false) 0 (E.map (·.2)) g0) a w β S → PtrOK (F (fun i => listed.getD i false) 0 (E.map (·.2)) g0) → Q .normal a w := by
    intro listed a w β S hl hr h hp
    have hall : ∀ i, i < ops.length → listed.getD i false = true := by
      intro i
      induction i using Nat.strongRecOn with
      | _ i ih =>
        intro hi
        cases hq : listed.getD i false with
        | true => rfl
        | false =>
          exfalso
          have : i ∈ Region.ready .any ops.toArray listed := (hready listed i).2 ⟨hi, by rw [hget listed hl i hi]; exact hq, fun o ho x hx => by
            have hlt := backOK_spec ops 0 i o hback ho x hx
            exact ih x (by omega) (by omega)⟩
          rw [hr] at this
          simp at this
    have hD : (fun i => listed.getD i false) = fun i => decide (i < ops.length) := by
      funext i
      by_cases hi : i < ops.length
      · rw [hall i hi]; simp [hi]
      · cases hq : listed.getD i false with
        | true => exact absurd (hout listed hl i hq) hi
        | false => simp; omega
    rw [hD] at h hp
    exact hK a w β S h hp
  intro fuel
  induction fuel with
  | zero =>
    intro listed a w β S hl hcnt hcl h hp
    have hr : Region.ready .any ops.toArray listed = [] := by
      refine List.eq_nil_iff_forall_not_mem.2 (fun i hi => ?_)
      obtain ⟨h1, h2, _⟩ := (hready listed i).1 hi
      have : i ∈ (List.range ops.length).filter fun i => !listed.getD i true := by
        rw [List.mem_filter]
        exact ⟨List.mem_range.2 h1, by rw [h2]; rfl⟩
      rw [List.eq_nil_of_length_eq_zero hcnt] at this
      simp at this
    exact ⟨hr, hdone listed hl hr h hp⟩
  | succ fuel ih =>
    intro listed a w β S hl hcnt hcl h hp
    refine ⟨fun hr => hdone listed hl hr h hp, fun j hj => ?_⟩
    obtain ⟨hj1, hj2, hj3⟩ := (hready listed j).1 hj
    have hjE : j < E.length := by rw [hC.1]; exact hj1
    have hDj : listed.getD j false = false := by rw [← hget listed hl j hj1]; exact hj2
    have ho := List.getElem?_eq_getElem hj1
    have hE := List.getElem?_eq_getElem hjE
    have hbef : ∀ (i : Nat) o, ops[i]? = some o → (∀ x, x ∈ directOf o → listed.getD x false = true) → ∀ x, x ∈ nthL (befs [] ops) i → listed.getD x false = true :=
      befs_closed (D := fun x => listed.getD x false = true) (fun i o hi ho x hx => hcl i o hi ho x hx) ops 0 [] rfl (fun i => by simp) (fun i o hi => absurd hi (by omega))
    have hconf : ∀ (i m : Nat) (x y : Eff), E[i]? = some x → E[m]? = some y → i < m → conflict (bare x) (bare y) = true → i ∈ nthL (befs [] ops) m := fun i m x y hx hy hlt hc => by
      have h1 := chkAll_spec (E.map bare) 0 m (bare y) hchk (by rw [List.getElem?_map, hy]; rfl)
      rw [Nat.zero_add] at h1
      have := chkRow_spec _ 0 i (bare x) h1 (by rw [List.getElem?_take, if_pos hlt, List.getElem?_map, hx]; rfl) hc
      rwa [Nat.zero_add] at this
    have hfree : Free E (fun i => listed.getD i false) j E[j] := by
      refine ⟨fun i e' hlt hDi he' => ?_, fun i e' hlt hDi he' => ?_⟩
      · cases hc : conflict (bare e') (bare E[j]) with
        | false => rfl
        | true =>
          have := hbef j _ ho (hj3 _ ho) i (hconf i j e' _ he' hE hlt hc)
          exact absurd this (by rw [show listed.getD i false = false from hDi]; simp)
      · cases hc : conflict (bare E[j]) (bare e') with
        | false => rfl
        | true =>
          have hi1 : i < ops.length := hout listed hl i hDi
          have hoi := List.getElem?_eq_getElem hi1
          have := hbef i _ hoi (hcl i _ hDi hoi) j (hconf j i _ e' hE he' hlt hc)
          exact absurd this (by rw [hDj]; simp)
    have hsetD : (fun i => listed.getD i false || decide (i = j)) = fun i => (listed.setIfInBounds j true).getD i false := by
      funext i
      rw [Array.getD_eq_getD_getElem?, Array.getD_eq_getD_getElem?, Array.getElem?_setIfInBounds]
      by_cases e : j = i
      · subst e
        rw [if_pos rfl, if_pos (by omega)]
        simp
      · rw [if_neg e]
        have : decide (i = j) = false := by simp; omega
        rw [this, Bool.or_false]
    refine step_ok hC (j := j) (D := fun i => listed.getD i false) ho hE hDj hfree hG hτ h hp ?_
    intro a' w' β' S' hr' hp'
    rw [hsetD] at hr' hp'
    have hD' : ∀ i, (listed.setIfInBounds j true).getD i false = (listed.getD i false || decide (i = j)) := fun i => (congrFun hsetD i).symm
    refine ih _ (by simp [hl]) ?_ (fun i o hi ho' x hx => ?_) hr' hp'
    · -- one fewer is left
      have hd : ∀ i, i < ops.length → (!(listed.setIfInBounds j true).getD i true) = ((!listed.getD i true) && !decide (i = j)) := fun i hi => by
        rw [hget _ (by simp [hl]) i hi, hD', hget listed hl i hi]
        cases listed.getD i false <;> simp
      have e1 : ((List.range ops.length).filter fun i => !(listed.setIfInBounds j true).getD i true) = ((List.range ops.length).filter fun i => !listed.getD i true).filter fun i => !decide (i = j) := by
        rw [List.filter_filter]
        refine List.filter_congr (fun i hi => ?_)
        rw [hd i (List.mem_range.1 hi), Bool.and_comm]
      rw [e1]
      have hmem : j ∈ (List.range ops.length).filter fun i => !listed.getD i true := by
        rw [List.mem_filter]; exact ⟨List.mem_range.2 hj1, by rw [hj2]; rfl⟩
      have hnd : ((List.range ops.length).filter fun i => !listed.getD i true).Nodup := List.Pairwise.filter _ List.nodup_range
      have e2 : ((List.range ops.length).filter fun i => !listed.getD i true).filter (fun i => !decide (i = j)) = ((List.range ops.length).filter fun i => !listed.getD i true).erase j := by
        rw [hnd.erase_eq_filter]
        refine List.filter_congr (fun i _ => ?_)
        by_cases e : i = j <;> simp [e]
      rw [e2, List.length_erase_of_mem hmem, hcnt]
      rfl
    · rw [hD'] at hi ⊢
      rcases Bool.or_eq_true_iff.1 hi with hi | hi
      · rw [hcl i o hi ho' x hx]; rfl
      · have : i = j := by simpa using hi
        subst this
        rw [hj3 o ho' x hx]; rfl
end
end Go.Proofs.YtbjfmkmaghapgaaGreatDoor.B
