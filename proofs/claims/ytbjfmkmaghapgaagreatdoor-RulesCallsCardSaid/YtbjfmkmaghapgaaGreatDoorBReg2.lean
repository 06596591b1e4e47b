/-
The logic of pure values, continued: a statement's operations in any order. Condition: none.
-/
import Derived.Test.YtbjfmkmaghapgaaGreatDoorBReg
set_option linter.unusedVariables false
set_option linter.unusedSimpArgs false
namespace Go.Proofs.YtbjfmkmaghapgaaGreatDoor.B
open Go.RowKit

section
variable {G : World → Prop} {P : Program} {τ : Tau} {Dr : Prop} {w0 : World} {E0 : Nat → Nat → Prop} {S0 : Nat → Nat → Prop} {N : Nat}
/-- One operation, wanted or not. -/
theorem gop_ok {ops : List Oper} {o : Oper} {i : Nat} {wr : Key → Bool} {g : Key → C} {a : Act} {w : World} {β : Nat → Nat} {S : Nat → Nat → Prop} {K : Act → World → Prop} {Q : Exit → Act → World → Prop} {ws : List (Key × C)}
    (hG : GOK Dr E0 w0 G) (hτ : TauOK P τ) (hi : ops[i]? = some o) (h : Rel Dr w0 E0 S0 N (fun κ => wr κ = true) g a w β S) (hp : PtrOK g) (hd : dstOK N o = true) (hN : Next Dr w0 E0 S0 N wr g ws K)
    (he : vcT G P (gT P τ ops o) g wr (fun _ v => v = ws)) : wpOp P ops.toArray Q i K a w := by
  unfold wpOp
  rw [show ops.toArray[i]? = some o by simpa using hi]
  show if Region.wanted o (yielded ops.toArray a.tmps) = true then _ else _
  have skip : vcT G P (skipT o) g wr (fun _ v => v = ws) → K (a.put o.dst undef) w := fun he' => by
    unfold skipT at he'
    cases hdst : o.dst with
    | none =>
      rw [hdst] at he'
      have hws : ([] : List (Key × C)) = ws := he'
      subst hws
      exact hN _ _ β S (h.wider (fun κ hk => .inl hk)) hp
    | some d' =>
      rw [hdst] at he'
      have hws : [(Key.t d', skC)] = ws := he'
      subst hws
      have hdN : d' < N := by unfold dstOK at hd; rw [hdst] at hd; simpa [Nat.blt_eq] using hd
      exact hN _ _ β S (h.put (c := skC) hdN (RepP.tup #[] [] rfl (fun i v x hv => by simp at hv)) (ownV_none _ _) (fun κ' e => by cases e) (fun κ hk => .inl hk) (.inr (by simp [keysOf]))) (ptrOK_upd hp (fun i => by simp) (fun i e => by simp [skC, FV.refs] at e))
  unfold gT at he
  split at he
  · rename_i hg
    rw [if_pos (by simp [Region.wanted, hg])]
    exact .inl (op_ok hG hτ h hp hd hN he)
  · rename_i j want hg
    split at he
    · rename_i oj hj
      split at he
      · rename_i d hdj
        have he' : vcT G P (match (g (.t d)).v with
          | .pv (.lit (.bool b)) => guardT want b (opT P τ o) (skipT o)
          | .pv (.tup []) => skipT o
          | _ => .fail) g wr (fun _ v => v = ws) := he
        split at he'
        · rename_i b hb
          have hv := h.tm d
          rw [hb] at hv
          have hr : a.tmps.getD d undef = .bool b := (rep_lit hv).1
          have hy : yielded ops.toArray a.tmps j = some b := by
            have hq : a.tmps[d]? = some (.bool b) := by
              rw [Array.getD_eq_getD_getElem?] at hr
              cases hx : a.tmps[d]? with
              | none => rw [hx] at hr; simp [undef] at hr
              | some v => rw [hx] at hr; simpa using hr
            simp [yielded, hj, hdj, hq]
          have hwant : Region.wanted o (yielded ops.toArray a.tmps) = (b == want) := by
            simp [Region.wanted, hg, hy]
          rw [hwant]
          by_cases hbw : (b == want) = true
          · rw [if_pos hbw]
            have he2 : vcT G P (opT P τ o) g wr (fun _ v => v = ws) := by
              have e : b = want := by simpa using hbw
              subst e
              cases b
              · have he3 : vcT G P (.ite false (skipT o) (opT P τ o)) g wr (fun _ v => v = ws) := he'
                simpa [vcT] using he3
              · have he3 : vcT G P (.ite true (opT P τ o) (skipT o)) g wr (fun _ v => v = ws) := he'
                simpa [vcT] using he3
            exact .inl (op_ok hG hτ h hp hd hN he2)
          · rw [if_neg hbw]
            have he' : vcT G P (skipT o) g wr (fun _ v => v = ws) := by
              have e : b = !want := by cases b <;> cases want <;> simp_all
              subst e
              cases want
              · have he3 : vcT G P (.ite true (skipT o) (opT P τ o)) g wr (fun _ v => v = ws) := he'
                simpa [vcT] using he3
              · have he3 : vcT G P (.ite false (opT P τ o) (skipT o)) g wr (fun _ v => v = ws) := he'
                simpa [vcT] using he3
            exact skip he'
        · rename_i hb
          have hv := h.tm d
          rw [hb] at hv
          obtain ⟨vs, hvs, hz, _⟩ := rep_tup hv
          have hr : a.tmps.getD d undef = .tuple vs := hvs
          have hy : yielded ops.toArray a.tmps j = none := by
            unfold yielded
            rw [show ((ops.toArray[j]?).bind (·.dst)) = some d by simp [hj, hdj]]
            simp only [Option.bind_some]
            rw [Array.getD_eq_getD_getElem?] at hr
            cases hx : a.tmps[d]? with
            | none => rfl
            | some v =>
              rw [hx] at hr
              have : v = .tuple vs := by simpa using hr
              rw [this]
          have hwant : Region.wanted o (yielded ops.toArray a.tmps) = false := by
            simp [Region.wanted, hg, hy]
          rw [hwant, if_neg (by simp)]
          exact skip he'
        · exact he'.elim
      · exact he.elim
    · exact he.elim
open Classical in
/-- What is to be shown of the operations, as a list of their effects. -/
theorem vcOps_chain {ops : List Oper} {K : St → Trace → Prop} : ∀ (rest : List Oper) (s : St) (L : List Key) (tr : Trace), vcOps G P τ N ops rest s L tr K →
    ∃ E : List (List Key × List (Key × C)), E.length = rest.length ∧ (∀ (i : Nat) o e, rest[i]? = some o → E[i]? = some e → dstOK N o = true ∧
        vcT G P (gT P τ ops o) (F (fun q => decide (q < i)) 0 (E.map (·.2)) s.get) (fun κ => memK κ L || decide (∃ q e', q < i ∧ E[q]? = some e' ∧ κ ∈ keysOf e'.2)) (fun r v => r = e.1 ∧ v = e.2)) ∧
      ∃ s', s'.get = F (fun _ => true) 0 (E.map (·.2)) s.get ∧ K s' ((E.map fun e => (e.1, keysOf e.2)).reverse ++ tr)
  | [], s, L, tr, h => ⟨[], rfl, fun i o e ho => by simp at ho, s, rfl, h⟩
  | o :: rest, s, L, tr, h => by
    unfold vcOps at h
    split at h
    · rename_i hd
      obtain ⟨rs, ws, he, hk⟩ := vcT_ev _ h
      split at hk
      · rename_i hval
        obtain ⟨E, h1, h2, s', h3, h4⟩ := vcOps_chain rest (s.sets ws) (keysOf ws ++ L) _ hk
        have hg : (s.sets ws).get = upds s.get ws := St.sets_get hval
        refine ⟨(rs, ws) :: E, by simp [h1], fun i o' e ho he' => ?_, s', ?_, ?_⟩
        · cases i with
          | zero =>
            simp at ho he'
            subst ho
            subst he'
            refine ⟨hd, ?_⟩
            have e1 : F (fun q => decide (q < 0)) 0 (((rs, ws) :: E).map (·.2)) s.get = s.get := by
              have q : ∀ (r : List (List (Key × C))) (o : Nat) (g : Key → C), F (fun q => decide (q < 0)) o r g = g := by
                intro r
                induction r with
                | nil => intros; rfl
                | cons x r ih => intro o g; exact ih (o + 1) g
              exact q _ _ _
            have e2 : (fun κ => memK κ L || decide (∃ q e', q < 0 ∧ ((rs, ws) :: E)[q]? = some e' ∧ κ ∈ keysOf e'.2)) = fun κ => memK κ L := by
              funext κ
              have : decide (∃ q e', q < 0 ∧ ((rs, ws) :: E)[q]? = some e' ∧ κ ∈ keysOf e'.2) = false := by simp
              rw [this, Bool.or_false]
            rw [e1, e2]
            exact he
          | succ i =>
            obtain ⟨k1, k2⟩ := h2 i o' e (by simpa using ho) (by simpa using he')
            refine ⟨k1, ?_⟩
            have e1 : F (fun q => decide (q < i + 1)) 0 (((rs, ws) :: E).map (·.2)) s.get = F (fun q => decide (q < i)) 0 (E.map (·.2)) (s.sets ws).get := by
              rw [hg]
              show F _ 1 (E.map (·.2)) (if decide (0 < i + 1) = true then upds s.get ws else s.get) = _
              rw [if_pos (by simp)]
              have q : ∀ (r : List (List (Key × C))) (o : Nat) (g : Key → C), F (fun q => decide (q < i + 1)) (o + 1) r g = F (fun q => decide (q < i)) o r g := by
                intro r
                induction r with
                | nil => intros; rfl
                | cons x r ih =>
                  intro o g
                  show F _ (o + 1 + 1) r (if decide (o + 1 < i + 1) = true then upds g x else g) = F _ (o + 1) r (if decide (o < i) = true then upds g x else g)
                  rw [ih, show decide (o + 1 < i + 1) = decide (o < i) from by simp]
              exact q _ 0 _
            have e2 : (fun κ => memK κ L || decide (∃ q e', q < i + 1 ∧ ((rs, ws) :: E)[q]? = some e' ∧ κ ∈ keysOf e'.2)) = fun κ => memK κ (keysOf ws ++ L) || decide (∃ q e', q < i ∧ E[q]? = some e' ∧ κ ∈ keysOf e'.2) := by
              funext κ
              rw [Bool.eq_iff_iff]
              simp only [Bool.or_eq_true, memK_iff, decide_eq_true_eq, List.mem_append]
              constructor
              · rintro (hl | ⟨q, e', hq, hq1, hq2⟩)
                · exact .inl (.inr hl)
                · cases q with
                  | zero => simp at hq1; subst hq1; exact .inl (.inl hq2)
                  | succ q => exact .inr ⟨q, e', by omega, by simpa using hq1, hq2⟩
              · rintro ((hl | hl) | ⟨q, e', hq, hq1, hq2⟩)
                · exact .inr ⟨0, _, by omega, rfl, hl⟩
                · exact .inl hl
                · exact .inr ⟨q + 1, e', by omega, by simpa using hq1, hq2⟩
            rw [e1, e2]
            exact k2
        · rw [h3, hg]
          show _ = F _ 1 (E.map (·.2)) (upds s.get ws)
          have q : ∀ (r : List (List (Key × C))) (o o' : Nat) (g : Key → C), F (fun _ => true) o r g = F (fun _ => true) o' r g := by
            intro r
            induction r with
            | nil => intros; rfl
            | cons x r ih => intro o o' g; exact ih _ _ _
          exact q _ _ _ _
        · simpa using h4
      · exact hk.elim
    · exact h.elim
end
end Go.Proofs.YtbjfmkmaghapgaaGreatDoor.B
