/-
Closed runs: a statement's operations in whatever order. Condition: none.
-/
import Derived.Test.YtohcohbbmjhnfaaGreatDoorXU
set_option linter.unusedVariables false
set_option linter.unusedSectionVars false
set_option linter.unusedSimpArgs false
set_option linter.unnecessarySimpa false
namespace Go.Proofs.YtohcohbbmjhnfaaGreatDoor.X
open Go Go.RowKit
noncomputable section
variable [Tabs]
section
variable {P : Program} {ext : FuncId → Option Ek} {call : CallF} {N : Nat} {ops : List Oper} {b : Bef}
theorem any_ok (hpl : planOK N ops = true) (hE : ExtOK P ext) (hcall : CallOK P call) (hB : b.B ≤ b.w.heap.size) (hfl : b.fl ≤ b.nx) {outs : List St} {Q : Exit → Act → World → Prop}
    (hQ : ∀ s' β' a' w', s' ∈ outs → Go_ b.B b.fl b.β b.h b.nx b.w β' s'.2.1 s'.2.2 w' → EnvR β' N s'.1.get a' → Q .normal a' w') :
    ∀ (fuel : Nat) (listed : Array Bool) {S : List Nat} {ko : Option Nat} {n : Nat} {l : List Nd} {s : St} {β : Ren} {a : Act} {w : World} {os : List St}, listed.size = ops.length → ((List.range ops.length).filter fun i => !listed.getD i true).length = fuel →
      DC ops S (fun k => listed.getD k false = true) → RI P N ops b S ko (fun k => listed.getD k false = true) s β a w → (S, s) ∈ l → contG (stepX P ext call b.fl N ops) (phaseX P N ops (befs [] ops) (hvs ops) b.nx) b.fl ops (befs [] ops) (hvs ops) n l = some os → (∀ x, x ∈ os → x ∈ outs) →
      wpAny P .any ops.toArray Q fuel listed a w := by
  unfold planOK at hpl
  simp only [Bool.and_eq_true] at hpl
  obtain ⟨⟨⟨hN, hback⟩, hdep⟩, hd⟩ := hpl
  have hdone : ∀ (listed : Array Bool) {S : List Nat} {ko : Option Nat} {n : Nat} {l : List Nd} {s : St} {β : Ren} {a : Act} {w : World} {os : List St}, listed.size = ops.length → Region.ready .any ops.toArray listed = [] →
      DC ops S (fun k => listed.getD k false = true) → RI P N ops b S ko (fun k => listed.getD k false = true) s β a w → (S, s) ∈ l → contG (stepX P ext call b.fl N ops) (phaseX P N ops (befs [] ops) (hvs ops) b.nx) b.fl ops (befs [] ops) (hvs ops) n l = some os → (∀ x, x ∈ os → x ∈ outs) → Q .normal a w := by
    intro listed S ko n l s β a w os hl hr hD h hnd hc ho
    have hall := ready_all hback listed hl hr
    have hnil : cands (befs [] ops) (hvs ops) S (hvs ops) = [] := by
      refine List.eq_nil_iff_forall_not_mem.2 (fun k hk => ?_)
      obtain ⟨k1, k2, _⟩ := cands_spec.1 hk
      obtain ⟨o, e2⟩ := hvs_lt k1
      have hm : k < ops.length := (List.getElem?_eq_some_iff.1 e2).1
      exact k2 ((hD.hv k k1).1 (hall _ hm))
    have hos : s ∈ os := contG_end hc hnd hnil
    refine hQ s β a w (ho s hos) ⟨h.com.ext, h.com.none, h.com.le, h.com.hr, h.com.below, h.com.sz, h.com.floor⟩ ⟨h.com.df, h.com.size, fun t x e => h.com.tm t x e (fun j o hj _ _ => hall j (List.getElem?_eq_some_iff.1 hj).1)⟩
  intro fuel
  induction fuel with
  | zero =>
    intro listed S ko n l s β a w os hl hcnt hD h hnd hc ho
    have hr : Region.ready .any ops.toArray listed = [] := by
      refine List.eq_nil_iff_forall_not_mem.2 (fun i hi => ?_)
      obtain ⟨h1, h2, _⟩ := (ready_iff listed i).1 hi
      have : i ∈ (List.range ops.length).filter fun i => !listed.getD i true := by
        rw [List.mem_filter]
        exact ⟨List.mem_range.2 h1, by rw [h2]; rfl⟩
      rw [List.eq_nil_of_length_eq_zero hcnt] at this
      simp at this
    exact ⟨hr, hdone listed hl hr hD h hnd hc ho⟩
  | succ fuel ih =>
    intro listed S ko n l s β a w os hl hcnt hD h hnd hc ho
    refine ⟨fun hr => hdone listed hl hr hD h hnd hc ho, fun j hj => ?_⟩
    obtain ⟨hj1, hj2, hj3⟩ := (ready_iff listed j).1 hj
    have hDj : ¬ listed.getD j false = true := by rw [← listed_get listed hl j hj1, hj2]; simp
    have hoj := List.getElem?_eq_getElem hj1
    have hbef : ∀ (k : Nat) o, ops[k]? = some o → (∀ x, x ∈ directOf o → listed.getD x false = true) → ∀ x, x ∈ nthL (befs [] ops) k → listed.getD x false = true :=
      befs_closed (D := fun x => listed.getD x false = true) (fun k o hk ho x hx => hD.cl k o hk ho x hx) ops 0 [] rfl (fun k => by simp) (fun k o hk => absurd hk (by omega))
    have hanc : ∀ x, x ∈ nthL (befs [] ops) j → listed.getD x false = true := hbef j _ hoj (hj3 _ hoj)
    have hlook : ∀ t, t ∈ looksT ops ops[j] → ∀ k o', ops[k]? = some o' → o'.dst = some t → k ∉ hvs ops → listed.getD k false = true := fun t ht k o' hk hko hkh => by
      have := depOK_spec hdep hoj
      rw [Nat.zero_add] at this
      have := wrOK_spec (allW_spec this ht) hk hko
      rw [Nat.zero_add] at this
      exact hanc k (this.resolve_right hkh)
    have hsetD : (fun k => listed.getD k false = true ∨ k = j) = fun k => (listed.setIfInBounds j true).getD k false = true := by
      funext k
      rw [Array.getD_eq_getD_getElem?, Array.getD_eq_getD_getElem?, Array.getElem?_setIfInBounds]
      by_cases e : j = k
      · subst e
        rw [if_pos rfl, if_pos (by omega)]
        simp
      · rw [if_neg e]
        have : ¬ k = j := fun q => e q.symm
        simp [this]
    have hcl' : ∀ k o, (listed.getD k false = true ∨ k = j) → ops[k]? = some o → ∀ x, x ∈ directOf o → listed.getD x false = true ∨ x = j := fun k o hk ho' x hx => by
      rcases hk with hk | rfl
      · exact .inl (hD.cl k o hk ho' x hx)
      · exact .inl (hj3 o ho' x hx)
    have hcnt' : ((List.range ops.length).filter fun i => !(listed.setIfInBounds j true).getD i true).length = fuel := by
      have hd' : ∀ i, i < ops.length → (!(listed.setIfInBounds j true).getD i true) = ((!listed.getD i true) && !decide (i = j)) := fun i hi => by
        rw [listed_get (n := ops.length) _ (by simp [hl]) i hi, listed_get listed hl i hi]
        have := congrFun hsetD i
        simp only [eq_iff_iff] at this
        cases hq : listed.getD i false <;> cases hq' : (listed.setIfInBounds j true).getD i false <;> simp [hq, hq'] at this ⊢ <;> exact this
      have e1 : ((List.range ops.length).filter fun i => !(listed.setIfInBounds j true).getD i true) = ((List.range ops.length).filter fun i => !listed.getD i true).filter fun i => !decide (i = j) := by
        rw [List.filter_filter]
        refine List.filter_congr (fun i hi => ?_)
        rw [hd' i (List.mem_range.1 hi), Bool.and_comm]
      rw [e1]
      have hmem : j ∈ (List.range ops.length).filter fun i => !listed.getD i true := by
        rw [List.mem_filter]; exact ⟨List.mem_range.2 hj1, by rw [hj2]; rfl⟩
      have hnd : ((List.range ops.length).filter fun i => !listed.getD i true).Nodup := List.Pairwise.filter _ List.nodup_range
      have e2 : ((List.range ops.length).filter fun i => !listed.getD i true).filter (fun i => !decide (i = j)) = ((List.range ops.length).filter fun i => !listed.getD i true).erase j := by
        rw [hnd.erase_eq_filter]
        refine List.filter_congr (fun i _ => ?_)
        by_cases e : i = j <;> simp [e]
      rw [e2, List.length_erase_of_mem hmem, hcnt]
      rfl
    by_cases hh : j ∈ hvs ops
    rotate_left
    · have hlit := hvs_light hoj hh
      have hopen : j ∈ openAt (befs [] ops) (hvs ops) S ops 0 := by
        have hcj : allIn S (hvIn (nthL (befs [] ops) j) (hvs ops)) = true := allIn_spec.2 (fun x hx => by
          obtain ⟨h1, h2⟩ := hvIn_spec.1 hx
          exact (hD.hv x h1).1 (hanc x h2))
        have hab : anyBef (befs [] ops) j S = false := by
          cases q : anyBef (befs [] ops) j S with
          | false => rfl
          | true =>
            exfalso
            obtain ⟨x, k2, k3⟩ := anyBef_spec.1 q
            have hDx := (hD.hv x (hD.sub x k2)).2 k2
            have hx := listed_out listed hl x hDx
            exact hDj (hbef x _ (List.getElem?_eq_getElem hx) (fun y hy => hD.cl x _ hDx (List.getElem?_eq_getElem hx) y hy) j k3)
        have := openAt_spec (bs := befs [] ops) (hv := hvs ops) (S := S) (n := 0) hoj (by rw [Nat.zero_add]; exact hh) (by rw [Nat.zero_add]; exact hcj) (by rw [Nat.zero_add]; exact hab)
        rwa [Nat.zero_add] at this
      refine lite_step hd hN hB h hoj hDj hopen hlook ?_
      intro β' a' w' h'
      have hD' : DC ops S (fun k => listed.getD k false = true ∨ k = j) := ⟨hcl', fun x hx => ⟨fun q => by
        rcases q with q | q
        · exact (hD.hv x hx).1 q
        · exfalso
          subst q
          exact hh hx, fun q => .inl ((hD.hv x hx).2 q)⟩, hD.sub⟩
      rw [hsetD] at h' hD'
      exact ih _ (by simp [hl]) hcnt' hD' h' hnd hc ho
    · have hjv : j ∈ hvs ops := hh
      have hjS : j ∉ S := fun q => hDj ((hD.hv j hjv).2 q)
      have hcand : j ∈ cands (befs [] ops) (hvs ops) S (hvs ops) := cands_spec.2 ⟨hjv, hjS, fun x hx hxa => (hD.hv x hx).1 (hanc x hxa)⟩
      obtain ⟨nx, htook, hnext⟩ := contG_step hc hnd hcand
      obtain ⟨o1, l1, multi, t1, hst, t3⟩ := htook.out
      rw [hoj] at t1
      cases t1
      refine heavy_step hd hN hE hcall hB hfl h hoj hDj hjv hlook hst ?_
      intro s1 β' a' w' hm hpre
      obtain ⟨s2, hph, hs2⟩ := t3 s1 hm
      obtain ⟨lo1, lo2, lo3⟩ := looseIf_ok multi b.fl ops[j] s1
      have hset : ∀ x, x ∈ j :: S ↔ x ∈ insN j S := fun x => by rw [insN_mem, List.mem_cons]
      have hri := phase_in hd hfl ((hpre.less lo1 lo2 lo3).congr hset) (fun j' hj' hq => by
        obtain ⟨m, o, e1, e2, e3, e4⟩ := litesAt_spec hj'
        have e4' : memN j (nthL (befs [] ops) j') = true := e4
        have := memN_iff.1 e4'
        rw [Nat.zero_add] at e1
        subst e1
        rcases hq with hq | hq
        · exact hDj (hbef _ _ e2 (fun y hy => hD.cl _ _ hq e2 y hy) j this)
        · subst hq
          exact e3 hjv) hph
      have hD' : DC ops (insN j S) (fun x => listed.getD x false = true ∨ x = j) := (⟨hcl', fun x hx => ⟨fun q => by
        rcases q with q | q
        · exact List.mem_cons_of_mem _ ((hD.hv x hx).1 q)
        · subst q; exact List.mem_cons_self .., fun q => by
        rcases List.mem_cons.1 q with q | q
        · exact .inr q
        · exact .inl ((hD.hv x hx).2 q)⟩, fun x hx => by
        rcases List.mem_cons.1 hx with q | q
        · subst q; exact hjv
        · exact hD.sub x q⟩ : DC ops (j :: S) _).congr hset
      rw [hsetD] at hri hD'
      rcases hnext with hno | ⟨n', os', hc', hsub⟩
      · exact absurd hs2 (hno _)
      · exact ih _ (by simp [hl]) hcnt' hD' hri hs2 hc' (fun x hx => ho x (hsub x hx))
/-- A statement's operations. -/
theorem anyX_ok (hm : P.follows .mixedOrders = true) (hE : ExtOK P ext) (hcall : CallOK P call) {B fl : Nat} {β : Ren} {s : St} {a : Act} {w : World} (hr : HR B β s.2.1 s.2.2 w) (he : EnvR β N s.1.get a) (hB : B ≤ w.heap.size) (hfl : fl ≤ s.2.2) {id : Nat} {outs : List St} (hx : anyX P ext call fl N ops s = some outs) {Q : Exit → Act → World → Prop}
    (hQ : ∀ s' β' a' w', s' ∈ outs → Go_ B fl β s.2.1 s.2.2 w β' s'.2.1 s'.2.2 w' → EnvR β' N s'.1.get a' → Q .normal a' w') : (Code.region id ops.toArray true).wp P Q a w := by
  refine wp_region_any hm ?_
  unfold anyX at hx
  split at hx
  · cases hx
  · rename_i hpl
    split at hx
    · rename_i s' hph
      have hpl' := hpl
      unfold planOK at hpl'
      simp only [Bool.and_eq_true] at hpl'
      obtain ⟨⟨⟨hN, hback⟩, hdep⟩, hd⟩ := hpl'
      have hr' := hr_drawn hr (w.drawn + 1)
      have hrep : ∀ k, ¬ ((Array.replicate ops.toArray.size false).getD k false = true) := fun k => by
        rw [Array.getD_eq_getD_getElem?, Array.getElem?_replicate]
        split <;> simp
      have hri := phase_in (b := ⟨B, fl, β, s.2.1, s.2.2, { w with drawn := w.drawn + 1 }⟩) (D := fun k => (Array.replicate ops.toArray.size false).getD k false = true) (S := []) (ko := none) hd hfl
        ⟨⟨hr', he.df, he.size, fun t x e _ => he.tm t x e, Ext.refl β, fun _ _ e => .inl e, Nat.le_refl _, Below.refl _ _, Nat.le_refl _, fun _ _ => rfl⟩, fun j k hj hc _ _ => by cases hc⟩ (fun j _ => hrep j) hph
      refine any_ok (b := ⟨B, fl, β, s.2.1, s.2.2, { w with drawn := w.drawn + 1 }⟩) hpl hE hcall hB hfl (outs := outs) (fun s' β' a' w' h1 h2 h3 => hQ s' β' a' w' h1 (drawn_go h2) h3) _ _ (S := []) (ko := none) (by simp) ?_ ⟨fun j o hj => absurd hj (hrep j), fun x _ => ⟨fun q => absurd q (hrep x), fun q => by simp at q⟩, fun x q => by simp at q⟩ hri (List.mem_cons_self ..) hx (fun x h => h)
      have : ((List.range ops.length).filter fun i => !(Array.replicate ops.toArray.size false).getD i true) = List.range ops.length := by
        refine List.filter_eq_self.2 (fun k hk => ?_)
        have hk := List.mem_range.1 hk
        rw [Array.getD_eq_getD_getElem?, Array.getElem?_replicate, if_pos (by simpa using hk)]
        rfl
      rw [this]
      simp
    · cases hx
end
end
end Go.Proofs.YtohcohbbmjhnfaaGreatDoor.X
