/-
The logic of pure values, continued: functions to which lists are handed over for good. Condition: none.
-/
import Derived.Test.YtbjfmkmaghapgaaGreatDoorBCodeH
set_option linter.unusedVariables false
set_option linter.unusedSimpArgs false
set_option linter.unnecessarySimpa false
namespace Go.Proofs.YtbjfmkmaghapgaaGreatDoor.B
open Go.RowKit
def initC : List PV → List Own → List C
  | [], _ => []
  | p :: ps, [] => ⟨.pv p, none, none⟩ :: initC ps []
  | p :: ps, o :: os => ⟨.pv p, o, none⟩ :: initC ps os
def St.initO (args : List PV) (oin : List Own) (N : Nat) : St := ⟨initC args oin ++ List.replicate (N - args.length) unC, []⟩
theorem initC_len : ∀ (ps : List PV) (os : List Own), (initC ps os).length = ps.length
  | [], _ => rfl
  | p :: ps, [] => by simp [initC, initC_len ps []]
  | p :: ps, o :: os => by simp [initC, initC_len ps os]
theorem initC_at : ∀ (ps : List PV) (os : List Own) (t : Nat), (initC ps os)[t]? = match ps[t]? with | some p => some ⟨.pv p, (os[t]?).getD none, none⟩ | none => none
  | [], _, t => by simp [initC]
  | p :: ps, [], 0 => by simp [initC]
  | p :: ps, [], t + 1 => by
    have := initC_at ps [] t
    simpa [initC] using this
  | p :: ps, o :: os, 0 => by simp [initC]
  | p :: ps, o :: os, t + 1 => by
    have := initC_at ps os t
    simpa [initC] using this
section
variable {G : World → Prop} {P : Program} {τ : Tau}
theorem ocalls_vc (hτ : TauOK P τ) (hm : P.follows .mixedOrders = true) {f : FuncId} {fn : Func} {c : Code} {args : List PV} {oin : List Own} {res : PV} {own : Own} (hf : P.funcs[f]? = some fn) (hname : (fn.name == "runtime.NumGoroutine") = false) (hb : fn.body = some c)
    (hargs : args.length ≤ fn.ntmps) (h : vc G P τ fn.ntmps c (St.initO args oin fn.ntmps) (post τ fn.results.toList res own)) : OCalls G P f args oin res own := by
  refine ⟨⟨fn, hf, hname, by rw [hb]; rfl⟩, fun w S vs hG hSa hrep hows hdist => ?_⟩
  refine calls_of_wp hf hb ?_
  have hsz : (vs ++ Array.replicate (fn.ntmps - vs.size) undef).size = fn.ntmps := by simp [hrep.1]; omega
  have hget : ∀ t, (St.initO args oin fn.ntmps).get (.t t) = match args[t]? with | some p => ⟨.pv p, (oin[t]?).getD none, none⟩ | none => unC := fun t => by
    show getL (initC args oin ++ List.replicate (fn.ntmps - args.length) unC) t = _
    rw [getL_at]
    cases hp : args[t]? with
    | some p =>
      have hlt : t < args.length := (List.getElem?_eq_some_iff.1 hp).1
      rw [List.getElem?_append_left (by rw [initC_len]; exact hlt), initC_at, hp]
      rfl
    | none =>
      have hge : args.length ≤ t := List.getElem?_eq_none_iff.1 hp
      rw [List.getElem?_append_right (by rw [initC_len]; exact hge), List.getElem?_replicate]
      split <;> rfl
  let E0 : Nat → Nat → Prop := fun i b => i = 0 ∧ HB oin vs b
  have hEB : ∀ b, EB E0 b ↔ HB oin vs b := fun b => ⟨fun ⟨_, _, h⟩ => h, fun h => ⟨0, rfl, h⟩⟩
  have hKE : ∀ {w1 w2}, Kept (EB E0) w1 w2 → Kept (HB oin vs) w1 w2 := fun hk => ⟨hk.os, hk.tape, hk.output, hk.size, fun k h1 h2 => hk.block k h1 (fun e => h2 ((hEB k).1 e))⟩
  have hatv : ∀ (t : Nat) p, args[t]? = some p → ∃ v, vs[t]? = some v ∧ (vs ++ Array.replicate (fn.ntmps - vs.size) undef).getD t undef = v := fun t p hp => by
    have hlt : t < vs.size := by rw [hrep.1]; exact (List.getElem?_eq_some_iff.1 hp).1
    refine ⟨vs[t], Array.getElem?_eq_getElem hlt, ?_⟩
    rw [Array.getD_eq_getD_getElem?, Array.getElem?_append_left hlt, Array.getElem?_eq_getElem hlt]
    rfl
  have hown : ∀ κ p, ((St.initO args oin fn.ntmps).get κ).own = some p → ∃ t a v, κ = .t t ∧ args[t]? = some a ∧ oin[t]? = some (some p) ∧ vs[t]? = some v ∧ (vs ++ Array.replicate (fn.ntmps - vs.size) undef).getD t undef = v := fun κ p hk => by
    cases κ with
    | t t =>
      rw [hget] at hk
      cases ha : args[t]? with
      | none => rw [ha] at hk; cases hk
      | some a =>
        rw [ha] at hk
        have hk' : (oin[t]?).getD none = some p := hk
        obtain ⟨v, v1, v2⟩ := hatv t a ha
        refine ⟨t, a, v, rfl, ha, ?_, v1, v2⟩
        cases ho : oin[t]? with
        | none => rw [ho] at hk'; cases hk'
        | some o => rw [ho] at hk'; simp at hk'; rw [hk']
    | b i o => cases hk
    | al i => cases hk
  have hinit : RelS (∀ w, G w) w E0 S fn.ntmps (St.initO args oin fn.ntmps) { tmps := vs ++ Array.replicate (fn.ntmps - vs.size) undef, defers := [] } w := by
    refine ⟨fun _ => 0, S, ?_, fun κ i e => ?_⟩
    · constructor
      · exact Kept.refl _ _
      · rfl
      · exact hsz
      · exact fun b o h => h
      · exact fun b o h => rfl
      · exact fun b o h => .inl h
      · exact hSa
      · intro t
        rw [hget]
        cases hp : args[t]? with
        | none => trivial
        | some p =>
          obtain ⟨v, v1, v2⟩ := hatv t p hp
          show RepP S w ((vs ++ Array.replicate (fn.ntmps - vs.size) undef).getD t undef) p
          rw [v2]
          exact hrep.2 t v p v1 hp
      · intro i o hne; exact absurd rfl hne
      · intro i hne; exact absurd rfl hne
      · intro i j hne; exact absurd rfl hne
      · intro κ p hk
        obtain ⟨t, a, v, rfl, ha, ho, hv, hv2⟩ := hown κ p hk
        refine ⟨v, by show some _ = _; rw [← hv2], (hows t p v ho hv).imp (fun b hb _ => ⟨.inl ⟨rfl, t, some p, v, ho, hv, hb⟩, fun i hi => absurd rfl hi⟩)⟩
      · intro κ κ' v v' b h1 h2 h3 h4
        obtain ⟨p, hp, hb⟩ := blk_some h3
        obtain ⟨p', hp', hb'⟩ := blk_some h4
        obtain ⟨t, a, u, rfl, ha, ho, hu, hu2⟩ := hown κ p hp
        obtain ⟨t', a', u', rfl, ha', ho', hu', hu2'⟩ := hown κ' p' hp'
        have e1 : v = u := by cases h1; exact hu2
        have e2 : v' = u' := by cases h2; exact hu2'
        subst e1
        subst e2
        rw [hdist t t' _ _ v v' b ho ho' hu hu' hb hb']
      · intro t κ' e
        rw [hget] at e
        cases hp : args[t]? <;> rw [hp] at e <;> cases e
      · intro i o hne; exact absurd rfl hne
      · exact fun _ => Nat.le_refl _
    · cases κ with
      | t t => rw [hget] at e; cases hp : args[t]? <;> rw [hp] at e <;> simp [unC, FV.refs] at e
      | b j o =>
        have e' : i ∈ unC.v.refs := e
        simp [unC, FV.refs] at e'
      | al j =>
        have e' : i ∈ unC.v.refs := e
        simp [unC, FV.refs] at e'
  refine vc_ok (Dr := ∀ w, G w) (E0 := E0) ⟨fun w' hw' => hG w' (hKE hw'), id⟩ hτ hm c h (fun x s' a' w' hk hr => ?_) hinit
  have hHm : ∀ b, HomeB E0 w b → HB oin vs b ∨ w.heap.size ≤ b := fun b hb => hb.imp (fun e => e.2) id
  have fin : ∀ s' a' w', (match resOf τ s' fn.results.toList with | some (p, ow) => p.norm = res ∧ ownLe p ow own | none => False) → RelS (∀ w, G w) w E0 S fn.ntmps s' a' w' →
      a'.defers = [] ∧ ∃ v, (results fn a'.tmps).run P w' = .ok v w' ∧ ∃ v' S', Ending.returned v = .returned v' ∧ Kept (HB oin vs) w w' ∧ (∀ b o, S b o → S' b o) ∧ (∀ b o, S b o → w'.cell? ⟨b, o, none⟩ = w.cell? ⟨b, o, none⟩) ∧ (∀ b o, S' b o → S b o ∨ HB oin vs b ∨ w.heap.size ≤ b) ∧ (∀ b o, S' b o → b < w'.heap.size) ∧
        RepP S' w' v' res ∧ OwnH (fun b => HB oin vs b ∨ w.heap.size ≤ b) S' w' v' own ∧ ((∀ w, G w) → w.drawn ≤ w'.drawn) := by
    intro s' a' w' hk hr
    obtain ⟨β', S', hr, hptr⟩ := hr
    split at hk
    · rename_i p ow hres
      obtain ⟨v, r1, r2, r3⟩ := resOf_run (P := P) hτ hr hptr hres
      refine ⟨hr.df, v, r1, v, S', rfl, hKE hr.below, hr.s0, hr.sc, fun b o hs => (hr.sn b o hs).imp id (hHm b), hr.sa, by rw [← hk.1]; exact r2.norm, ?_, hr.dr⟩
      cases own with
      | none => trivial
      | some q =>
        rcases hk.2 with e | e
        · subst e
          rw [rep_nil r2]
          exact owsL_nilv
        · exact OwsL.imp (r3 q e) (fun b _ hb => hHm b hb.1)
    · exact hk.elim
  cases x with
  | normal => exact fin s' a' w' hk hr
  | ret => exact fin s' a' w' hk hr
  | exit id => exact hk.elim
/-- A function to which lists are handed over, by the conditions of its code. -/
theorem ocalls_fn (hm : P.follows .mixedOrders = true) (hτ : TauOK P τ) {f : FuncId} {fn : Func} {args : List PV} {oin : List Own} {res : PV} {own : Own} (hf : P.funcs[f]? = some fn) (hname : (fn.name == "runtime.NumGoroutine") = false) (hb : fn.body.isSome = true)
    (hargs : Nat.ble args.length fn.ntmps = true)
    (h : ∀ Q, (∀ f args res own, ACalls G P f args res own → ACalls G Q f args res own) → (∀ f args oin res own, OCalls G P f args oin res own → OCalls G Q f args oin res own) → vc G Q τ fn.ntmps (fn.body.getD .skip) (St.initO args oin fn.ntmps) (post τ fn.results.toList res own)) : OCalls G P f args oin res own :=
  ocalls_vc hτ hm hf hname (by cases hq : fn.body <;> simp_all) (by simpa [Nat.ble_eq] using hargs) (h P (fun _ _ _ _ h => h) (fun _ _ _ _ _ h => h))
/-- As 'acalls_fn', with all sorts of calls. -/
theorem acalls_fnA (hst : Stable G) (hm : P.follows .mixedOrders = true) (hτ : TauOK P τ) {f : FuncId} {fn : Func} {args : List PV} {res : PV} {own : Own} (hf : P.funcs[f]? = some fn) (hname : (fn.name == "runtime.NumGoroutine") = false) (hb : fn.body.isSome = true)
    (hargs : Nat.ble args.length fn.ntmps = true) (h : ∀ Q, (∀ f args res own, ACalls G P f args res own → ACalls G Q f args res own) → (∀ f args hs res own hs', HCalls G P f args hs res own hs' → HCalls G Q f args hs res own hs') →
      (∀ f args oin res own, OCalls G P f args oin res own → OCalls G Q f args oin res own) → vc G Q τ fn.ntmps (fn.body.getD .skip) (St.init args fn.ntmps) (post τ fn.results.toList res own)) : ACalls G P f args res own :=
  acalls_vc hst hτ hm hf hname (by cases hq : fn.body <;> simp_all) (by simpa [Nat.ble_eq] using hargs) (h P (fun _ _ _ _ h => h) (fun _ _ _ _ _ _ h => h) (fun _ _ _ _ _ h => h))
end
end Go.Proofs.YtbjfmkmaghapgaaGreatDoor.B
