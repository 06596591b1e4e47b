/-
Closed runs: blocks by other numbers; a call's answer by one that was found once. Condition: none.
-/
import Derived.Test.YtohcohbbmjhnfaaGreatDoorXY
set_option linter.unusedVariables false
set_option linter.unusedSectionVars false
set_option linter.unusedSimpArgs false
set_option linter.unnecessarySimpa false
namespace Go.Proofs.YtohcohbbmjhnfaaGreatDoor.X
open Go Go.RowKit
noncomputable section
variable [Tabs]
mutual
def XV.rn (ρ : Nat → Nat) : XV → XV
  | .un => .un
  | .int k n => .int k n
  | .bool b => .bool b
  | .str l n => .str l n
  | .nilp => .nilp
  | .ptr b o => .ptr (ρ b) o
  | .nils => .nils
  | .sl b o l c k e => .sl (ρ b) o l c k e
  | .nilm => .nilm
  | .map b => .map (ρ b)
  | .nilf => .nilf
  | .fn f xs ys => .fn f (rns ρ xs) (rns ρ ys)
  | .nili => .nili
  | .iface t v => .iface t (v.rn ρ)
  | .agg cs => .agg (rns ρ cs)
  | .tup cs => .tup (rns ρ cs)
def rns (ρ : Nat → Nat) : List XV → List XV
  | [] => []
  | x :: xs => x.rn ρ :: rns ρ xs
end
abbrev Ren.by (β : Ren) (ρ : Nat → Nat) : Ren := fun b => β (ρ b)
mutual
theorem VR.rn {β : Ren} {ρ : Nat → Nat} : ∀ (x : XV) {v : Value}, VR β (x.rn ρ) v ↔ VR (β.by ρ) x v
  | .un, _ => Iff.rfl
  | .int .., _ => Iff.rfl
  | .bool _, _ => Iff.rfl
  | .str .., _ => Iff.rfl
  | .nilp, _ => Iff.rfl
  | .ptr .., _ => Iff.rfl
  | .nils, _ => Iff.rfl
  | .sl .., _ => Iff.rfl
  | .nilm, _ => Iff.rfl
  | .map _, _ => Iff.rfl
  | .nilf, _ => Iff.rfl
  | .fn f xs ys, v => ⟨fun ⟨fs, cs, e, h1, h2⟩ => ⟨fs, cs, e, (VRs.rn xs).1 h1, (VRs.rn ys).1 h2⟩, fun ⟨fs, cs, e, h1, h2⟩ => ⟨fs, cs, e, (VRs.rn xs).2 h1, (VRs.rn ys).2 h2⟩⟩
  | .nili, _ => Iff.rfl
  | .iface t x, v => ⟨fun ⟨u, e, h⟩ => ⟨u, e, (VR.rn x).1 h⟩, fun ⟨u, e, h⟩ => ⟨u, e, (VR.rn x).2 h⟩⟩
  | .agg xs, v => ⟨fun ⟨u, e, h⟩ => ⟨u, e, (VRs.rn xs).1 h⟩, fun ⟨u, e, h⟩ => ⟨u, e, (VRs.rn xs).2 h⟩⟩
  | .tup xs, v => ⟨fun ⟨u, e, h⟩ => ⟨u, e, (VRs.rn xs).1 h⟩, fun ⟨u, e, h⟩ => ⟨u, e, (VRs.rn xs).2 h⟩⟩
theorem VRs.rn {β : Ren} {ρ : Nat → Nat} : ∀ (xs : List XV) {vs : List Value}, VRs β (rns ρ xs) vs ↔ VRs (β.by ρ) xs vs
  | [], _ => Iff.rfl
  | x :: xs, vs => ⟨fun ⟨u, us, e, h1, h2⟩ => ⟨u, us, e, (VR.rn x).1 h1, (VRs.rn xs).1 h2⟩, fun ⟨u, us, e, h1, h2⟩ => ⟨u, us, e, (VR.rn x).2 h1, (VRs.rn xs).2 h2⟩⟩
end
theorem XV.rn_one (ρ : Nat → Nat) (x : XV) : (x.rn ρ).one = x.one := by cases x <;> rfl
def Tr.mapT {α : Type} (f : α → α) : Tr α → Tr α
  | .nil => .nil
  | .node x l r => .node (f x) (l.mapT f) (r.mapT f)
theorem Tr.mapT_get {α : Type} {f : α → α} : ∀ (t : Tr α) (n : Nat), (t.mapT f).get n = (t.get n).map f
  | .nil, n => rfl
  | .node x l r, n => by
    show Tr.get (.node (f x) (l.mapT f) (r.mapT f)) n = _
    simp only [Tr.get_node]
    split
    · rfl
    · split
      · exact Tr.mapT_get l _
      · exact Tr.mapT_get r _
def AE.rn (ρ : Nat → Nat) (e : AE) : AE := ⟨e.key.rn ρ, e.val.rn ρ, e.born⟩
theorem ERs.rn {β : Ren} {ρ : Nat → Nat} : ∀ {es : List AE} {l : List MapEntry}, ERs β (es.map (AE.rn ρ)) l ↔ ERs (β.by ρ) es l
  | [], _ => Iff.rfl
  | x :: xs, l => ⟨fun ⟨e, r, h0, h1, h2, h3, h4⟩ => ⟨e, r, h0, (VR.rn _).1 h1, (VR.rn _).1 h2, h3, ERs.rn.1 h4⟩, fun ⟨e, r, h0, h1, h2, h3, h4⟩ => ⟨e, r, h0, (VR.rn _).2 h1, (VR.rn _).2 h2, h3, ERs.rn.2 h4⟩⟩
def AE.rnL (ρ : Nat → Nat) (e : AE) : AE := ⟨e.key.rn ρ, e.val.rn ρ, ρ e.born⟩
def AO.rn (ρ : Nat → Nat) : AO → AO
  | .dead => .dead
  | .cells t n e wr ex => .cells (t.mapT (XV.rn ρ)) n e wr ex
  | .map es c => .map (es.map (AE.rn ρ)) c
  | .miter m s hd seen last => .miter (m.map ρ) s hd seen last
  | .siter l n pos => .siter l n pos
  | .umap es c => .umap (es.map (AE.rn ρ)) c
  | .lmap es c => .lmap (es.map (AE.rnL ρ)) c
  | .uiter m s hd seen last => .uiter (ρ m) s (hd.map ρ) (seen.map ρ) last
theorem AO.rn_wr (ρ : Nat → Nat) (o : AO) : (o.rn ρ).wr = o.wr := by cases o <;> rfl
/-- Known of other numbers: known of these. -/
theorem BR.raise {β : Ren} {ρ : Nat → Nat} {w : World} {bi : BI} : ∀ {o : AO}, BR (β.by ρ) w bi o → BR β w bi (o.rn ρ)
  | .dead, _ => trivial
  | .cells t n e wr ex, ⟨c, fr, h1, h2, h3, h4, h5⟩ => ⟨c, fr, h1, h2, h3, fun i hi => by
      obtain ⟨x, v, k1, k2, k3⟩ := h4 i hi
      exact ⟨x.rn ρ, v, by rw [Tr.mapT_get, k1]; rfl, k2, (VR.rn x).2 k3.v, by rw [XV.rn_one]; exact k3.one⟩, h5⟩
  | .map es c, ⟨arr, h1, h2⟩ => ⟨arr, h1, ERs.rn.2 h2⟩
  | .miter none s hd seen last, h => h
  | .miter (some m) s hd seen last, h => h
  | .siter .., h => h
  | .umap es c, ⟨arr, es', h1, h2, h3, h4⟩ => ⟨arr, es'.map (AE.rn ρ), h1, by
      have := h2.map (AE.rn ρ)
      rw [List.map_map] at this ⊢
      exact this, ERs.rn.2 h3, h4⟩
  | .lmap es c, ⟨arr, es', h1, h2, h3, h4, h5⟩ => ⟨arr, es'.map (AE.rn ρ), h1, by
      have := h2.map (AE.rn ρ)
      rw [List.map_map] at this ⊢
      exact this, fun e he => by
      obtain ⟨e0, k1, rfl⟩ := List.mem_map.1 he
      exact h3 e0 k1, ERs.rn.2 h4, h5⟩
  | .uiter m s hd seen last, ⟨h0, arr, bm, h1, h2, h3, h4, h5⟩ => ⟨h0, arr, bm, h1, h2, fun e he => by
      obtain ⟨e0, k1, rfl⟩ := List.mem_map.1 he
      exact h3 e0 k1, fun x => (h4 x).trans ⟨fun ⟨e, a, b⟩ => ⟨ρ e, List.mem_map_of_mem a, b⟩, fun ⟨e, a, b⟩ => by
      obtain ⟨e0, k1, rfl⟩ := List.mem_map.1 a
      exact ⟨e0, k1, b⟩⟩, fun s hs => by
      cases hd with
      | none => cases hs
      | some s0 =>
        cases hs
        exact ⟨List.mem_map_of_mem (h5 s0 rfl).1, (h5 s0 rfl).2⟩⟩
def impB (a b : Bool) : Bool := match a with
  | true => b
  | false => true
theorem impB_ok {a b : Bool} (h : impB a b = true) (ha : a = true) : b = true := by subst ha; exact h
/-- A block says no more than another, by its numbers. -/
def aoLe (ρ : Nat → Nat) (o2 o : AO) : Bool :=
  match o2, o with
  | .dead, _ => true
  | .cells t2 n2 e2 wr2 ex2, .cells t n e wr ex => match Nat.beq n2 n, Nat.beq e2 e, impB wr2 wr, impB ex2 ex with
    | true, true, true, true => match t2.gets 0 n, t.gets 0 n with
      | some l2, some l => beqXs (rns ρ l2) l
      | _, _ => false
    | _, _, _, _ => false
  | .map es2 c2, .map es c => match Nat.beq c2 c with
    | true => beqEs (es2.map (AE.rn ρ)) es
    | false => false
  | _, _ => false
theorem rns_get {ρ : Nat → Nat} : ∀ {xs : List XV} {i : Nat}, (rns ρ xs)[i]? = (xs[i]?).map (XV.rn ρ)
  | [], i => by simp [rns]
  | x :: xs, 0 => by simp [rns]
  | x :: xs, i + 1 => by simp only [rns, List.getElem?_cons_succ]; exact rns_get
theorem BR.lower {β : Ren} {ρ : Nat → Nat} {w : World} {bi : BI} {o2 o : AO} (h : aoLe ρ o2 o = true) (hb : BR β w bi o) : BR (β.by ρ) w bi o2 := by
  unfold aoLe at h
  split at h
  · trivial
  · rename_i t2 n2 e2 wr2 ex2 t n e wr ex
    split at h
    · rename_i q1 q2 q3 q4
      have q1 := beq_t q1
      have q2 : e2 = e := beq_t q2
      subst q1; subst q2
      split at h
      · rename_i l2 l g2 g
        have hl := beqXs_ok h
        obtain ⟨a1, a2⟩ := Tr.gets_some g2
        obtain ⟨b1, b2⟩ := Tr.gets_some g
        obtain ⟨c, fr, h1, h2, h3, h4, h5, h6⟩ := hb
        refine ⟨c, fr, h1, h2, h3, fun i hi => ?_, fun q => h5 (impB_ok q3 q), fun q => h6 (impB_ok q4 q)⟩
        obtain ⟨x, v, k1, k2, k3⟩ := h4 i hi
        have e1 := b2 i hi
        rw [Nat.zero_add, k1, ← hl, rns_get] at e1
        have e2 := a2 i hi
        rw [Nat.zero_add] at e2
        cases hx2 : l2[i]? with
        | none => rw [hx2] at e1; cases e1
        | some x2 =>
          rw [hx2] at e1 e2
          have e1 : x = x2.rn ρ := Option.some.inj e1
          subst e1
          exact ⟨x2, v, e2, k2, (VR.rn x2).1 k3.v, by rw [← XV.rn_one ρ]; exact k3.one⟩
      · cases h
    · cases h
  · split at h
    · rename_i q
      have q := beq_t q
      subst q
      obtain ⟨arr, h1, h2⟩ := hb
      have := beqEs_ok h
      exact ⟨arr, h1, ERs.rn.1 (by rw [this]; exact h2)⟩
    · cases h
  · cases h
theorem aoLe_live {ρ : Nat → Nat} {o2 o : AO} (h : aoLe ρ o2 o = true) (hl : o2.live = true) : o.live = true := by
  cases o2 <;> cases o <;> first | rfl | (cases hl; done) | (cases h; done)
theorem aoLe_wr {ρ : Nat → Nat} {o2 o : AO} (h : aoLe ρ o2 o = true) (hl : o2.wr = true) : o.wr = true := by
  cases o2 <;> cases o <;> first | rfl | (cases hl; done) | (cases h; done) | skip
  unfold aoLe at h
  simp only at h
  split at h
  · rename_i q1 q2 q3 q4; exact impB_ok q3 hl
  · cases h
/-- Some of the blocks, by other numbers. -/
theorem HR.sub {B B' : Nat} {β : Ren} {h h2 : Heap} {nx n2 : Nat} {w : World} {ρ : Nat → Nat} (hr : HR B β h nx w) (hout : ∀ b, n2 ≤ b → nx ≤ ρ b)
    (hblk : ∀ b o2, b < n2 → h2.get b = some o2 → o2.live = true → ∃ o, h.get (ρ b) = some o ∧ aoLe ρ o2 o = true) (hinj : ∀ b b', b < n2 → b' < n2 → ρ b = ρ b' → b = b')
    (hnew : ∀ b bi o2, b < n2 → β (ρ b) = some bi → h2.get b = some o2 → o2.wr = true → B' ≤ bi.rb) (htb : Tabs.tb B' w) : HR B' (β.by ρ) h2 n2 w := by
  have hlt : ∀ b bi, β (ρ b) = some bi → b < n2 := fun b bi e => by
    have := (hr.lt _ _ e).1
    by_cases q : b < n2
    · exact q
    · have := hout b (by omega); omega
  refine ⟨fun b bi o2 e1 e2 => ?_, fun b bi e => ⟨hlt b bi e, (hr.lt _ _ e).2⟩, fun b b' bi bi' o o' e1 e2 e3 e4 l1 l2 er => ?_, fun b bi o2 e1 e2 e3 => hnew b bi o2 (hlt b bi e1) e1 e2 e3, htb⟩
  · cases hl : o2.live with
    | false => cases o2 <;> first | trivial | cases hl
    | true =>
      obtain ⟨o, k1, k2⟩ := hblk b o2 (hlt b bi e1) e2 hl
      exact BR.lower k2 (hr.blk _ _ _ e1 k1)
  · have hb := hlt b bi e1
    have hb' := hlt b' bi' e2
    obtain ⟨p, k1, k2⟩ := hblk b o hb e3 l1
    obtain ⟨p', k1', k2'⟩ := hblk b' o' hb' e4 l2
    exact hinj b b' hb hb' (hr.inj _ _ _ _ _ _ e1 e2 k1 k1' (aoLe_live k2 l1) (aoLe_live k2' l2) er)
/-! ### numbers by a list -/
def ofIl (il : List Nat) (d b : Nat) : Nat := Option.rec (motive := fun _ => Nat) d (fun a => a) (nthO il b)
theorem ofIl_get {il : List Nat} {d b : Nat} (h : b < il.length) : ofIl il d b = il[b] := by
  unfold ofIl
  rw [nthO_eq, List.getElem?_eq_getElem h]
theorem ofIl_out {il : List Nat} {d b : Nat} (h : il.length ≤ b) : ofIl il d b = d := by
  unfold ofIl
  rw [nthO_eq, List.getElem?_eq_none h]
def subL (ρ : Nat → Nat) (h h2 : Heap) : Nat → List Nat → Bool
  | _, [] => true
  | b, a :: r => match h2.get b with
    | none => subL ρ h h2 (Nat.succ b) r
    | some o2 => match o2.live with
      | false => subL ρ h h2 (Nat.succ b) r
      | true => match h.get a with
        | none => false
        | some o => match aoLe ρ o2 o with
          | true => subL ρ h h2 (Nat.succ b) r
          | false => false
theorem subL_ok {ρ : Nat → Nat} {h h2 : Heap} : ∀ {il : List Nat} {n : Nat}, subL ρ h h2 n il = true → ∀ i (hi : i < il.length) o2, h2.get (n + i) = some o2 → o2.live = true → ∃ o, h.get il[i] = some o ∧ aoLe ρ o2 o = true
  | [], n, _, i, hi, _, _, _ => by simp at hi
  | a :: r, n, hx, i, hi, o2, e, hl => by
    have step : subL ρ h h2 (n + 1) r = true ∧ ∀ o3, h2.get n = some o3 → o3.live = true → ∃ o, h.get a = some o ∧ aoLe ρ o3 o = true := by
      unfold subL at hx
      split at hx
      · rename_i q; exact ⟨hx, fun o3 e3 => by rw [q] at e3; cases e3⟩
      · rename_i o3 q
        split at hx
        · rename_i q2; exact ⟨hx, fun o4 e4 h4 => by rw [q] at e4; cases e4; rw [q2] at h4; cases h4⟩
        · split at hx
          · cases hx
          · rename_i o q3
            split at hx
            · rename_i q4; exact ⟨hx, fun o4 e4 _ => by rw [q] at e4; cases e4; exact ⟨o, q3, q4⟩⟩
            · cases hx
    cases i with
    | zero => exact step.2 o2 e hl
    | succ i =>
      have := subL_ok step.1 i (by simpa using hi) o2 (by rw [← e]; congr 1; omega) hl
      simpa using this
def noDup : List Nat → Bool
  | [] => true
  | a :: r => match memN a r with
    | true => false
    | false => noDup r
theorem noDup_ok : ∀ {l : List Nat}, noDup l = true → l.Nodup
  | [], _ => List.nodup_nil
  | a :: r, h => by
    unfold noDup at h
    split at h
    · cases h
    · rename_i q
      refine List.nodup_cons.2 ⟨fun hm => ?_, noDup_ok h⟩
      rw [memN_iff.2 hm] at q; cases q
theorem ofIl_inj {il : List Nat} {d b b' : Nat} (hn : noDup il = true) (hb : b < il.length) (hb' : b' < il.length) (e : ofIl il d b = ofIl il d b') : b = b' := by
  rw [ofIl_get hb, ofIl_get hb'] at e
  have hn := noDup_ok hn
  exact (List.getElem_inj hn).1 e
def allLt (n : Nat) : List Nat → Bool
  | [] => true
  | a :: r => match Nat.blt a n with
    | true => allLt n r
    | false => false
theorem allLt_ok {n : Nat} : ∀ {l : List Nat}, allLt n l = true → ∀ a, a ∈ l → a < n
  | [], _, a, h => by simp at h
  | x :: r, h, a, ha => by
    unfold allLt at h
    split at h
    · rename_i q
      rcases List.mem_cons.1 ha with rfl | ha
      · simpa [blt_iff] using q
      · exact allLt_ok h a ha
    · cases h
/-- None of the first blocks is written. -/
def roL (h : Heap) : Nat → Bool
  | 0 => true
  | n + 1 => match h.get n with
    | none => roL h n
    | some o => match o.wr with
      | true => false
      | false => roL h n
theorem roL_ok {h : Heap} : ∀ {n : Nat}, roL h n = true → ∀ b o, b < n → h.get b = some o → o.wr = false
  | 0, _, b, o, hb, _ => by omega
  | n + 1, hx, b, o, hb, e => by
    unfold roL at hx
    have : roL h n = true ∧ ∀ o, h.get n = some o → o.wr = false := by
      split at hx
      · rename_i q; exact ⟨hx, fun o e => by rw [q] at e; cases e⟩
      · rename_i o q
        split at hx
        · cases hx
        · rename_i q2; exact ⟨hx, fun o' e => by rw [q] at e; cases e; exact q2⟩
    by_cases q : b = n
    · subst q; exact this.2 o e
    · exact roL_ok this.1 b o (by omega) e
/-! ### what was found is laid into another memory -/
def pick (ρ : Nat → Nat) (h1 : Heap) (n j : Nat) : AO := match h1.get (Nat.add n j) with
  | none => .dead
  | some o => match o.wr with
    | true => o.rn ρ
    | false => .dead
def graft (ρ : Nat → Nat) (h1 : Heap) (n nx : Nat) : Nat → Heap → Heap
  | 0, h => h
  | k + 1, h => (graft ρ h1 n nx k h).set (Nat.add nx k) (pick ρ h1 n k)
theorem graft_old {ρ : Nat → Nat} {h1 : Heap} {n nx b : Nat} {h : Heap} (hb : b < nx) : ∀ {k : Nat}, (graft ρ h1 n nx k h).get b = h.get b
  | 0 => rfl
  | k + 1 => (Tr.get_set_ne _ _ _ _ (by show b ≠ nx + k; omega)).trans (graft_old hb)
theorem graft_new {ρ : Nat → Nat} {h1 : Heap} {n nx b : Nat} {h : Heap} {o : AO} (hb : nx ≤ b) : ∀ {k : Nat}, b < nx + k → (graft ρ h1 n nx k h).get b = some o → o = pick ρ h1 n (b - nx)
  | 0, hk, _ => by omega
  | k + 1, hk, e => by
    rcases Tr.get_set e with ⟨q1, q2⟩ | ⟨q1, q2⟩
    · have q1 : b = nx + k := q1
      rw [q2, q1, Nat.add_sub_cancel_left]
    · have q1 : b ≠ nx + k := q1
      exact graft_new hb (by omega) q2
theorem pick_cases {ρ : Nat → Nat} {h1 : Heap} {n j : Nat} : pick ρ h1 n j = .dead ∨ ∃ o, h1.get (n + j) = some o ∧ o.wr = true ∧ pick ρ h1 n j = o.rn ρ := by
  unfold pick
  split
  · exact .inl rfl
  · rename_i o q
    split
    · rename_i q2; exact .inr ⟨o, q, q2, rfl⟩
    · exact .inl rfl
/-- The numbers in the new memory. -/
def outIl (il : List Nat) (n nx b : Nat) : Nat := Option.rec (motive := fun _ => Nat) (Nat.add nx (Nat.sub b n)) (fun a => a) (nthO il b)
theorem laid_ok {B fl : Nat} {β : Ren} {h : Heap} {nx : Nat} {w : World} (hr : HR B β h nx w) (hB : B ≤ w.heap.size) (hfl : fl ≤ nx) {il : List Nat} {n : Nat} (hil : il.length = n) (hlt : ∀ a, a ∈ il → a < nx) {h0 h1 : Heap} {β1 : Ren} {n1 : Nat} {w' : World}
    (g : Go_ w.heap.size 0 (β.by (ofIl il nx)) h0 n w β1 h1 n1 w') : ∃ β', (∀ b, β' (outIl il n nx b) = β1 b) ∧ Go_ B fl β h nx w β' (graft (outIl il n nx) h1 n nx (Nat.sub n1 n) h) (nx + (n1 - n)) w' := by
  let β' : Ren := fun b => if b < nx then β b else β1 (n + (b - nx))
  have hold : ∀ b, b < nx → β' b = β b := fun b hb => if_pos hb
  have hnw : ∀ b, nx ≤ b → β' b = β1 (n + (b - nx)) := fun b hb => if_neg (by omega)
  have hnone : ∀ b, b < n → ∀ bi, β1 b = some bi → β (ofIl il nx b) = some bi := fun b hb bi e => by
    rcases g.none b bi e with q | q
    · exact q
    · omega
  have key : ∀ b, β' (outIl il n nx b) = β1 b := fun b => by
    by_cases hb : b < n
    · have hb' : b < il.length := by omega
      have e1 : outIl il n nx b = ofIl il nx b := by
        unfold outIl
        rw [nthO_eq, List.getElem?_eq_getElem hb', ofIl_get hb']
      have e2 : ofIl il nx b < nx := by rw [ofIl_get hb']; exact hlt _ (List.getElem_mem hb')
      rw [e1, hold _ e2]
      cases q : β (ofIl il nx b) with
      | some bi => exact (g.ext b bi q).symm
      | none => cases q2 : β1 b with
        | none => rfl
        | some bi => rw [hnone b hb bi q2] at q; cases q
    · have e1 : outIl il n nx b = nx + (b - n) := by
        unfold outIl
        rw [nthO_eq, List.getElem?_eq_none (by omega)]
        rfl
      rw [e1, hnw _ (by omega)]
      congr 1
      omega
  have hfun : β1 = β'.by (outIl il n nx) := funext fun b => (key b).symm
  have hmem : ∀ k, k < w.heap.size → w'.heap[k]? = w.heap[k]? := fun k hk => g.below.block k hk
  have hext : Ext β β' := fun b bi e => by rw [hold b (hr.lt b bi e).1]; exact e
  have hin : ∀ b bi, nx ≤ b → β' b = some bi → n + (b - nx) < n1 ∧ bi.rb < w'.heap.size := fun b bi hb e => by
    rw [hnw b hb] at e
    exact g.hr.lt _ _ e
  have hnewb : ∀ b bi o, nx ≤ b → β' b = some bi → (graft (outIl il n nx) h1 n nx (Nat.sub n1 n) h).get b = some o → o.live = true → w.heap.size ≤ bi.rb ∧ ∃ o1, h1.get (n + (b - nx)) = some o1 ∧ o1.wr = true ∧ o = o1.rn (outIl il n nx) := fun b bi o hb e1 e2 hl => by
    have h1' := (hin b bi hb e1).1
    have e3 := graft_new hb (by show b < nx + (n1 - n); omega) e2
    rcases pick_cases (ρ := outIl il n nx) (h1 := h1) (n := n) (j := b - nx) with q | ⟨o1, q1, q2, q3⟩
    · rw [e3, q] at hl; cases hl
    · rw [hnw b hb] at e1
      exact ⟨g.hr.new _ _ _ e1 q1 q2, o1, q1, q2, e3.trans q3⟩
  refine ⟨β', key, hext, fun b bi e => ?_, Nat.le_add_right .., ⟨fun b bi o e1 e2 => ?_, fun b bi e => ?_, fun b b' bi bi' o o' e1 e2 e3 e4 l1 l2 er => ?_, fun b bi o e1 e2 e3 => ?_, Tabs.st hr.tb (g.below.mono hB)⟩, g.below.mono hB, g.size, fun b hb => graft_old (by omega)⟩
  · by_cases hb : b < nx
    · rw [hold b hb] at e; exact .inl e
    · exact .inr (by omega)
  · by_cases hb : b < nx
    · rw [hold b hb] at e1
      rw [graft_old hb] at e2
      exact (hr.blk b bi o e1 e2).mono hext (hmem _ (hr.lt b bi e1).2)
    · cases hl : o.live with
      | false => cases o <;> first | trivial | cases hl
      | true =>
        obtain ⟨_, o1, q1, q2, rfl⟩ := hnewb b bi o (by omega) e1 e2 hl
        rw [hnw b (by omega)] at e1
        have := g.hr.blk _ _ _ e1 q1
        rw [hfun] at this
        exact BR.raise this
  · by_cases hb : b < nx
    · rw [hold b hb] at e
      have := hr.lt b bi e
      exact ⟨by omega, by have := g.size; omega⟩
    · have := hin b bi (by omega) e
      exact ⟨by omega, this.2⟩
  · by_cases hb : b < nx
    · rw [hold b hb] at e1
      rw [graft_old hb] at e3
      by_cases hb' : b' < nx
      · rw [hold b' hb'] at e2
        rw [graft_old hb'] at e4
        exact hr.inj _ _ _ _ _ _ e1 e2 e3 e4 l1 l2 er
      · have h3 := (hnewb b' bi' o' (by omega) e2 e4 l2).1
        have := (hr.lt b bi e1).2
        omega
    · obtain ⟨h3, o1, q1, q2, rfl⟩ := hnewb b bi o (by omega) e1 e3 l1
      by_cases hb' : b' < nx
      · rw [hold b' hb'] at e2
        have := (hr.lt b' bi' e2).2
        omega
      · obtain ⟨h3', o1', q1', q2', rfl⟩ := hnewb b' bi' o' (by omega) e2 e4 l2
        rw [hnw b (by omega)] at e1
        rw [hnw b' (by omega)] at e2
        have := g.hr.inj _ _ _ _ _ _ e1 e2 q1 q1' (by cases o1 <;> first | rfl | cases q2) (by cases o1' <;> first | rfl | cases q2') er
        omega
  · by_cases hb : b < nx
    · rw [hold b hb] at e1
      rw [graft_old hb] at e2
      exact hr.new _ _ _ e1 e2 e3
    · have := (hnewb b bi o (by omega) e1 e2 (by cases o <;> first | rfl | cases e3)).1
      omega
/-! ### answers found once -/
structure Ent where
  f : FuncId
  xs : List XV
  h : Heap
  n : Nat
  outs : Outs
def Ent.OK (P : Program) (e : Ent) : Prop :=
  ∀ {B : Nat} {β : Ren} {w : World} {vs : List Value}, HR B β e.h e.n w → B ≤ w.heap.size → VRs β e.xs vs →
    Callable P e.f ∧ Calls P e.f vs.toArray w fun en w' => ∃ x h' nx', (x, h', nx') ∈ e.outs ∧ ∃ v β', en = .returned v ∧ Go_ B 0 β e.h e.n w β' h' nx' w' ∧ VR β' x v
def laidO (il : List Nat) (n nx : Nat) (h : Heap) : Outs → Outs
  | [] => []
  | o :: r => (o.1.rn (outIl il n nx), graft (outIl il n nx) o.2.1 n nx (Nat.sub o.2.2 n) h, Nat.add nx (Nat.sub o.2.2 n)) :: laidO il n nx h r
theorem laidO_mem {il : List Nat} {n nx : Nat} {h : Heap} {o : XV × Heap × Nat} : ∀ {l : Outs}, o ∈ l → (o.1.rn (outIl il n nx), graft (outIl il n nx) o.2.1 n nx (Nat.sub o.2.2 n) h, Nat.add nx (Nat.sub o.2.2 n)) ∈ laidO il n nx h l
  | [], hm => by simp at hm
  | p :: r, hm => by
    rcases List.mem_cons.1 hm with rfl | hm
    · exact List.mem_cons_self ..
    · exact List.mem_cons_of_mem _ (laidO_mem hm)
def reachL (h : Heap) (xs : List XV) : List Nat := (reachX h 100000 xs []).reverse
def entIl (e : Ent) (h : Heap) (nx : Nat) (xs : List XV) (il : List Nat) : Option Outs :=
  match Nat.beq il.length e.n, beqXs (rns (ofIl il nx) e.xs) xs with
  | true, true => match allLt nx il, noDup il, roL e.h e.n, subL (ofIl il nx) h e.h 0 il with
    | true, true, true, true => some (laidO il e.n nx h e.outs)
    | _, _, _, _ => none
  | _, _ => none
def entX (e : Ent) (h : Heap) (nx : Nat) (xs : List XV) : Option Outs := entIl e h nx xs (reachL h xs)
theorem entIl_ok {P : Program} {e : Ent} (he : e.OK P) {B fl : Nat} {xs : List XV} {h : Heap} {nx : Nat} {outs : Outs} {il : List Nat} (hx : entIl e h nx xs il = some outs) {β : Ren} {w : World} {vs : List Value} (hr : HR B β h nx w) (hB : B ≤ w.heap.size) (hfl : fl ≤ nx) (hv : VRs β xs vs) :
    Callable P e.f ∧ Calls P e.f vs.toArray w fun en w' => ∃ x h' nx', (x, h', nx') ∈ outs ∧ ∃ v β', en = .returned v ∧ Go_ B fl β h nx w β' h' nx' w' ∧ VR β' x v := by
  unfold entIl at hx
  split at hx
  · rename_i q1 q2
    have q1 := beq_t q1
    split at hx
    · rename_i q3 q4 q5 q6
      cases hx
      have hlt := allLt_ok q3
      have hsub : HR w.heap.size (β.by (ofIl il nx)) e.h e.n w := by
        refine hr.sub (fun b hb => by rw [ofIl_out (by omega)]; exact Nat.le_refl _) (fun b o2 hb e1 e2 => ?_) (fun b b' hb hb' e1 => ofIl_inj q4 (by omega) (by omega) e1) (fun b bi o2 hb e1 e2 e3 => ?_) (Tabs.up hr.tb hB)
        · have hb' : b < il.length := by omega
          have := subL_ok q6 b hb' o2 (by rw [Nat.zero_add]; exact e1) e2
          rw [ofIl_get hb']
          exact this
        · rw [roL_ok q5 b o2 hb e2] at e3; cases e3
      have hxs : VRs (β.by (ofIl il nx)) e.xs vs := by
        refine (VRs.rn _).1 ?_
        rw [beqXs_ok q2]; exact hv
      obtain ⟨c1, c2⟩ := he hsub (Nat.le_refl _) hxs
      refine ⟨c1, Calls.mono c2 ?_⟩
      rintro en w' ⟨x, h', nx', hm, v, β1, rfl, hg, hxv⟩
      obtain ⟨β', k1, k2⟩ := laid_ok (fl := fl) hr hB hfl q1 hlt hg
      refine ⟨_, _, _, laidO_mem hm, v, β', rfl, k2, ?_⟩
      refine (VR.rn _).2 ?_
      have : β'.by (outIl il e.n nx) = β1 := funext k1
      rw [this]; exact hxv
    · cases hx
  · cases hx
def findEn (l : List Ent) (f : FuncId) (xs : List XV) (h : Heap) (nx : Nat) : Option Outs :=
  match l with
  | [] => none
  | e :: r => match Nat.beq f e.f with
    | true => match entX e h nx xs with
      | some outs => some outs
      | none => findEn r f xs h nx
    | false => findEn r f xs h nx
theorem findEn_ok {P : Program} {fl : Nat} {f : FuncId} {xs : List XV} {h : Heap} {nx : Nat} {outs : Outs} : ∀ {l : List Ent}, (∀ e, e ∈ l → e.OK P) → findEn l f xs h nx = some outs → ∀ {B : Nat} {β : Ren} {w : World} {vs : List Value}, HR B β h nx w → B ≤ w.heap.size → fl ≤ nx → VRs β xs vs →
    Callable P f ∧ Calls P f vs.toArray w fun en w' => ∃ x h' nx', (x, h', nx') ∈ outs ∧ ∃ v β', en = .returned v ∧ Go_ B fl β h nx w β' h' nx' w' ∧ VR β' x v
  | [], _, hx, _, _, _, _, _, _, _, _ => by cases hx
  | e :: r, hl, hx, B, β, w, vs, hr, hB, hfl, hv => by
    unfold findEn at hx
    split at hx
    · rename_i q
      have q := beq_t q
      subst q
      split at hx
      · rename_i outs' q2
        cases hx
        exact entIl_ok (hl e (List.mem_cons_self ..)) q2 hr hB hfl hv
      · exact findEn_ok (fun e he => hl e (List.mem_cons_of_mem _ he)) hx hr hB hfl hv
    · exact findEn_ok (fun e he => hl e (List.mem_cons_of_mem _ he)) hx hr hB hfl hv
/-- Calls whose answers were found once; others by 'k'. -/
def memoX (l : List Ent) (k : CallF) : CallF := fun fl f xs h nx => Option.rec (motive := fun _ => Option Outs) (k fl f xs h nx) (fun outs => some outs) (findEn l f xs h nx)
theorem memoX_ok {P : Program} {l : List Ent} {k : CallF} (hl : ∀ e, e ∈ l → e.OK P) (hk : CallOK P k) : CallOK P (memoX l k) := by
  intro B fl f xs h nx outs hx β w vs hr hB hfl hv
  unfold memoX at hx
  cases q : findEn l f xs h nx with
  | none => rw [q] at hx; exact hk hx hr hB hfl hv
  | some outs' => rw [q] at hx; cases hx; exact findEn_ok hl q hr hB hfl hv
/-! ### how an answer is found -/
def upto : Nat → List Nat → List Nat
  | 0, r => r
  | n + 1, r => upto n (n :: r)
theorem upto_length : ∀ (n : Nat) (r : List Nat), (upto n r).length = n + r.length
  | 0, r => by simp [upto]
  | n + 1, r => by rw [upto, upto_length n]; simp; omega
theorem upto_get : ∀ {n b : Nat} {r : List Nat}, b < n → (upto n r)[b]? = some b
  | 0, b, r, h => by omega
  | n + 1, b, r, h => by
    rw [upto]
    by_cases q : b < n
    · exact upto_get q
    · have : b = n := by omega
      subst this
      have key : ∀ (n : Nat) (r : List Nat), (upto n r)[n]? = r[0]? := by
        intro n
        induction n with
        | zero => intro r; rfl
        | succ n ih =>
          intro r
          have key2 : ∀ (m : Nat) (r : List Nat) (i : Nat), (upto m r)[m + i]? = r[i]? := by
            intro m
            induction m with
            | zero => intro r i; rw [Nat.zero_add]; rfl
            | succ m ih2 => intro r i; rw [upto, show m + 1 + i = m + (i + 1) by omega, ih2]; rfl
          exact key2 (n + 1) r 0
      rw [key]; rfl
def geN (n : Nat) : List Nat → List Nat
  | [] => []
  | a :: r => match Nat.ble n a with
    | true => a :: geN n r
    | false => geN n r
/-- The blocks of an answer that are kept, as numbers of the run's. -/
def keptL (n : Nat) (o : XV × Heap × Nat) : List Nat := upto n (geN n (reachL o.2.1 [o.1]))
/-- An answer says no more than what was found. -/
def wkIl (n : Nat) (o o2 : XV × Heap × Nat) (il : List Nat) : Bool :=
  match Nat.beq il.length o2.2.2, Nat.ble n il.length, beqX (o2.1.rn (ofIl il o.2.2)) o.1 with
  | true, true, true => match noDup il with
    | true => subL (ofIl il o.2.2) o.2.1 o2.2.1 0 il
    | false => false
  | _, _, _ => false
theorem wk_ok {B n : Nat} {β β' : Ren} {h : Heap} {w w' : World} {x x2 : XV} {h' h2 : Heap} {n' n2 : Nat} {r : List Nat} (hr0 : HR B β h n w) (hx : wkIl n (x, h', n') (x2, h2, n2) (upto n r) = true) (g : Go_ B 0 β h n w β' h' n' w') {v : Value} (hv : VR β' x v) :
    ∃ β2, Go_ B 0 β h n w β2 h2 n2 w' ∧ VR β2 x2 v := by
  generalize hq : upto n r = il at hx
  have hid : ∀ b, b < n → ofIl il n' b = b := fun b hb => by
    unfold ofIl
    rw [nthO_eq, ← hq, upto_get hb]
  unfold wkIl at hx
  simp only at hx
  split at hx
  · rename_i q1 q2 q3
    have q1 : il.length = n2 := beq_t q1
    have q2 : n ≤ il.length := Nat.le_of_ble_eq_true q2
    have q3 := beqX_ok q3
    split at hx
    · rename_i q4
      refine ⟨β'.by (ofIl il n'), ⟨fun b bi e => ?_, fun b bi e => ?_, by omega, ?_, g.below, g.size, fun b hb => by omega⟩, (VR.rn _).1 (by rw [q3]; exact hv)⟩
      · by_cases hb : b < n
        · show β' (ofIl il n' b) = some bi
          rw [hid b hb]; exact g.ext b bi e
        · exact absurd (hr0.lt b bi e).1 hb
      · by_cases hb : b < n
        · have e : β' (ofIl il n' b) = some bi := e
          rw [hid b hb] at e
          exact g.none b bi e
        · exact .inr (by omega)
      · refine g.hr.sub (fun b hb => by rw [ofIl_out (by omega)]; exact Nat.le_refl _) (fun b o2 hb e1 e2 => ?_) (fun b b' hb hb' e1 => ofIl_inj q4 (by omega) (by omega) e1) (fun b bi o2 hb e1 e2 e3 => ?_) g.hr.tb
        · have hb' : b < il.length := by omega
          have := subL_ok hx b hb' o2 (by rw [Nat.zero_add]; exact e1) e2
          rw [ofIl_get hb']
          exact this
        · have hb' : b < il.length := by omega
          have hl : o2.live = true := by cases o2 <;> first | rfl | cases e3
          obtain ⟨o, k1, k2⟩ := subL_ok hx b hb' o2 (by rw [Nat.zero_add]; exact e2) hl
          rw [ofIl_get hb'] at e1
          exact g.hr.new _ _ _ e1 k1 (aoLe_wr k2 e3)
    · cases hx
  · cases hx
def anyWk (n : Nat) (o : XV × Heap × Nat) : Outs → Bool
  | [] => false
  | o2 :: r => match wkIl n o o2 (keptL n o) with
    | true => true
    | false => anyWk n o r
def allWk (n : Nat) (outs2 : Outs) : Outs → Bool
  | [] => true
  | o :: r => match anyWk n o outs2 with
    | true => allWk n outs2 r
    | false => false
theorem anyWk_ok {n : Nat} {o : XV × Heap × Nat} : ∀ {l : Outs}, anyWk n o l = true → ∃ o2, o2 ∈ l ∧ wkIl n o o2 (keptL n o) = true
  | [], h => by cases h
  | o2 :: r, h => by
    unfold anyWk at h
    split at h
    · rename_i q; exact ⟨o2, List.mem_cons_self .., q⟩
    · obtain ⟨o3, h1, h2⟩ := anyWk_ok h
      exact ⟨o3, List.mem_cons_of_mem _ h1, h2⟩
theorem allWk_ok {n : Nat} {outs2 : Outs} : ∀ {l : Outs}, allWk n outs2 l = true → ∀ o, o ∈ l → ∃ o2, o2 ∈ outs2 ∧ wkIl n o o2 (keptL n o) = true
  | [], _, o, h => by simp at h
  | p :: r, h, o, ho => by
    unfold allWk at h
    split at h
    · rename_i q
      rcases List.mem_cons.1 ho with rfl | ho
      · exact anyWk_ok q
      · exact allWk_ok h o ho
    · cases h
def entRun (P : Program) (ext : FuncId → Option Ek) (prim : CallF) (F m : Nat) (e : Ent) : Bool :=
  match runFK P ext prim F m 0 e.f e.xs e.h e.n with
  | some outs => allWk e.n e.outs outs
  | none => false
theorem Ent.of_run {P : Program} {ext : FuncId → Option Ek} {prim : CallF} {F m : Nat} (hm : P.follows .mixedOrders = true) (hE : ExtOK P ext) (hno : numFree P = true) (hprim : CallOK P prim) {e : Ent} (hx : entRun P ext prim F m e = true) : e.OK P := by
  intro B β w vs hr hB hv
  unfold entRun at hx
  cases q : runFK P ext prim F m 0 e.f e.xs e.h e.n with
  | none => rw [q] at hx; cases hx
  | some outs =>
    rw [q] at hx
    rw [runFK_eq] at q
    obtain ⟨h1, h2⟩ := runF_ok hm hE hno hprim m q hr hB (Nat.zero_le _) hv
    refine ⟨h1, Calls.mono h2 ?_⟩
    rintro en w' ⟨x, h', nx', hmem, v, β', rfl, hg, hxv⟩
    obtain ⟨⟨x2, h2', n2⟩, k1, k2⟩ := allWk_ok hx _ hmem
    obtain ⟨β2, k3, k4⟩ := wk_ok hr k2 hg hxv
    exact ⟨_, _, _, k1, v, β2, rfl, k3, k4⟩
/-- A memory by its first blocks. -/
def mkH (l : List AO) : Heap := Tr.nil.puts 0 l
def mkC (l : List XV) (e : TypeId) (wr ex : Bool) : AO := .cells (Tr.nil.puts 0 l) l.length e wr ex
/-- As a call meets it: for print. -/
def invL : List Nat → Nat → Nat → Nat
  | [], i, _ => i
  | a :: r, i, b => match Nat.beq a b with
    | true => i
    | false => invL r (Nat.succ i) b
def laidL (h : Heap) (ρ : Nat → Nat) : List Nat → List AO
  | [] => []
  | a :: r => match h.get a with
    | some (.cells t n e _ ex) => (.cells (t.mapT (XV.rn ρ)) n e false ex) :: laidL h ρ r
    | _ => .dead :: laidL h ρ r
def keepL (h : Heap) (ρ : Nat → Nat) (n : Nat) : List Nat → List AO
  | [] => []
  | a :: r => match Nat.ble n a, h.get a with
    | true, some o => o.rn ρ :: keepL h ρ n r
    | _, _ => .dead :: keepL h ρ n r
/-- A call's arguments and memory, by the numbers that an entry has. -/
def canIn (h : Heap) (xs : List XV) : List XV × List AO := match reachL h xs with
  | il => (rns (invL il 0) xs, laidL h (invL il 0) il)
def canOut (n : Nat) (o : XV × Heap × Nat) : XV × List AO := match keptL n o with
  | il => (o.1.rn (invL il 0), keepL o.2.1 (invL il 0) n il)
end
end Go.Proofs.YtohcohbbmjhnfaaGreatDoor.X
