/-
Closed runs: a statement's operations in whatever order: the steps. Condition: none.
-/
import Derived.Test.YtohcohbbmjhnfaaGreatDoorXT
set_option linter.unusedVariables false
set_option linter.unusedSectionVars false
set_option linter.unusedSimpArgs false
set_option linter.unnecessarySimpa false
namespace Go.Proofs.YtohcohbbmjhnfaaGreatDoor.X
open Go Go.RowKit
noncomputable section
variable [Tabs]
/-- The state before the statement. -/
structure Bef where
  B : Nat
  fl : Nat
  β : Ren
  h : Heap
  nx : Nat
  w : World
/-- What has been carried out: closed; of the heavy ones these. -/
structure DC (ops : List Oper) (S : List Nat) (D : Nat → Prop) : Prop where
  cl : ∀ j o, D j → ops[j]? = some o → ∀ x, x ∈ directOf o → D x
  hv : ∀ x, x ∈ hvs ops → (D x ↔ x ∈ S)
  sub : ∀ x, x ∈ S → x ∈ hvs ops
structure Com (N : Nat) (ops : List Oper) (b : Bef) (D : Nat → Prop) (s : St) (β : Ren) (a : Act) (w : World) : Prop where
  hr : HR b.B β s.2.1 s.2.2 w
  df : a.defers = []
  size : a.tmps.size = N
  tm : ∀ t x, s.1.get t = some x → (∀ j o, ops[j]? = some o → o.dst = some t → j ∉ hvs ops → D j) → VR β x (a.tmps.getD t undef)
  ext : Ext b.β β
  none : ∀ k bi, β k = some bi → b.β k = some bi ∨ b.nx ≤ k
  le : b.nx ≤ s.2.2
  below : Below b.B b.w w
  sz : b.w.heap.size ≤ w.heap.size
  floor : ∀ k, k < b.fl → s.2.1.get k = b.h.get k
section
variable {P : Program} {ext : FuncId → Option Ek} {call : CallF} {N : Nat} {ops : List Oper} {b : Bef}
structure RI (P : Program) (N : Nat) (ops : List Oper) (b : Bef) (S : List Nat) (ko : Option Nat) (D : Nat → Prop) (s : St) (β : Ren) (a : Act) (w : World) : Prop where
  com : Com N ops b D s β a w
  rb : ∀ j k, j ∈ openAt (befs [] ops) (hvs ops) S ops 0 → ¬ D j → AB ops s j k → β k = none
  chk : ∃ lo, b.nx ≤ lo ∧ chkL P ops (befs [] ops) b.nx lo ko s (openAt (befs [] ops) (hvs ops) S ops 0) [] = true
structure Pre (N : Nat) (ops : List Oper) (b : Bef) (S : List Nat) (ko : Option Nat) (D : Nat → Prop) (s : St) (β : Ren) (a : Act) (w : World) : Prop where
  com : Com N ops b D s β a w
  rb : ∀ j k, j ∈ openAt (befs [] ops) (hvs ops) S ops 0 → newJ (befs [] ops) ko j = false → ¬ D j → AB ops s j k → β k = none
variable {D : Nat → Prop} {S : List Nat} {ko : Option Nat} {s : St} {β : Ren} {a : Act} {w : World}
theorem allIn_congr {S S' : List Nat} (h : ∀ x, x ∈ S ↔ x ∈ S') (l : List Nat) : allIn S l = allIn S' l := by
  rw [Bool.eq_iff_iff, allIn_spec, allIn_spec]
  exact ⟨fun q x hx => (h x).1 (q x hx), fun q x hx => (h x).2 (q x hx)⟩
theorem anyBef_congr {S S' : List Nat} (h : ∀ x, x ∈ S ↔ x ∈ S') (bs : List (List Nat)) (j : Nat) : anyBef bs j S = anyBef bs j S' := by
  rw [Bool.eq_iff_iff, anyBef_spec, anyBef_spec]
  exact ⟨fun ⟨x, a, b⟩ => ⟨x, (h x).1 a, b⟩, fun ⟨x, a, b⟩ => ⟨x, (h x).2 a, b⟩⟩
theorem openAt_congr {S S' : List Nat} (h : ∀ x, x ∈ S ↔ x ∈ S') (bs : List (List Nat)) (hv : List Nat) : ∀ (l : List Oper) (n : Nat), openAt bs hv S l n = openAt bs hv S' l n
  | [], n => rfl
  | o :: r, n => by
    unfold openAt
    rw [allIn_congr h, anyBef_congr h, openAt_congr h bs hv r (Nat.succ n)]
theorem Pre.congr (hp : Pre N ops b S ko D s β a w) {S' : List Nat} (h : ∀ x, x ∈ S ↔ x ∈ S') : Pre N ops b S' ko D s β a w :=
  ⟨hp.com, fun j k hj => hp.rb j k (by rw [openAt_congr h]; exact hj)⟩
theorem Pre.less (hp : Pre N ops b S ko D s β a w) {s' : St} (h1 : s'.1 = s.1) (h2 : s'.2.2 = s.2.2) (h3 : Drops b.fl s.2.1 s'.2.1) : Pre N ops b S ko D s' β a w := by
  obtain ⟨E, h, nx⟩ := s
  obtain ⟨E', h', nx'⟩ := s'
  have h1 : E' = E := h1
  have h2 : nx' = nx := h2
  subst h1; subst h2
  exact ⟨⟨hp.com.hr.drops h3, hp.com.df, hp.com.size, hp.com.tm, hp.com.ext, hp.com.none, hp.com.le, hp.com.below, hp.com.sz, fun k hk => (h3.1 k hk).trans (hp.com.floor k hk)⟩, fun j k hj hc hD ha => hp.rb j k hj hc hD (by
    obtain ⟨o, d, x, q1, q2, q3, q4, q5⟩ := ha
    exact ⟨o, d, x, q1, q2, q3, q4, q5⟩)⟩
theorem DC.congr {D : Nat → Prop} {S S' : List Nat} (hd : DC ops S D) (h : ∀ x, x ∈ S ↔ x ∈ S') : DC ops S' D :=
  ⟨hd.cl, fun x hx => (hd.hv x hx).trans (h x), fun x hx => hd.sub x ((h x).2 hx)⟩
theorem phase_in (hd : dstsOK ops = true) (hfl : b.fl ≤ b.nx) (hp : Pre N ops b S ko D s β a w) (hl : ∀ j, j ∈ litesAt (befs [] ops) (hvs ops) S ko ops 0 → ¬ D j) {s' : St} (hx : phaseX P N ops (befs [] ops) (hvs ops) b.nx S ko s = some s') : RI P N ops b S ko D s' β a w := by
  unfold phaseX at hx
  split at hx
  · rename_i s1 h1
    split at hx
    · rename_i e1 e2
      cases hx
      obtain ⟨k1, k2, k3⟩ := runL_spec h1
      refine ⟨⟨hp.com.hr.more k2 k1, hp.com.df, hp.com.size, fun t x ht hw => ?_, hp.com.ext, hp.com.none, Nat.le_trans hp.com.le k1, hp.com.below, hp.com.sz, fun k hk => ?_⟩, fun j k hj hD ha => ?_, _, hp.com.le, e2⟩
      · rcases k3 t x ht with e | ⟨j, o, j1, j2, j3⟩
        · exact hp.com.tm t x e hw
        · obtain ⟨m, om, m1, m2, m3, _⟩ := litesAt_spec j1
          exact absurd (hw j o j2 j3 m3) (hl j j1)
      · rw [k2 k (Nat.lt_of_lt_of_le hk (Nat.le_trans hfl hp.com.le))]; exact hp.com.floor k hk
      · obtain ⟨i1, i2, c1, _⟩ := chkL_mem e2 j hj
        cases hc : newJ (befs [] ops) ko j with
        | true => exact hr_none hp.com.hr ((chk1_ab c1 ha).2.2.2 hc)
        | false =>
          obtain ⟨o, d, x, q1, q2, q3, q4, q5⟩ := ha
          rcases k3 d x q4 with e | ⟨j', o', j1, j2, j3⟩
          · exact hp.rb j k hj hc hD ⟨o, d, x, q1, q2, q3, e, q5⟩
          · exfalso
            have : j = j' := dsts_spec hd q1 j2 q3 j3
            subst this
            obtain ⟨_, _, _, _, _, z⟩ := litesAt_spec j1
            rw [hc] at z; cases z
    · cases hx
  · cases hx
theorem put_same {a : Act} {dst : Option Tmp} {v : Value} {t : Nat} (h : dst ≠ some t) : (a.put dst v).tmps.getD t undef = a.tmps.getD t undef := by
  cases dst with
  | none => rfl
  | some d =>
    show (a.tmps.setIfInBounds d v).getD t undef = _
    rw [Array.getD_eq_getD_getElem?, Array.getElem?_setIfInBounds, if_neg (fun q => h (by rw [q])), ← Array.getD_eq_getD_getElem?]
theorem put_df {a : Act} {dst : Option Tmp} {v : Value} : (a.put dst v).defers = a.defers := by cases dst <;> rfl
theorem put_size {a : Act} {dst : Option Tmp} {v : Value} : (a.put dst v).tmps.size = a.tmps.size := by cases dst <;> simp [Act.put]
theorem Com.put (hc : Com N ops b D s β a w) (hN : dstLt N ops = true) {j : Nat} {o : Oper} (ho : ops[j]? = some o) {β' : Ren} {w' : World} {x : XV} {v : Value} (hext : Ext β β') (hr : HR b.B β' s.2.1 s.2.2 w') (hnone : ∀ k bi, β' k = some bi → β k = some bi ∨ b.nx ≤ k) (hbel : Below b.B w w') (hsz : w.heap.size ≤ w'.heap.size)
    (hv : VR β' x v) (hx : ∀ d, o.dst = some d → s.1.get d = some x) : Com N ops b (fun k => D k ∨ k = j) s β' (a.put o.dst v) w' := by
  refine ⟨hr, put_df.trans hc.df, put_size.trans hc.size, fun t y ht hw => ?_, hc.ext.trans hext, fun k bi e => (hnone k bi e).elim (hc.none k bi) .inr, hc.le, hc.below.trans hbel, Nat.le_trans hc.sz hsz, hc.floor⟩
  by_cases hd : o.dst = some t
  · rw [hx t hd] at ht
    cases ht
    rw [hd, put_getD (by rw [hc.size]; exact dstLt_spec hN ho hd), if_pos rfl]
    exact hv
  · rw [put_same hd]
    refine VR.mono hext _ (hc.tm t y ht (fun k o' hk hko hkh => ?_))
    rcases hw k o' hk hko hkh with q | q
    · exact q
    · subst q; rw [ho] at hk; cases hk; exact absurd hko hd
/-- The temporaries that an operation looks at. -/
def lookE (ops : List Oper) (o : Oper) (E : Loc) : Env := fun t => if t ∈ looksT ops o then E.get t else none
theorem lookE_ok (hc : Com N ops b D s β a w) {o : Oper} (hl : ∀ t, t ∈ looksT ops o → ∀ k o', ops[k]? = some o' → o'.dst = some t → k ∉ hvs ops → D k) : EnvR β N (lookE ops o s.1) a := by
  refine ⟨hc.df, hc.size, fun t x e => ?_⟩
  unfold lookE at e
  split at e
  · rename_i ht; exact hc.tm t x e (hl t ht)
  · cases e
theorem lookE_op {o : Oper} {E : Loc} : ∀ t, Operand.tmp t ∈ o.op.operands.toList → E.get t = lookE ops o E t := fun t ht => by
  unfold lookE; rw [if_pos (looksT_op ht)]
theorem want_look (hc : Com N ops b D s β a w) {o : Oper} (hl : ∀ t, t ∈ looksT ops o → ∀ k o', ops[k]? = some o' → o'.dst = some t → k ∉ hvs ops → D k) {r : Bool} (hx : wantX ops s.1.get o = some r) : Region.wanted o (yielded ops.toArray a.tmps) = r :=
  want_ok (fun j want oj d h1 h2 h3 x e => hc.tm d x e (hl d (looksT_guard h1 h2 h3))) hx
theorem lite_step (hd : dstsOK ops = true) (hN : dstLt N ops = true) (hB : b.B ≤ b.w.heap.size) (h : RI P N ops b S ko D s β a w) {j : Nat} {o : Oper} (ho : ops[j]? = some o) (hD : ¬ D j) (hj : j ∈ openAt (befs [] ops) (hvs ops) S ops 0)
    (hl : ∀ t, t ∈ looksT ops o → ∀ k o', ops[k]? = some o' → o'.dst = some t → k ∉ hvs ops → D k) {K : Act → World → Prop} {Q : Exit → Act → World → Prop} (hK : ∀ β' a' w', RI P N ops b S ko (fun k => D k ∨ k = j) s β' a' w' → K a' w') : wpOp P ops.toArray Q j K a w := by
  obtain ⟨lo, hlo, hchk⟩ := h.chk
  obtain ⟨i1, i2, c1, _⟩ := chkL_mem hchk j hj
  have hBw : b.B ≤ w.heap.size := Nat.le_trans hB h.com.sz
  have he := lookE_ok h.com hl
  have next : ∀ {β' : Ren} {v : Value} {w' : World}, Com N ops b (fun k => D k ∨ k = j) s β' (a.put o.dst v) w' → (∀ j' k, j' ∈ openAt (befs [] ops) (hvs ops) S ops 0 → ¬ D j' → j' ≠ j → AB ops s j' k → β' k = none) → K (a.put o.dst v) w' := fun hc hrb =>
    hK _ _ _ ⟨hc, fun j' k q1 q2 q3 => hrb j' k q1 (fun z => q2 (.inl z)) (fun z => q2 (.inr z)) q3, lo, hlo, hchk⟩
  unfold wpOp
  rw [show ops.toArray[j]? = some o by simpa using ho]
  show if Region.wanted o (yielded ops.toArray a.tmps) = true then _ else _
  obtain ⟨o', ho', hs⟩ := chk1_spec c1
  rw [ho] at ho'
  cases ho'
  rcases hs with ⟨hw, _, hx⟩ | ⟨hw, _, _, x, hx, hxd⟩ | ⟨hw, hk, d, x, k, ob, hdst, hxd, hblk, hx, hob, hlt, h1, h2, _, _⟩
  · rw [want_look h.com hl hw, if_neg (by simp)]
    exact next (h.com.put hN ho (Ext.refl β) h.com.hr (fun _ _ e => .inl e) (Below.refl _ _) (Nat.le_refl _) (undef_ok β) hx) (fun j' k q1 q2 _ q3 => h.rb j' k q1 q2 q3)
  · rw [want_look h.com hl hw, if_pos rfl]
    refine .inl ?_
    rw [liteX_congr (g' := lookE ops o s.1) lookE_op] at hx
    refine lite_wp h.com.hr he hx (fun _ v hv => ?_) (fun ob' q => by cases q)
    exact next (h.com.put hN ho (Ext.refl β) h.com.hr (fun _ _ e => .inl e) (Below.refl _ _) (Nat.le_refl _) hv hxd) (fun j' k q1 q2 _ q3 => h.rb j' k q1 q2 q3)
  · rw [want_look h.com hl hw, if_pos rfl]
    refine .inl ?_
    rw [liteX_congr (g' := lookE ops o s.1) lookE_op] at hx
    refine lite_wp h.com.hr he hx (fun q => by cases q) (fun ob' q v w' hnew => ?_)
    cases q
    have hab : AB ops s j k := ⟨o, d, x, ho, hk, hdst, hxd, hblk⟩
    have hnone : β k = none := h.rb j k hj hD hab
    obtain ⟨bi, b1, b2, b3, b4, b5⟩ := hnew.out
    obtain ⟨β', hid, hext, hn', hr'⟩ := h.com.hr.alloc_in hnone hBw hlt hob b1 b2 b3 (b4.mono hBw) (fun β' hext hid => (b5 β' hext hid).1)
    have hge : b.nx ≤ k := by
      cases z : newJ (befs [] ops) ko j with
      | true => exact Nat.le_trans hlo (h1 z)
      | false => exact h2 z
    refine next (h.com.put hN ho hext hr' (fun k' bi' e => (hn' k' bi' e).imp id (fun q => by rw [q]; exact hge)) (b4.mono hBw) (Nat.le_of_lt b3) (b5 β' hext hid).2 (fun d' e => by rw [hdst] at e; cases e; exact hxd)) (fun j' k' q1 q2 q3 q4 => ?_)
    have hne := chkL_ne hchk hj q1 (fun z => q3 z.symm) hab q4
    cases hz : β' k' with
    | none => rfl
    | some bi' =>
      rcases hn' k' bi' hz with z | z
      · rw [h.rb j' k' q1 q2 q4] at z; cases z
      · exact absurd z.symm hne
theorem heavy_step (hd : dstsOK ops = true) (hN : dstLt N ops = true) (hE : ExtOK P ext) (hcall : CallOK P call) (hB : b.B ≤ b.w.heap.size) (hfl : b.fl ≤ b.nx) (h : RI P N ops b S ko D s β a w) {j : Nat} {o : Oper} (ho : ops[j]? = some o) (hD : ¬ D j) (hj : j ∈ hvs ops)
    (hl : ∀ t, t ∈ looksT ops o → ∀ k o', ops[k]? = some o' → o'.dst = some t → k ∉ hvs ops → D k) {outs : List St} (hx : stepX P ext call b.fl N ops o s = some outs)
    {K : Act → World → Prop} {Q : Exit → Act → World → Prop} (hK : ∀ s' β' a' w', s' ∈ outs → Pre N ops b (j :: S) (some j) (fun k => D k ∨ k = j) s' β' a' w' → K a' w') : wpOp P ops.toArray Q j K a w := by
  obtain ⟨lo, hlo, hchk⟩ := h.chk
  have hBw : b.B ≤ w.heap.size := Nat.le_trans hB h.com.sz
  have hfls : b.fl ≤ s.2.2 := Nat.le_trans hfl h.com.le
  have he := lookE_ok h.com hl
  have next : ∀ {β' : Ren} {v : Value} {w' : World} {x : XV} {h' : Heap} {nx' : Nat} {E' : Loc}, Go_ b.B b.fl β s.2.1 s.2.2 w β' h' nx' w' → VR β' x v → setD s.1 o.dst N x = some E' → (E', h', nx') ∈ outs → K (a.put o.dst v) w' := by
    intro β' v w' x h' nx' E' g hv hs hm
    refine hK _ β' _ w' hm ⟨⟨g.hr, put_df.trans h.com.df, put_size.trans h.com.size, fun t y ht hw => ?_, h.com.ext.trans g.ext, fun k bi e => ?_, Nat.le_trans h.com.le g.le, h.com.below.trans g.below, Nat.le_trans h.com.sz g.size, fun k hk => (g.floor k hk).trans (h.com.floor k hk)⟩, fun j' k q1 q2 q3 q4 => ?_⟩
    · rcases setD_get hs ht with ⟨e1, rfl⟩ | ⟨e1, e2⟩
      · rw [e1, put_getD (by rw [h.com.size]; exact dstLt_spec hN ho e1), if_pos rfl]
        exact hv
      · rw [put_same e1]
        refine VR.mono g.ext _ (h.com.tm t y e2 (fun k o' hk hko hkh => ?_))
        rcases hw k o' hk hko hkh with q | q
        · exact q
        · subst q; rw [ho] at hk; cases hk; exact absurd hko e1
    · rcases g.none k bi e with q | q
      · exact h.com.none k bi q
      · exact .inr (Nat.le_trans h.com.le q)
    · obtain ⟨m, om, m1, m2, m3, m4, m5⟩ := openAt_lite q1
      rw [Nat.zero_add] at m1
      subst m1
      have hopen : j' ∈ openAt (befs [] ops) (hvs ops) S ops 0 := by
        have e1 : allIn S (hvIn (nthL (befs [] ops) j') (hvs ops)) = true := allIn_spec.2 (fun x hx => by
          rcases List.mem_cons.1 (allIn_spec.1 m4 x hx) with rfl | hx'
          · have := (hvIn_spec.1 hx).2
            have q2' : memN x (nthL (befs [] ops) j') = false := q2
            rw [memN_iff.2 this] at q2'; cases q2'
          · exact hx')
        have e2 : anyBef (befs [] ops) j' S = false := by
          cases z : anyBef (befs [] ops) j' S with
          | false => rfl
          | true =>
            obtain ⟨x, z1, z2⟩ := anyBef_spec.1 z
            rw [anyBef_spec.2 ⟨x, List.mem_cons_of_mem _ z1, z2⟩] at m5; cases m5
        have := openAt_spec (bs := befs [] ops) (hv := hvs ops) (S := S) (n := 0) m2 (by rw [Nat.zero_add]; exact m3) (by rw [Nat.zero_add]; exact e1) (by rw [Nat.zero_add]; exact e2)
        rwa [Nat.zero_add] at this
      have hab : AB ops s j' k := by
        obtain ⟨o', d, x', r1, r2, r3, r4, r5⟩ := q4
        rcases setD_get hs r4 with ⟨e1, _⟩ | ⟨_, e2⟩
        · exfalso
          have : j' = j := dsts_spec hd r1 ho r3 e1
          exact q3 (.inr this)
        · exact ⟨o', d, x', r1, r2, r3, e2, r5⟩
      have hnone := h.rb j' k hopen (fun z => q3 (.inl z)) hab
      obtain ⟨i1, i2, c1, _⟩ := chkL_mem hchk j' hopen
      have hlt := (chk1_ab c1 hab).2.2.1
      cases hz : β' k with
      | none => rfl
      | some bi' =>
        rcases g.none k bi' hz with z | z
        · rw [hnone] at z; cases z
        · omega
  unfold wpOp
  rw [show ops.toArray[j]? = some o by simpa using ho]
  show if Region.wanted o (yielded ops.toArray a.tmps) = true then _ else _
  unfold stepX at hx
  split at hx
  · cases hx
  · rename_i hw
    rw [want_look h.com hl hw, if_neg (by simp)]
    obtain ⟨E', k1, k2⟩ := putO_mem hx _ _ _ (List.mem_cons_self ..)
    exact next (Go_.refl h.com.hr) (undef_ok β) k1 k2
  · rename_i hw
    rw [want_look h.com hl hw, if_pos rfl]
    refine .inl ?_
    split at hx
    · split at hx
      · rename_i outs' hh
        rw [heavyX_congr (g' := lookE ops o s.1) lookE_op] at hh
        refine heavy_ok hE hcall h.com.hr he hBw hfls hh ?_
        intro x h' nx' β' v w' hm hg hv
        obtain ⟨E', k1, k2⟩ := putO_mem hx _ _ _ hm
        exact next hg hv k1 k2
      · cases hx
    · split at hx
      · rename_i x hl'
        obtain ⟨E', k1, k2⟩ := putO_mem hx _ _ _ (List.mem_cons_self ..)
        rw [liteX_congr (g' := lookE ops o s.1) lookE_op] at hl'
        exact lite_wp h.com.hr he hl' (fun _ v hv => next (Go_.refl h.com.hr) hv k1 k2) (fun ob' q => by cases q)
      · rename_i x ob hl'
        obtain ⟨E', k1, k2⟩ := putO_mem hx _ _ _ (List.mem_cons_self ..)
        rw [liteX_congr (g' := lookE ops o s.1) lookE_op] at hl'
        refine lite_wp h.com.hr he hl' (fun q => by cases q) (fun ob' q v w' hnew => ?_)
        cases q
        obtain ⟨bi, b1, b2, b3, b4, b5⟩ := hnew.out
        obtain ⟨β', hid, hgo⟩ := h.com.hr.alloc (B := b.B) (fl := b.fl) (id := s.2.2) (nx' := s.2.2 + 1) (o := ob) (bi := bi) (hr_none h.com.hr (Nat.le_refl _)) hfls hBw (by omega) (by omega) (.inr trivial) b1 b2 b3 (b4.mono hBw) (Nat.le_refl _) (fun β' hext hid => (b5 β' hext hid).1)
        exact next hgo (b5 β' hgo.ext hid).2 k1 k2
      · cases hx
end
end
end Go.Proofs.YtohcohbbmjhnfaaGreatDoor.X
