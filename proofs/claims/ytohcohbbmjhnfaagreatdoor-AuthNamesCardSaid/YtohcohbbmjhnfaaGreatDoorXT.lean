/-
Closed runs: a statement's operations in whatever order: what holds between two of them. Condition: none.
-/
import Derived.Test.YtohcohbbmjhnfaaGreatDoorXS
set_option linter.unusedVariables false
set_option linter.unusedSectionVars false
set_option linter.unusedSimpArgs false
set_option linter.unnecessarySimpa false
namespace Go.Proofs.YtohcohbbmjhnfaaGreatDoor.X
open Go Go.RowKit
noncomputable section
variable [Tabs]
theorem HR.alloc_in {B : Nat} {β : Ren} {h : Heap} {nx : Nat} {w w' : World} (hr : HR B β h nx w) {id : Nat} (hid : β id = none) (hB : B ≤ w.heap.size) (hlt : id < nx) {o : AO} {bi : BI} (ho : h.get id = some o) (hbi : bi.rb = w.heap.size)
    (hw : ∀ k, k < w.heap.size → w'.heap[k]? = w.heap[k]?) (hs : w.heap.size < w'.heap.size) (hbelow : Below B w w')
    (hb : ∀ β', Ext β β' → β' id = some bi → BR β' w' bi o) :
    ∃ β', β' id = some bi ∧ Ext β β' ∧ (∀ b bi', β' b = some bi' → β b = some bi' ∨ b = id) ∧ HR B β' h nx w' := by
  let β' : Ren := fun b => if b = id then some bi else β b
  have h1 : β' id = some bi := if_pos rfl
  have h2 : ∀ b, b ≠ id → β' b = β b := fun b e => if_neg e
  have hext : Ext β β' := fun b bi' e => by
    have : b ≠ id := fun q => by rw [q, hid] at e; cases e
    rw [h2 b this]; exact e
  refine ⟨β', h1, hext, fun b bi' e => ?_, ⟨fun b bi' o' e1 e2 => ?_, fun b bi' e => ?_, fun b b' c c' o1 o2 e1 e2 e3 e4 l1 l2 er => ?_, fun b bi' o' e1 e2 e3 => ?_, Tabs.st hr.tb hbelow⟩⟩
  · by_cases q : b = id
    · exact .inr q
    · rw [h2 b q] at e; exact .inl e
  · by_cases q : b = id
    · subst q
      rw [h1] at e1; cases e1
      rw [ho] at e2; cases e2
      exact hb β' hext h1
    · rw [h2 b q] at e1
      exact (hr.blk b bi' o' e1 e2).mono hext (hw _ (hr.lt b bi' e1).2)
  · by_cases q : b = id
    · subst q; rw [h1] at e; cases e; exact ⟨hlt, by omega⟩
    · rw [h2 b q] at e
      have := hr.lt b bi' e
      exact ⟨by omega, by omega⟩
  · by_cases q : b = id
    · by_cases q' : b' = id
      · rw [q, q']
      · exfalso
        subst q
        rw [h1] at e1; cases e1
        rw [h2 b' q'] at e2
        have := (hr.lt b' c' e2).2
        omega
    · rw [h2 b q] at e1
      by_cases q' : b' = id
      · exfalso
        subst q'
        rw [h1] at e2; cases e2
        have := (hr.lt b c e1).2
        omega
      · rw [h2 b' q'] at e2
        exact hr.inj b b' c c' o1 o2 e1 e2 e3 e4 l1 l2 er
  · by_cases q : b = id
    · subst q; rw [h1] at e1; cases e1; omega
    · rw [h2 b q] at e1
      exact hr.new b bi' o' e1 e2 e3
/-- More of the abstract memory, that has no place yet. -/
theorem HR.more {B : Nat} {β : Ren} {h h' : Heap} {nx nx' : Nat} {w : World} (hr : HR B β h nx w) (hh : ∀ b, b < nx → h'.get b = h.get b) (hn : nx ≤ nx') : HR B β h' nx' w := by
  have key : ∀ b bi o, β b = some bi → h'.get b = some o → h.get b = some o := fun b bi o e e' => by rw [← hh b (hr.lt b bi e).1]; exact e'
  exact ⟨fun b bi o e1 e2 => hr.blk b bi o e1 (key b bi o e1 e2), fun b bi e => ⟨Nat.lt_of_lt_of_le (hr.lt b bi e).1 hn, (hr.lt b bi e).2⟩,
    fun b b' c c' o1 o2 e1 e2 e3 e4 => hr.inj b b' c c' o1 o2 e1 e2 (key _ _ _ e1 e3) (key _ _ _ e2 e4), fun b bi o e1 e2 => hr.new b bi o e1 (key _ _ _ e1 e2), hr.tb⟩
theorem tmpsOf_mem {t : Nat} : ∀ {l : List Operand}, Operand.tmp t ∈ l → t ∈ tmpsOf l
  | [], h => by simp at h
  | x :: r, h => by
    rcases List.mem_cons.1 h with e | h
    · subst e; exact List.mem_cons_self ..
    · have ih := tmpsOf_mem (l := r) h
      cases x <;> first | exact ih | exact List.mem_cons_of_mem _ ih
theorem looksT_op {ops : List Oper} {o : Oper} {t : Nat} (h : Operand.tmp t ∈ o.op.operands.toList) : t ∈ looksT ops o := by
  have := tmpsOf_mem h
  unfold looksT
  split
  · exact this
  · split
    · split
      · exact List.mem_cons_of_mem _ this
      · exact this
    · exact this
theorem looksT_guard {ops : List Oper} {o : Oper} {j d : Nat} {want : Bool} {oj : Oper} (h1 : o.guard = some (j, want)) (h2 : ops[j]? = some oj) (h3 : oj.dst = some d) : d ∈ looksT ops o := by
  unfold looksT
  rw [h1]
  simp only [h2, h3]
  exact List.mem_cons_self ..
section
variable {P : Program} {ext : FuncId → Option Ek} {call : CallF} {B fl N : Nat} {ops : List Oper} {bs : List (List Nat)} {hv : List Nat}
theorem runL_spec : ∀ {l : List Nat} {s s' : St}, runL P N ops l s = some s' → s.2.2 ≤ s'.2.2 ∧ (∀ b, b < s.2.2 → s'.2.1.get b = s.2.1.get b) ∧ ∀ t x, s'.1.get t = some x → s.1.get t = some x ∨ ∃ j o, j ∈ l ∧ ops[j]? = some o ∧ o.dst = some t
  | [], s, s', h => by cases h; exact ⟨Nat.le_refl _, fun _ _ => rfl, fun _ _ h => .inl h⟩
  | j :: r, s, s', h => by
    have put : ∀ {o : Oper} {E' : Loc} {x : XV} {t : Nat} {y : XV}, ops[j]? = some o → setD s.1 o.dst N x = some E' → E'.get t = some y → s.1.get t = some y ∨ o.dst = some t := by
      intro o E' x t y ho hs hy
      rcases setD_get hs hy with ⟨e, _⟩ | ⟨_, e⟩
      · exact .inr e
      · exact .inl e
    have go : ∀ {o : Oper} {E' : Loc} {x : XV} {h' : Heap} {n' : Nat}, ops[j]? = some o → setD s.1 o.dst N x = some E' → s.2.2 ≤ n' → (∀ b, b < s.2.2 → h'.get b = s.2.1.get b) → runL P N ops r (E', h', n') = some s' →
        s.2.2 ≤ s'.2.2 ∧ (∀ b, b < s.2.2 → s'.2.1.get b = s.2.1.get b) ∧ ∀ t x, s'.1.get t = some x → s.1.get t = some x ∨ ∃ j' o, j' ∈ j :: r ∧ ops[j']? = some o ∧ o.dst = some t := by
      intro o E' x h' n' ho hs hn hh hq
      obtain ⟨k1, k2, k3⟩ := runL_spec hq
      refine ⟨Nat.le_trans hn k1, fun b hb => (k2 b (Nat.lt_of_lt_of_le hb hn)).trans (hh b hb), fun t y hy => ?_⟩
      rcases k3 t y hy with e | ⟨j', o', e1, e2, e3⟩
      · rcases put ho hs e with e | e
        · exact .inl e
        · exact .inr ⟨j, o, List.mem_cons_self .., ho, e⟩
      · exact .inr ⟨j', o', List.mem_cons_of_mem _ e1, e2, e3⟩
    unfold runL at h
    split at h
    · cases h
    · rename_i o ho
      split at h
      · cases h
      · split at h
        · rename_i E' hE; exact go ho hE (Nat.le_refl _) (fun _ _ => rfl) h
        · cases h
      · split at h
        · split at h
          · rename_i E' hE; exact go ho hE (Nat.le_refl _) (fun _ _ => rfl) h
          · cases h
        · split at h
          · rename_i E' hE; exact go ho hE (Nat.le_succ _) (fun b hb => Tr.get_set_ne _ _ _ _ (by omega)) h
          · cases h
        · cases h
theorem chk1_spec {nx0 lo : Nat} {ko : Option Nat} {s : St} {j : Nat} {ids ids' : List Nat} (h : chk1 P ops bs nx0 lo ko s j ids = some ids') : ∃ o, ops[j]? = some o ∧
    ((wantX ops s.1.get o = some false ∧ ids' = ids ∧ ∀ d, o.dst = some d → s.1.get d = some (.tup [])) ∨
     (wantX ops s.1.get o = some true ∧ allocK o.op = false ∧ ids' = ids ∧ ∃ x, liteX P s.1.get s.2.1 0 o = some (x, none) ∧ ∀ d, o.dst = some d → s.1.get d = some x) ∨
     (wantX ops s.1.get o = some true ∧ allocK o.op = true ∧ ∃ d x b ob, o.dst = some d ∧ s.1.get d = some x ∧ blkOf x = some b ∧ liteX P s.1.get s.2.1 b o = some (x, some ob) ∧ s.2.1.get b = some ob ∧ b < s.2.2 ∧ (newJ bs ko j = true → lo ≤ b) ∧ (newJ bs ko j = false → nx0 ≤ b) ∧ b ∉ ids ∧ ids' = b :: ids)) := by
  unfold chk1 at h
  split at h
  · cases h
  · rename_i o ho
    refine ⟨o, ho, ?_⟩
    split at h
    · cases h
    · rename_i hw
      refine .inl ⟨hw, ?_⟩
      split at h
      · rename_i hd; cases h; exact ⟨rfl, fun d e => by rw [hd] at e; cases e⟩
      · rename_i d hd
        split at h
        · rename_i he; cases h; exact ⟨rfl, fun d' e => by rw [hd] at e; cases e; exact he⟩
        · cases h
    · rename_i hw
      split at h
      · rename_i hk
        refine .inr (.inl ⟨hw, hk, ?_⟩)
        split at h
        · rename_i x hx
          split at h
          · rename_i hd; cases h; exact ⟨rfl, x, hx, fun d e => by rw [hd] at e; cases e⟩
          · rename_i d hd
            split at h
            · rename_i y hy
              split at h
              · rename_i hb
                cases h
                exact ⟨rfl, x, hx, fun d' e => by rw [hd] at e; cases e; rw [beqX_ok hb]; exact hy⟩
              · cases h
            · cases h
        · cases h
      · rename_i hk
        refine .inr (.inr ⟨hw, hk, ?_⟩)
        split at h
        · cases h
        · rename_i d hd
          split at h
          · cases h
          · rename_i y hy
            split at h
            · cases h
            · rename_i b hb
              split at h
              · rename_i x ob ob' hx hob
                split at h
                · rename_i e1 e2 e3 e4 e5
                  cases h
                  have hxy := beqX_ok e1
                  subst hxy
                  have hoo := beqO_ok e2
                  subst hoo
                  have q1 : newJ bs ko j = true → lo ≤ b := fun q => by
                    rw [q] at e4
                    exact Nat.le_of_ble_eq_true e4
                  have q2 : newJ bs ko j = false → nx0 ≤ b := fun q => by
                    rw [q] at e4
                    exact Nat.le_of_ble_eq_true e4
                  refine ⟨d, x, b, ob, hd, hy, hb, hx, hob, by simpa [blt_iff] using e3, q1, q2, fun q => ?_, rfl⟩
                  rw [memN_iff.2 q] at e5; cases e5
                · cases h
              · cases h
/-- The operation's block. -/
def AB (ops : List Oper) (s : St) (j b : Nat) : Prop := ∃ o d x, ops[j]? = some o ∧ allocK o.op = true ∧ o.dst = some d ∧ s.1.get d = some x ∧ blkOf x = some b
theorem chk1_ab {nx0 lo : Nat} {ko : Option Nat} {s : St} {j b : Nat} {ids ids' : List Nat} (h : chk1 P ops bs nx0 lo ko s j ids = some ids') (ha : AB ops s j b) : b ∉ ids ∧ ids' = b :: ids ∧ b < s.2.2 ∧ (newJ bs ko j = true → lo ≤ b) := by
  obtain ⟨o, d, x, h1, h2, h3, h4, h5⟩ := ha
  obtain ⟨o', k1, k⟩ := chk1_spec h
  rw [h1] at k1; cases k1
  rcases k with ⟨_, _, k2⟩ | ⟨_, k2, _⟩ | ⟨_, _, d', x', b', ob, e1, e2, e3, _, _, e4, e5, _, e6, e7⟩
  · rw [k2 d h3] at h4; cases h4; cases h5
  · rw [h2] at k2; cases k2
  · rw [h3] at e1; cases e1
    rw [h4] at e2; cases e2
    rw [h5] at e3; cases e3
    exact ⟨e6, e7, e4, e5⟩
theorem chkL_mem {nx0 lo : Nat} {ko : Option Nat} {s : St} : ∀ {l ids : List Nat}, chkL P ops bs nx0 lo ko s l ids = true → ∀ j, j ∈ l → ∃ ids1 ids2, chk1 P ops bs nx0 lo ko s j ids1 = some ids2 ∧ ∀ x, x ∈ ids → x ∈ ids1
  | [], ids, _, j, hj => by simp at hj
  | k :: r, ids, h, j, hj => by
    unfold chkL at h
    split at h
    · rename_i ids' hk
      rcases List.mem_cons.1 hj with rfl | hj
      · exact ⟨ids, ids', hk, fun x hx => hx⟩
      · obtain ⟨i1, i2, k1, k2⟩ := chkL_mem h j hj
        refine ⟨i1, i2, k1, fun x hx => k2 x ?_⟩
        obtain ⟨o, _, q⟩ := chk1_spec hk
        rcases q with ⟨_, rfl, _⟩ | ⟨_, _, rfl, _⟩ | ⟨_, _, _, _, _, _, _, _, _, _, _, _, _, _, _, rfl⟩
        · exact hx
        · exact hx
        · exact List.mem_cons_of_mem _ hx
    · cases h
theorem chkL_ne {nx0 lo : Nat} {ko : Option Nat} {s : St} : ∀ {l ids : List Nat}, chkL P ops bs nx0 lo ko s l ids = true → ∀ {j1 j2 b1 b2 : Nat}, j1 ∈ l → j2 ∈ l → j1 ≠ j2 → AB ops s j1 b1 → AB ops s j2 b2 → b1 ≠ b2
  | [], ids, _, j1, j2, b1, b2, hj, _, _, _, _ => by simp at hj
  | k :: r, ids, h, j1, j2, b1, b2, hj1, hj2, hne, ha1, ha2 => by
    unfold chkL at h
    split at h
    · rename_i ids' hk
      have head : ∀ {b b' : Nat} {j' : Nat}, j' ∈ r → AB ops s k b → AB ops s j' b' → b ≠ b' := fun hj' ha ha' e => by
        obtain ⟨q1, q2, _⟩ := chk1_ab hk ha
        obtain ⟨i1, i2, k1, k2⟩ := chkL_mem h _ hj'
        obtain ⟨q3, _⟩ := chk1_ab k1 ha'
        subst e
        exact q3 (k2 _ (by rw [q2]; exact List.mem_cons_self ..))
      rcases List.mem_cons.1 hj1 with q1 | q1
      · rcases List.mem_cons.1 hj2 with q2 | q2
        · exact absurd (q1.trans q2.symm) hne
        · exact head q2 (q1 ▸ ha1) ha2
      · rcases List.mem_cons.1 hj2 with q2 | q2
        · exact fun e => head q1 (q2 ▸ ha2) ha1 e.symm
        · exact chkL_ne h q1 q2 hne ha1 ha2
    · cases h
end
end
end Go.Proofs.YtohcohbbmjhnfaaGreatDoor.X
