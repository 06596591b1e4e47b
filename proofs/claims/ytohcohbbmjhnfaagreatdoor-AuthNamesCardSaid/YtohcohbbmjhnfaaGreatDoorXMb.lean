/-
Closed runs: iterators over maps whose order is not known begin. Condition: none.
-/
import Derived.Test.YtohcohbbmjhnfaaGreatDoorXM
set_option linter.unusedVariables false
set_option linter.unusedSectionVars false
set_option linter.unusedSimpArgs false
namespace Go.Proofs.YtohcohbbmjhnfaaGreatDoor.X
open Go Go.RowKit
noncomputable section
variable [Tabs]
section
variable {P : Program} {B fl : Nat} {β : Ren} {h : Heap} {nx : Nat} {w : World}
/-- Numbers of blocks that hold nothing. -/
def padH : Nat → Nat → Heap → Heap
  | 0, _, h => h
  | n + 1, i, h => padH n (Nat.succ i) (h.set i .dead)
theorem hr_none0 (hr : HR B β h nx w) : β nx = none := by
  cases q : β nx with
  | none => rfl
  | some bi => have := (hr.lt nx bi q).1; omega
theorem padH_out {c : Nat} : ∀ {n i : Nat} {h : Heap}, (c < i ∨ i + n ≤ c) → (padH n i h).get c = h.get c
  | 0, i, h, _ => rfl
  | n + 1, i, h, hc => by
    show (padH n (i + 1) (h.set i .dead)).get c = _
    rw [padH_out (by omega)]
    exact Tr.get_set_ne _ _ _ _ (by omega)
theorem padH_in {c : Nat} {o : AO} : ∀ {n i : Nat} {h : Heap}, i ≤ c → c < i + n → (padH n i h).get c = some o → o = .dead
  | 0, i, h, h1, h2, _ => by omega
  | n + 1, i, h, h1, h2, e => by
    have e : (padH n (i + 1) (h.set i .dead)).get c = some o := e
    by_cases q : c = i
    · subst q
      rw [padH_out (by omega)] at e
      exact Tr.get_set_eq _ _ _ _ e
    · exact padH_in (by omega) (by omega) e
/-- Labels: numbers of blocks that stand for numbers. -/
theorem HR.labels (hr : HR B β h nx w) (hfl : fl ≤ nx) (ls : List BI) (hls : ∀ l, l ∈ ls → l.rb < w.heap.size) : ∃ β', (∀ i (hi : i < ls.length), β' (nx + i) = some ls[i]) ∧ Go_ B fl β h nx w β' (padH ls.length nx h) (nx + ls.length) w := by
  let β' : Ren := fun b => if b < nx then β b else ls[b - nx]?
  have hold : ∀ b, b < nx → β' b = β b := fun b hb => if_pos hb
  have hnew : ∀ b, nx ≤ b → β' b = ls[b - nx]? := fun b hb => if_neg (by omega)
  have hext : Ext β β' := fun b bi e => by rw [hold b (hr.lt b bi e).1]; exact e
  have hin : ∀ b bi, nx ≤ b → β' b = some bi → b < nx + ls.length ∧ bi.rb < w.heap.size := fun b bi hb e => by
    rw [hnew b hb] at e
    have h1 := (List.getElem?_eq_some_iff.1 e).1
    exact ⟨by omega, hls bi (List.mem_of_getElem? e)⟩
  have hdead : ∀ b bi o, nx ≤ b → β' b = some bi → (padH ls.length nx h).get b = some o → o = .dead := fun b bi o hb e e2 => padH_in hb (hin b bi hb e).1 e2
  refine ⟨β', fun i hi => by rw [hnew _ (by omega), Nat.add_sub_cancel_left, List.getElem?_eq_getElem hi], hext, fun b bi e => ?_, Nat.le_add_right .., ⟨fun b bi o e1 e2 => ?_, fun b bi e => ?_, fun b b' c c' o o' e1 e2 e3 e4 l1 l2 er => ?_, fun b bi o e1 e2 e3 => ?_, hr.tb⟩, Below.refl _ _, Nat.le_refl _, fun b hb => padH_out (by omega)⟩
  · by_cases hb : b < nx
    · rw [hold b hb] at e; exact .inl e
    · exact .inr (by omega)
  · by_cases hb : b < nx
    · rw [hold b hb] at e1
      rw [padH_out (.inl hb)] at e2
      exact (hr.blk b bi o e1 e2).mono hext rfl
    · rw [hdead b bi o (by omega) e1 e2]; trivial
  · by_cases hb : b < nx
    · rw [hold b hb] at e
      have := hr.lt b bi e
      exact ⟨by omega, this.2⟩
    · exact hin b bi (by omega) e
  · by_cases hb : b < nx
    · by_cases hb' : b' < nx
      · rw [hold b hb] at e1
        rw [hold b' hb'] at e2
        rw [padH_out (.inl hb)] at e3
        rw [padH_out (.inl hb')] at e4
        exact hr.inj _ _ _ _ _ _ e1 e2 e3 e4 l1 l2 er
      · rw [hdead b' c' o' (by omega) e2 e4] at l2; cases l2
    · rw [hdead b c o (by omega) e1 e3] at l1; cases l1
  · by_cases hb : b < nx
    · rw [hold b hb] at e1
      rw [padH_out (.inl hb)] at e2
      exact hr.new _ _ _ e1 e2 e3
    · rw [hdead b bi o (by omega) e1 e2] at e3; cases e3
def labE : List AE → Nat → List AE
  | [], _ => []
  | e :: es, i => ⟨e.key, e.val, i⟩ :: labE es (Nat.succ i)
theorem labE_real : ∀ {es'' es : List AE} {i : Nat}, es''.map AE.strip = es → (∀ j (hj : j < es''.length), baseOf β (i + j) = es''[j].born) → (labE es i).map (AE.real β) = es''
  | [], es, i, h, _ => by rw [← h]; rfl
  | e :: es'', es, i, h, hb => by
    rw [← h, List.map_cons, labE, List.map_cons]
    have h0 := hb 0 (by simp)
    rw [Nat.add_zero] at h0
    have ih := labE_real (es'' := es'') (i := i + 1) rfl (fun j hj => by
      have := hb (j + 1) (by simpa using hj)
      rw [show i + (j + 1) = i + 1 + j by omega] at this
      simpa using this)
    have e1 : AE.real β ⟨e.strip.key, e.strip.val, i⟩ = e := by
      unfold AE.real
      simp only
      rw [h0]
      rfl
    rw [e1]
    exact congrArg (List.cons e) ih
theorem labE_mem : ∀ {es : List AE} {i : Nat} {e : AE}, e ∈ labE es i → ∃ j, j < es.length ∧ e.born = i + j
  | [], i, e, h => by simp [labE] at h
  | x :: es, i, e, h => by
    rw [labE] at h
    rcases List.mem_cons.1 h with rfl | h
    · exact ⟨0, by simp, rfl⟩
    · obtain ⟨j, h1, h2⟩ := labE_mem h
      exact ⟨j + 1, by simpa using h1, by rw [h2]; omega⟩
theorem perm_map_inv {α γ : Type} {f : α → γ} {l : List γ} {l' : List γ} (hp : l'.Perm l) : ∀ {a : List α}, a.map f = l' → ∃ b : List α, b.Perm a ∧ b.map f = l := by
  induction hp with
  | nil => intro a ha; exact ⟨a, .refl _, ha⟩
  | cons x _ ih =>
    intro a ha
    cases a with
    | nil => cases ha
    | cons y a =>
      rw [List.map_cons] at ha
      injection ha with h1 h2
      obtain ⟨b, b1, b2⟩ := ih h2
      exact ⟨y :: b, b1.cons y, by rw [List.map_cons, h1, b2]⟩
  | swap x y l =>
    intro a ha
    match a, ha with
    | u :: v :: a, ha =>
      simp only [List.map_cons, List.cons.injEq] at ha
      exact ⟨v :: u :: a, .swap _ _ _, by simp [ha.1, ha.2.1, ha.2.2]⟩
  | trans _ _ ih1 ih2 =>
    intro a ha
    obtain ⟨b, b1, b2⟩ := ih1 ha
    obtain ⟨c, c1, c2⟩ := ih2 b2
    exact ⟨c, c1.trans b1, c2⟩
def xrangeU (P : Program) (fl : Nat) (h : Heap) (nx : Nat) (t : TypeId) (x : XV) : Option (XV × Heap × Nat) :=
  match P.underlying t, x with
  | some (.map _ _), .map b => match h.get b, Nat.ble fl b, Nat.ble fl nx with
    | some (.umap es clk), true, true => some (.ptr nx 0, (padH es.length (Nat.succ nx) (h.set nx (.uiter b clk none [] clk))).set b (.lmap (labE es (Nat.succ nx)) clk), Nat.add (Nat.succ nx) es.length)
    | some (.lmap es clk), true, true => some (.ptr nx 0, h.set nx (.uiter b clk none [] clk), Nat.succ nx)
    | _, _, _ => none
  | _, _ => none
theorem xrangeU_ok (hr : HR B β h nx w) (hB : B ≤ w.heap.size) {t : TypeId} {x y : XV} {v : Value} {h' : Heap} {nx' : Nat} (hv : VR β x v) (hx : xrangeU P fl h nx t x = some (y, h', nx')) : RunS P B fl β h nx w (Instr.range t v) y h' nx' := by
  unfold xrangeU at hx
  split at hx
  · rename_i a bt b hun
    obtain ⟨bi, hb, rfl⟩ := hv
    have hlt := hr.lt b bi hb
    have step : ∀ {arr : Array MapEntry} {clk : Nat}, fl ≤ nx → w.heap[bi.rb]? = some (.map arr clk) →
        ∃ β', (Instr.range t (.map (some bi.rb))).run P w = .ok (.pointer (some ⟨w.heap.size, 0, none⟩)) { w with heap := w.heap.push (.mapIter (some bi.rb) clk #[] clk) } ∧
          Go_ B fl β h nx w β' (h.set nx (.uiter b clk none [] clk)) (nx + 1) { w with heap := w.heap.push (.mapIter (some bi.rb) clk #[] clk) } ∧ β' nx = some ⟨w.heap.size, 0, 0⟩ := by
      intro arr clk hfl q1
      have hgo : (getObj bi.rb).run P w = .ok (.map arr clk) w := run_getObj q1 (fun _ _ _ e => by cases e)
      obtain ⟨β', hid, hgo2⟩ := hr.alloc (B := B) (fl := fl) (id := nx) (nx' := nx + 1) (o := .uiter b clk none [] clk) (bi := ⟨w.heap.size, 0, 0⟩) (w' := { w with heap := w.heap.push (.mapIter (some bi.rb) clk #[] clk) }) (hr_none0 hr) hfl hB (by omega) (by omega) (.inr trivial) rfl (fun k hk => push_ne w _ hk) (by simp) ((push_below w _).mono hB) (Nat.le_refl _)
        (fun β' hext hid => ⟨rfl, #[], bi, push_at w _, hext _ _ hb, (fun e he => by simp at he), (fun x => by simp), (fun s hs => by cases hs)⟩)
      exact ⟨β', by simp [Instr.range, run_und hun, hgo], hgo2, hid⟩
    split at hx
    · rename_i es clk hg hflb hfl
      have hflb := Nat.le_of_ble_eq_true hflb
      have hfl := Nat.le_of_ble_eq_true hfl
      cases hx
      obtain ⟨arr, es', q1, qp, q2, qb⟩ := hr.blk b bi _ hb hg
      obtain ⟨es'', r1, r2⟩ := perm_map_inv qp rfl
      obtain ⟨β1, s1, g1, hid⟩ := step hfl q1
      have hlen : es''.length = es.length := by rw [← r2]; simp
      obtain ⟨β2, l1, g2⟩ := g1.hr.labels (fl := fl) (by omega) (es''.map fun e => ⟨bi.rb, e.born, 0⟩) (fun l hl => by
        obtain ⟨e, _, rfl⟩ := List.mem_map.1 hl
        have := g1.size
        show bi.rb < _
        omega)
      rw [List.length_map, hlen] at g2
      have hb2 : β2 b = some bi := g2.ext _ _ (g1.ext _ _ hb)
      have hg2 : (padH es.length (nx + 1) (h.set nx (.uiter b clk none [] clk))).get b = some (.umap es clk) := by
        rw [padH_out (.inl (by omega)), Tr.get_set_ne _ _ _ _ (by omega)]
        exact hg
      have hmem : ({ w with heap := w.heap.push (.mapIter (some bi.rb) clk #[] clk) } : World).heap[bi.rb]? = some (.map arr clk) := by rw [push_ne w _ hlt.2]; exact q1
      have hbase : ∀ j (hj : j < es''.length), β2 (nx + 1 + j) = some ⟨bi.rb, es''[j].born, 0⟩ := fun j hj => by
        have := l1 j (by simpa using hj)
        simpa using this
      have g3 := g2.hr.upd (fl := fl) (o' := .lmap (labE es (nx + 1)) clk) hb2 hg2 rfl hflb (fun _ => hr.new b bi _ hb hg rfl) (fun _ _ => rfl) rfl (Below.refl _ _) (by
        refine ⟨arr, es', hmem, ?_, fun e he => ?_, q2.mono (fun k c e => g2.ext _ _ (g1.ext _ _ e)), qb⟩
        · rw [labE_real r2 (fun j hj => by unfold baseOf; rw [hbase j hj])]
          exact r1.symm
        · obtain ⟨j, j1, j2⟩ := labE_mem he
          rw [j2, hbase j (by omega)]
          rfl)
      exact ⟨_, _, β2, s1, (g1.trans g2).trans g3, ⟨_, g2.ext _ _ hid, rfl⟩⟩
    · rename_i es clk hg hflb hfl
      have hfl := Nat.le_of_ble_eq_true hfl
      cases hx
      obtain ⟨arr, es', q1, _⟩ := hr.blk b bi _ hb hg
      obtain ⟨β1, s1, g1, hid⟩ := step hfl q1
      exact ⟨_, _, β1, s1, g1, ⟨_, hid, rfl⟩⟩
    · cases hx
  · cases hx
end
end
end Go.Proofs.YtohcohbbmjhnfaaGreatDoor.X
