/-
Closed runs: calls of texts and numbers alone are run once, in an empty memory (the kernel keeps what it computed). Condition: none.
-/
import Derived.Test.YtohcohbbmjhnfaaGreatDoorXFr
set_option linter.unusedVariables false
set_option linter.unusedSectionVars false
set_option linter.unusedSimpArgs false
set_option linter.unnecessarySimpa false
namespace Go.Proofs.YtohcohbbmjhnfaaGreatDoor.X
open Go Go.RowKit
noncomputable section
/-- A number is computed first. -/
def forceN {α : Type} (n : Nat) (k : Nat → α) : α := Nat.rec (motive := fun _ => α) (k 0) (fun m _ => k (Nat.succ m)) n
theorem forceN_eq {α : Type} (n : Nat) (k : Nat → α) : forceN n k = k n := by cases n <;> rfl
def forceI {α : Type} (i : Int) (k : Int → α) : α := Int.rec (motive := fun _ => α) (fun n => forceN n fun n => k (.ofNat n)) (fun n => forceN n fun n => k (.negSucc n)) i
theorem forceI_eq {α : Type} (i : Int) (k : Int → α) : forceI i k = k i := by
  cases i with
  | ofNat n => exact forceN_eq n fun n => k (.ofNat n)
  | negSucc n => exact forceN_eq n fun n => k (.negSucc n)
def forceB {α : Type} (b : Bool) (k : Bool → α) : α := Bool.rec (motive := fun _ => α) (k false) (k true) b
theorem forceB_eq {α : Type} (b : Bool) (k : Bool → α) : forceB b k = k b := by cases b <;> rfl
def forceK {α : Type} (i : IntKind) (k : IntKind → α) : α := IntKind.rec (motive := fun _ => α) (k .i8) (k .i16) (k .i32) (k .i64) (k .u8) (k .u16) (k .u32) (k .u64) i
theorem forceK_eq {α : Type} (i : IntKind) (k : IntKind → α) : forceK i k = k i := by cases i <;> rfl
/-- A text, a number, a truth value: computed first. -/
def forceX {α : Type} (x : XV) (k : XV → α) : α := match x with
  | .int i n => forceK i fun i => forceI n fun n => k (.int i n)
  | .bool b => forceB b fun b => k (.bool b)
  | .str l n => forceN l fun l => forceN n fun n => k (.str l n)
  | x => k x
def forceXs {α : Type} : List XV → (List XV → α) → α
  | [], k => k []
  | x :: r, k => forceX x fun x => forceXs r fun r => k (x :: r)
theorem forceX_eq {α : Type} {x : XV} {k : XV → α} : forceX x k = k x := by
  unfold forceX
  split
  · rw [forceK_eq, forceI_eq]
  · rw [forceB_eq]
  · rw [forceN_eq, forceN_eq]
  · rfl
theorem forceXs_eq {α : Type} : ∀ {l : List XV} {k : List XV → α}, forceXs l k = k l
  | [], k => rfl
  | x :: r, k => by
    unfold forceXs
    rw [forceX_eq, forceXs_eq]
variable [Tabs]
/-- More memory besides. -/
theorem HR.below {B fl : Nat} {β : Ren} {h : Heap} {nx : Nat} {w w' : World} (hr : HR B β h nx w) (hB : B ≤ w.heap.size) (hbelow : Below w.heap.size w w') : Go_ B fl β h nx w β h nx w' :=
  ⟨Ext.refl β, fun _ _ e => .inl e, Nat.le_refl _, ⟨fun b bi o e1 e2 => (hr.blk b bi o e1 e2).mono (Ext.refl β) (hbelow.block _ (hr.lt b bi e1).2), fun b bi e => ⟨(hr.lt b bi e).1, Nat.lt_of_lt_of_le (hr.lt b bi e).2 hbelow.size⟩, hr.inj, hr.new, Tabs.st hr.tb (hbelow.mono hB)⟩, hbelow.mono hB, hbelow.size, fun _ _ => rfl⟩
def XV.flat : XV → Bool
  | .int .. | .bool _ | .str .. => true
  | _ => false
def allFlat : List XV → Bool
  | [] => true
  | x :: r => match x.flat with
    | true => allFlat r
    | false => false
theorem flat_any {β β' : Ren} {x : XV} {v : Value} (hx : x.flat = true) (h : VR β x v) : VR β' x v := by
  cases x <;> first | (cases hx; done) | exact h
theorem flats_any {β β' : Ren} : ∀ {xs : List XV} {vs : List Value}, allFlat xs = true → VRs β xs vs → VRs β' xs vs
  | [], _, _, h => h
  | x :: r, vs, hf, ⟨u, us, e, h1, h2⟩ => by
    unfold allFlat at hf
    split at hf
    · rename_i q; exact ⟨u, us, e, flat_any q h1, flats_any hf h2⟩
    · cases hf
def XV.flatR : XV → Bool
  | .tup l => allFlat l
  | x => x.flat
theorem flatR_any {β β' : Ren} {x : XV} {v : Value} (hx : x.flatR = true) (h : VR β x v) : VR β' x v := by
  cases x <;> first | (cases hx; done) | exact h | skip
  obtain ⟨vs, e, h1⟩ := h
  exact ⟨vs, e, flats_any hx h1⟩
/-- All answers are texts and numbers: each told once. -/
def flatO (h : Heap) (nx : Nat) : Outs → Option Outs
  | [] => some []
  | o :: r => match o.1.flatR, flatO h nx r with
    | true, some l => match memX1 o.1 l with
      | true => some l
      | false => some ((o.1, h, nx) :: l)
    | _, _ => none
where
  memX1 (x : XV) : Outs → Bool
    | [] => false
    | p :: r => match beqX x p.1 with
      | true => true
      | false => memX1 x r
theorem memX1_ok {h : Heap} {nx : Nat} {x : XV} : ∀ {l : Outs}, (∀ p, p ∈ l → p.2 = (h, nx)) → flatO.memX1 x l = true → (x, h, nx) ∈ l
  | [], _, e => by cases e
  | p :: r, hl, e => by
    unfold flatO.memX1 at e
    split at e
    · rename_i q
      have := hl p (List.mem_cons_self ..)
      obtain ⟨a, b⟩ := p
      rw [beqX_ok q, ← this]
      exact List.mem_cons_self ..
    · exact List.mem_cons_of_mem _ (memX1_ok (fun p hp => hl p (List.mem_cons_of_mem _ hp)) e)
theorem flatO_ok {h : Heap} {nx : Nat} : ∀ {l outs : Outs}, flatO h nx l = some outs → (∀ p, p ∈ outs → p.2 = (h, nx)) ∧ ∀ o, o ∈ l → o.1.flatR = true ∧ (o.1, h, nx) ∈ outs
  | [], outs, e => by cases e; exact ⟨fun p hp => by simp at hp, fun o ho => by simp at ho⟩
  | o :: r, outs, e => by
    unfold flatO at e
    split at e
    · rename_i l q1 q2
      obtain ⟨i1, i2⟩ := flatO_ok q2
      split at e
      · rename_i q3
        cases e
        refine ⟨i1, fun p hp => ?_⟩
        rcases List.mem_cons.1 hp with rfl | hp
        · exact ⟨q1, memX1_ok i1 q3⟩
        · exact i2 p hp
      · cases e
        refine ⟨fun p hp => ?_, fun p hp => ?_⟩
        · rcases List.mem_cons.1 hp with rfl | hp
          · rfl
          · exact i1 p hp
        · rcases List.mem_cons.1 hp with rfl | hp
          · exact ⟨q1, List.mem_cons_self ..⟩
          · exact ⟨(i2 p hp).1, List.mem_cons_of_mem _ (i2 p hp).2⟩
    · cases e
def autoX (pure : FuncId → Bool) (run : FuncId → List XV → Option Outs) (k : CallF) : CallF := fun fl f xs h nx => Bool.rec (motive := fun _ => Option Outs) (k fl f xs h nx)
  (Bool.rec (motive := fun _ => Option Outs) (k fl f xs h nx) (Option.rec (motive := fun _ => Option Outs) (k fl f xs h nx) (fun outs => Option.rec (motive := fun _ => Option Outs) (k fl f xs h nx) (fun l => some l) (flatO h nx outs)) (forceXs xs fun xs => run f xs)) (allFlat xs)) (pure f)
theorem autoX_ok {P : Program} {ext : FuncId → Option Ek} {prim k : CallF} {F n : Nat} {pure : FuncId → Bool} (hm : P.follows .mixedOrders = true) (hE : ExtOK P ext) (hno : numFree P = true) (hprim : CallOK P prim) (hk : CallOK P k) :
    CallOK P (autoX pure (fun f xs => runFK P ext prim F n 0 f xs .nil 0) k) := by
  intro B fl f xs h nx outs hx β w vs hr hB hfl hv
  unfold autoX at hx
  cases q : pure f with
  | false => rw [q] at hx; exact hk hx hr hB hfl hv
  | true =>
    rw [q] at hx
    simp only at hx
    cases q1 : allFlat xs with
    | false => rw [q1] at hx; exact hk hx hr hB hfl hv
    | true =>
      rw [q1] at hx
      simp only [forceXs_eq] at hx
      cases q2 : runFK P ext prim F n 0 f xs .nil 0 with
      | none => rw [q2] at hx; exact hk hx hr hB hfl hv
      | some l =>
        rw [q2] at hx
        simp only at hx
        cases q3 : flatO h nx l with
        | none => rw [q3] at hx; exact hk hx hr hB hfl hv
        | some l' =>
          rw [q3] at hx
          cases hx
          rw [runFK_eq] at q2
          have hhr : HR w.heap.size (fun _ => none) .nil 0 w := ⟨(fun _ _ _ e => nomatch e), (fun _ _ e => nomatch e), (fun _ _ _ _ _ _ e => nomatch e), (fun _ _ _ e => nomatch e), Tabs.up hr.tb hB⟩
          obtain ⟨h1, h2⟩ := runF_ok hm hE hno hprim n q2 (β := fun _ => none) hhr (Nat.le_refl _) (Nat.le_refl _) (flats_any q1 hv)
          refine ⟨h1, Calls.mono h2 ?_⟩
          rintro e w' ⟨x, h', nx', hmem, v, β', rfl, hg, hxv⟩
          obtain ⟨k1, k2⟩ := (flatO_ok q3).2 _ hmem
          exact ⟨x, h, nx, k2, v, β, rfl, hr.below hB hg.below, flatR_any k1 hxv⟩
end
end Go.Proofs.YtohcohbbmjhnfaaGreatDoor.X
