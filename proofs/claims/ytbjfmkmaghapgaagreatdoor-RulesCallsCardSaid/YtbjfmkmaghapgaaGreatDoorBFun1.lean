/-
slices.Index, IndexFunc, ContainsFunc; rules.Types, KindOf, Takes; canon.keyed; walked. Condition: none.
-/
import Derived.Test.YtbjfmkmaghapgaaGreatDoorBSort
set_option linter.unusedVariables false
set_option linter.unusedSimpArgs false
namespace Go.Proofs.YtbjfmkmaghapgaaGreatDoor.B
open Go.RowKit
/-- The first place at which it holds, from a place on. -/
def idxFrom {α : Type} (p : α → Bool) : Nat → List α → Int
  | _, [] => -1
  | n, x :: r => if p x = true then (n : Int) else idxFrom p (n + 1) r
def idxBy {α : Type} (p : α → Bool) (l : List α) : Int := idxFrom p 0 l
theorem idxFrom_drop {α : Type} (p : α → Bool) : ∀ (l : List α) (n k : Nat), (∀ i x, i < k → l[i]? = some x → p x = false) → idxFrom p n l = idxFrom p (n + k) (l.drop k)
  | l, n, 0, _ => by simp
  | [], n, k + 1, _ => by simp [idxFrom]
  | a :: l, n, k + 1, h => by
    have h0 := h 0 a (by omega) rfl
    have ih := idxFrom_drop p l (n + 1) k (fun i x hi hx => h (i + 1) x (by omega) (by simpa using hx))
    simp only [idxFrom, h0, Bool.false_eq_true, if_false, List.drop_succ_cons]
    rw [ih, show n + 1 + k = n + (k + 1) by omega]
theorem idxBy_none {α : Type} (p : α → Bool) (l : List α) (h : ∀ i x, i < l.length → l[i]? = some x → p x = false) : idxBy p l = -1 := by
  unfold idxBy
  rw [idxFrom_drop p l 0 l.length h, List.drop_length]
  rfl
theorem idxBy_at {α : Type} (p : α → Bool) (l : List α) (k : Nat) (x : α) (hx : l[k]? = some x) (hp : p x = true) (h : ∀ i y, i < k → l[i]? = some y → p y = false) : idxBy p l = k := by
  unfold idxBy
  have hlt := (List.getElem?_eq_some_iff.1 hx).1
  have e : l[k] = x := by rw [List.getElem?_eq_getElem hlt] at hx; simpa using hx
  rw [idxFrom_drop p l 0 k h, List.drop_eq_getElem_cons hlt, e]
  simp [idxFrom, hp]
structure NoneYet {α : Type} (p : α → Bool) (l : List α) (k : Int) : Prop where
  lo : 0 ≤ k
  hi : k ≤ l.length
  all : ∀ i x, (i : Nat) < k.toNat → l[i]? = some x → p x = false
theorem NoneYet.zero {α : Type} {p : α → Bool} {l : List α} : NoneYet p l 0 := ⟨by omega, by omega, fun i x h => by simp at h⟩
theorem NoneYet.next {α : Type} {p : α → Bool} {l : List α} {k : Int} (h : NoneYet p l k) {x : α} (hx : l[k.toNat]? = some x) (hp : p x = false) : NoneYet p l (k + 1) := by
  have h0 := h.lo
  have hlt := (List.getElem?_eq_some_iff.1 hx).1
  refine ⟨by omega, by omega, fun i y hi hy => ?_⟩
  by_cases e : i < k.toNat
  · exact h.all i y e hy
  · have : i = k.toNat := by omega
    rw [this, hx] at hy
    cases hy
    exact hp
set_option maxRecDepth 100000 in
set_option maxHeartbeats 2000000 in
theorem indexStr_ac {G : World → Prop} (hst : Stable G) (l : List ByteArray) (X : List (List PV)) (hX : l.map encS = X) (hl : l.length ≤ 1000000) (s : ByteArray) (c : Int) (hc : Is c (fun _ => idxBy (fun x => decide (s = x)) l)) : ACalls G Tryz.prog 35 [.sl X, .lit (.string s)] (.lit (.int .i64 c)) none := by
  have hXl : X.length = l.length := by rw [← hX]; simp
  refine acalls_fn hst mixed tau_ok Tryz.func35 (by kernel_rfl) (by kernel_rfl) (by kernel_rfl) ?_
  intro Q hQ
  cbv
  intro m1 h1
  cbv
  refine Or.inr ⟨[0, 1, 7], [], Int, fun k => [(.t 8, ⟨.pv (.lit (.int .i64 k)), none, none⟩)], NoneYet (fun x => decide (s = x)) l, fun k => X.length - k.toNat, 0, NoneYet.zero, ?_, ?_⟩
  · cbv
    simp
  · intro k hk
    cbv
    intro b2 h2
    cbv
    cases b2
    · cbv
      refine litI ?_
      have e1 := h1.len
      have e2 := h2.no
      rw [hc.out, idxBy_none _ l (fun i x hi hx => hk.all i x (by omega) hx)]
    · cbv
      refine ⟨h1.atL hk.lo h2.yes, ?_⟩
      intro r hr
      obtain ⟨x, hx, rfl⟩ := hr.row hX
      cbv
      intro b3 h3
      cbv
      cases b3
      · cbv
        intro k' hk'
        cbv
        have e1 := h1.len
        have e2 := h2.yes
        have e3 := hk.lo
        have e4 := hk'.add1 (by omega) (by omega)
        refine ⟨k', ?_, ?_, ?_⟩
        · rw [e4]; exact hk.next hx (by simpa using h3.no)
        · show X.length - k'.toNat < X.length - k.toNat
          omega
        · cbv
          simp
      · cbv
        refine litI ?_
        have e3 := hk.lo
        rw [hc.out, idxBy_at _ l k.toNat x hx (by simpa using h3.yes) hk.all]
        omega
set_option maxRecDepth 100000 in
set_option maxHeartbeats 2000000 in
theorem indexFuncStr_ac {G : World → Prop} (hst : Stable G) (l : List ByteArray) (X : List (List PV)) (hX : l.map encS = X) (hl : l.length ≤ 1000000) (f : Nat) (p : ByteArray → Bool) (hf : ∀ s, s ∈ l → ACalls G Tryz.prog f [.lit (.string s)] (.lit (.bool (p s))) none) (c : Int) (hc : Is c (fun _ => idxBy p l)) :
    ACalls G Tryz.prog 105 [.sl X, .lit (.func (.func f) #[] #[])] (.lit (.int .i64 c)) none := by
  have hXl : X.length = l.length := by rw [← hX]; simp
  refine acalls_fn hst mixed tau_ok Tryz.func105 (by kernel_rfl) (by kernel_rfl) (by kernel_rfl) ?_
  intro Q hQ
  cbv
  intro m1 h1
  cbv
  refine Or.inr ⟨[0, 1, 7], [], Int, fun k => [(.t 8, ⟨.pv (.lit (.int .i64 k)), none, none⟩)], NoneYet p l, fun k => X.length - k.toNat, 0, NoneYet.zero, ?_, ?_⟩
  · cbv
    simp
  · intro k hk
    cbv
    intro b2 h2
    cbv
    cases b2
    · cbv
      refine litI ?_
      have e1 := h1.len
      have e2 := h2.no
      rw [hc.out, idxBy_none _ l (fun i x hi hx => hk.all i x (by omega) hx)]
    · cbv
      refine ⟨h1.atL hk.lo h2.yes, ?_⟩
      intro r hr
      obtain ⟨x, hx, rfl⟩ := hr.row hX
      cbv
      obtain ⟨b3, h3⟩ : ∃ b3, Is b3 (fun _ => p x) := ⟨_, ⟨rfl⟩⟩
      refine Or.inl ⟨_, _, hQ _ _ (.lit (.bool b3)) _ (by rw [h3.out]; exact hf x (List.mem_of_getElem? hx)), ?_⟩
      cbv
      cases b3
      · cbv
        intro k' hk'
        cbv
        have e1 := h1.len
        have e2 := h2.yes
        have e3 := hk.lo
        have e4 := hk'.add1 (by omega) (by omega)
        refine ⟨k', ?_, ?_, ?_⟩
        · rw [e4]; exact hk.next hx h3.out.symm
        · show X.length - k'.toNat < X.length - k.toNat
          omega
        · cbv
          simp
      · cbv
        refine litI ?_
        have e3 := hk.lo
        rw [hc.out, idxBy_at _ l k.toNat x hx h3.out.symm hk.all]
        omega
set_option maxRecDepth 100000 in
set_option maxHeartbeats 2000000 in
theorem containsFuncStr_ac {G : World → Prop} (hst : Stable G) (l : List ByteArray) (X : List (List PV)) (hX : l.map encS = X) (hl : l.length ≤ 1000000) (f : Nat) (p : ByteArray → Bool) (hf : ∀ s, s ∈ l → ACalls G Tryz.prog f [.lit (.string s)] (.lit (.bool (p s))) none) (c : Bool) (hc : Is c (fun _ => decide (0 ≤ idxBy p l))) :
    ACalls G Tryz.prog 89 [.sl X, .lit (.func (.func f) #[] #[])] (.lit (.bool c)) none := by
  refine acalls_fn hst mixed tau_ok Tryz.func89 (by kernel_rfl) (by kernel_rfl) (by kernel_rfl) ?_
  intro Q hQ
  cbv
  obtain ⟨i, hi⟩ : ∃ i, Is i (fun _ => idxBy p l) := ⟨_, ⟨rfl⟩⟩
  refine Or.inl ⟨_, _, hQ _ _ _ _ (indexFuncStr_ac hst l X hX hl f p hf i hi), ?_⟩
  cbv
  intro b hb
  cbv
  refine litB ?_
  rw [hb.out, hc.out, ← hi.out]
set_option maxRecDepth 100000 in
set_option maxHeartbeats 2000000 in
theorem keyed_ac {G : World → Prop} (hst : Stable G) (k n : Int) (t : ByteArray) (KX IX : List (List PV)) (c : Bool) (hc : Is c (fun _ => decide (k = 6 ∧ KX.length = IX.length))) :
    ACalls G Tryz.prog 93 [jp k n t KX IX] (.lit (.bool c)) none := by
  refine acalls_fn hst mixed tau_ok Tryz.func93 (by kernel_rfl) (by kernel_rfl) (by kernel_rfl) ?_
  intro Q hQ
  cbv
  intro b1 h1
  cbv
  cases b1
  · cbv
    refine litB ?_
    have := h1.no
    rw [hc.out, decide_eq_false (fun q => this q.1)]
  · cbv
    intro m1 h2
    cbv
    intro m2 h3
    cbv
    intro b2 h4
    cbv
    refine litB ?_
    have e1 := h1.yes
    have e2 := h2.len
    have e3 := h3.len
    rw [h4.out, hc.out]
    simp only [e1, true_and, decide_eq_decide]
    omega
def wMban : ByteArray := ⟨#[109, 46, 98, 97, 110]⟩
def wOban : ByteArray := ⟨#[111, 114, 103, 46, 109, 97, 116, 114, 105, 120, 46, 109, 106, 111, 108, 110, 105, 114, 46, 98, 97, 110]⟩
set_option maxRecDepth 100000 in
set_option maxHeartbeats 2000000 in
theorem takes_ac {G : World → Prop} (hst : Stable G) (s : ByteArray) (c : Bool) (hc : Is c (fun _ => decide (s = wMban ∨ s = wOban))) :
    ACalls G Tryz.prog 21 [.lit (.string s)] (.lit (.bool c)) none := by
  refine acalls_fn hst mixed tau_ok Tryz.func21 (by kernel_rfl) (by kernel_rfl) (by kernel_rfl) ?_
  intro Q hQ
  cbv
  intro b1 h1
  have h1 : Is b1 (fun _ => decide (s = wMban)) := h1
  cbv
  cases b1
  · cbv
    intro b2 h2
    have h2 : Is b2 (fun _ => decide (s = wOban)) := h2
    cbv
    refine litB ?_
    have := h1.no
    rw [h2.out, hc.out]
    simp [this]
  · cbv
    refine litB ?_
    have := h1.yes
    rw [hc.out]
    simp [this]
end Go.Proofs.YtbjfmkmaghapgaaGreatDoor.B
