/-
The logic of pure values: the program's types, values of type Levels, and lemmas on what is asked. Condition: none.
-/
import Derived.Test.YtbjfmkmaghapgaaGreatDoorBCodeO
import Derived.Test.YtbjfmkmaghapgaaGreatDoorProg
import Derived.KernelRfl
import Derived.IntWalk
set_option linter.unusedVariables false
set_option linter.unusedSimpArgs false
namespace Go.Proofs.YtbjfmkmaghapgaaGreatDoor.B
open Go.RowKit
def encE (p : ByteArray × Int) : List PV := [.lit (.string p.1), .lit (.int .i64 p.2)]
abbrev encLv (X Y : List (List PV)) (a2 a3 a4 a5 a6 a7 a8 : Int) : PV := .agg [.sl X, .sl Y, .lit (.int .i64 a2), .lit (.int .i64 a3), .lit (.int .i64 a4), .lit (.int .i64 a5), .lit (.int .i64 a6), .lit (.int .i64 a7), .lit (.int .i64 a8)]
theorem mixed : Tryz.prog.follows .mixedOrders = true := by kernel_rfl
theorem eq_of (P : Program) (t : TypeId) (h : (!(P.stoodInHeld t) && !(P.eqGuardType P.depth t)) = true) : P.stoodInHeld t = false ∧ P.eqGuardType P.depth t = false := by simpa using h
noncomputable def eqv (t : TypeId) : Bool := !(Tryz.prog.stoodInHeld t) && !(Tryz.prog.eqGuardType Tryz.prog.depth t)
noncomputable def tau (t : TypeId) : Option TI := tauOf Tryz.prog eqv t
theorem tau_ok : TauOK Tryz.prog tau := tauOf_ok Tryz.prog eqv (fun t h => eq_of Tryz.prog t h)
/-! ### facts -/
theorem Is.row {α : Type} {E : α → List PV} {l : List α} {n : Nat} {r : List PV} {X : List (List PV)} (hX : l.map E = X) (h : Is (some r) (fun _ => X[n]?)) : ∃ x, l[n]? = some x ∧ r = E x := by
  have h := h.out
  subst hX
  rw [List.getElem?_map] at h
  cases hq : l[n]? with
  | none => rw [hq] at h; cases h
  | some x => rw [hq] at h; exact ⟨x, rfl, by simpa using h⟩
theorem Is.i64 {m n : Int} (h : Is m (fun _ => IntKind.i64.wrap n)) (h1 : -9223372036854775808 ≤ n) (h2 : n ≤ 9223372036854775807) : m = n := by
  rw [h.out]
  exact IntWalk.i64_in _ ⟨h1, h2⟩
theorem Is.t {p : Prop} [Decidable p] {n : Unit → Bool} (h : Is true n) (e : n () = decide p) : p := by
  have := h.out; rw [e] at this; simpa using this.symm
theorem Is.f {p : Prop} [Decidable p] {n : Unit → Bool} (h : Is false n) (e : n () = decide p) : ¬ p := by
  have := h.out; rw [e] at this; simpa using this.symm
theorem Is.yes {p : Prop} [Decidable p] (h : Is true (fun _ => decide p)) : p := h.t rfl
theorem Is.no {p : Prop} [Decidable p] (h : Is false (fun _ => decide p)) : ¬ p := h.f rfl
theorem str_ne {a b : ByteArray} (h : a ≠ b) : a.toList ≠ b.toList := fun e => h (toList_inj e)
/-- A counter's range, and what was shown of all below it. -/
structure Upto (n : Nat) (p : Nat → Prop) (k : Int) : Prop where
  lo : 0 ≤ k
  hi : k ≤ n
  all : ∀ x : Nat, (x : Int) < k → p x
theorem Upto.zero {n : Nat} {p : Nat → Prop} : Upto n p 0 := ⟨by omega, by omega, fun x h => by omega⟩
theorem Upto.next {n : Nat} {p : Nat → Prop} {k : Int} (h : Upto n p k) (hk : k < n) (hp : p k.toNat) : Upto n p (k + 1) :=
  ⟨by have := h.lo; omega, by omega, fun x hx => by
    by_cases e : (x : Int) < k
    · exact h.all x e
    · have := h.lo
      have : x = k.toNat := by omega
      rw [this]; exact hp⟩
theorem Upto.full {n : Nat} {p : Nat → Prop} {k : Int} (h : Upto n p k) (hk : ¬ k < n) (x : Nat) (hx : x < n) : p x := h.all x (by omega)
theorem Is.len {m : Int} {n : Nat} (h : Is m (fun _ => (n : Int))) : m = n := h.out
theorem Is.inc {m k : Int} {n : Nat} (h : Is m (fun _ => IntKind.i64.wrap (k + 1))) (h0 : 0 ≤ k) (h1 : k < n) (h2 : n ≤ 1000000000) : m = k + 1 := h.i64 (by omega) (by omega)
theorem Is.at {n : Nat} {k : Int} (h0 : 0 ≤ k) (h1 : k < n) : Req (fun _ => 0 ≤ k ∧ k.toNat < n) := ⟨h0, by omega⟩
theorem less {n : Nat} {k : Int} (h0 : 0 ≤ k) (h1 : k < n) : n - (k + 1).toNat < n - k.toNat := by omega
/-! ### a function that is known by a contract of its own -/
theorem of_calls {G : World → Prop} (hst : Stable G) (hD : ¬ ∀ w, G w) {P : Program} {f : FuncId} {args : List PV} {res : PV} {v0 : Value} (hf : Callable P f)
    (h : ∀ (w : World) (S : Nat → Nat → Prop) (vs : Array Value), G w → RepL S w vs args → Calls P f vs w fun e w' => e = .returned v0 ∧ Below w.heap.size w w') (hr : ∀ S w, RepP S w v0 res) : ACalls G P f args res none := by
  refine ⟨hf, fun w S vs hG hS hrep => (h w S vs hG hrep).mono ?_⟩
  rintro e w' ⟨rfl, hb⟩
  exact ⟨v0, S, rfl, hb, hst _ _ hG hb, fun _ _ h => h, fun _ _ h => .inl h, fun b o h => Nat.lt_of_lt_of_le (hS b o h) hb.size, hr _ _, trivial, fun d => absurd d hD⟩
theorem RepL.one {S : Nat → Nat → Prop} {w : World} {vs : Array Value} {p : PV} (h : RepL S w vs [p]) : ∃ v, vs = #[v] ∧ RepP S w v p := by
  obtain ⟨l⟩ := vs
  match l, h with
  | [v], h => exact ⟨v, rfl, h.2 0 v p rfl rfl⟩
  | [], h => exact absurd h.1 (by simp)
  | _ :: _ :: _, h => exact absurd h.1 (by simp)
theorem RepL.two {S : Nat → Nat → Prop} {w : World} {vs : Array Value} {p q : PV} (h : RepL S w vs [p, q]) : ∃ v u, vs = #[v, u] ∧ RepP S w v p ∧ RepP S w u q := by
  obtain ⟨l⟩ := vs
  match l, h with
  | [v, u], h => exact ⟨v, u, rfl, h.2 0 v p rfl rfl, h.2 1 u q rfl rfl⟩
  | [], h => exact absurd h.1 (by simp)
  | [_], h => exact absurd h.1 (by simp)
  | _ :: _ :: _ :: _, h => exact absurd h.1 (by simp)
theorem RepL.three {S : Nat → Nat → Prop} {w : World} {vs : Array Value} {p q r : PV} (h : RepL S w vs [p, q, r]) : ∃ v u t, vs = #[v, u, t] ∧ RepP S w v p ∧ RepP S w u q ∧ RepP S w t r := by
  obtain ⟨l⟩ := vs
  match l, h with
  | [v, u, t], h => exact ⟨v, u, t, rfl, h.2 0 v p rfl rfl, h.2 1 u q rfl rfl, h.2 2 t r rfl rfl⟩
  | [], h => exact absurd h.1 (by simp)
  | [_], h => exact absurd h.1 (by simp)
  | [_, _], h => exact absurd h.1 (by simp)
  | _ :: _ :: _ :: _ :: _, h => exact absurd h.1 (by simp)
theorem RepL.four {S : Nat → Nat → Prop} {w : World} {vs : Array Value} {p q r s : PV} (h : RepL S w vs [p, q, r, s]) : ∃ v u t x, vs = #[v, u, t, x] ∧ RepP S w v p ∧ RepP S w u q ∧ RepP S w t r ∧ RepP S w x s := by
  obtain ⟨l⟩ := vs
  match l, h with
  | [v, u, t, x], h => exact ⟨v, u, t, x, rfl, h.2 0 v p rfl rfl, h.2 1 u q rfl rfl, h.2 2 t r rfl rfl, h.2 3 x s rfl rfl⟩
  | [], h => exact absurd h.1 (by simp)
  | [_], h => exact absurd h.1 (by simp)
  | [_, _], h => exact absurd h.1 (by simp)
  | [_, _, _], h => exact absurd h.1 (by simp)
  | _ :: _ :: _ :: _ :: _ :: _, h => exact absurd h.1 (by simp)
/-- What a look-up finds. -/
def LookAt (l : List (ByteArray × Int)) (key : ByteArray) (n : Int) (b : Bool) : Prop :=
  (b = true ∧ ∃ (k : Nat) (p : ByteArray × Int), l[k]? = some p ∧ p.1 = key ∧ p.2 = n ∧ ∀ (x : Nat) (q : ByteArray × Int), x < k → l[x]? = some q → q.1 ≠ key) ∨ (b = false ∧ n = 0 ∧ ∀ (x : Nat) (q : ByteArray × Int), l[x]? = some q → q.1 ≠ key)
theorem LookAt.hit {l : List (ByteArray × Int)} {key : ByteArray} {n : Int} {b : Bool} (h : LookAt l key n b) {k : Nat} {p : ByteArray × Int} (hp : l[k]? = some p) (he : p.1 = key) (hf : ∀ (x : Nat) (q : ByteArray × Int), x < k → l[x]? = some q → q.1 ≠ key) : b = true ∧ n = p.2 := by
  rcases h with ⟨h1, k', p', h2, h3, h4, h5⟩ | ⟨h1, h2, h3⟩
  · have : k' = k := by
      rcases Nat.lt_trichotomy k' k with h | h | h
      · exact absurd h3 (hf k' p' h h2)
      · exact h
      · exact absurd he (h5 k p h hp)
    subst this
    rw [hp] at h2
    cases h2
    exact ⟨h1, h4.symm⟩
  · exact absurd he (h3 k p hp)
theorem LookAt.miss {l : List (ByteArray × Int)} {key : ByteArray} {n : Int} {b : Bool} (h : LookAt l key n b) (hf : ∀ (x : Nat) (q : ByteArray × Int), l[x]? = some q → q.1 ≠ key) : b = false ∧ n = 0 := by
  rcases h with ⟨h1, k', p', h2, h3, h4, h5⟩ | ⟨h1, h2, h3⟩
  · exact absurd h3 (hf k' p' h2)
  · exact ⟨h1, h2⟩
end Go.Proofs.YtbjfmkmaghapgaaGreatDoor.B
