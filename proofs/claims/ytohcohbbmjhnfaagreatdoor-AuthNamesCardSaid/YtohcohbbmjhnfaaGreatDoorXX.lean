/-
Closed runs: the same by recursors, as the kernel computes it fastest. Condition: none.
-/
import Derived.Test.YtohcohbbmjhnfaaGreatDoorXW
set_option linter.unusedVariables false
set_option linter.unusedSectionVars false
set_option linter.unusedSimpArgs false
set_option linter.unnecessarySimpa false
namespace Go.Proofs.YtohcohbbmjhnfaaGreatDoor.X
open Go Go.RowKit
noncomputable section
variable [Tabs]
theorem m2n {α β γ : Type} {a : Option α} {b : Option β} {f : α → β → Option γ} (h : ∀ u v, a = some u → ¬ b = some v) : Option.rec (motive := fun _ => Option γ) none (fun u => Option.rec (motive := fun _ => Option γ) none (fun v => f u v) b) a = none := by
  cases a with
  | none => rfl
  | some u => cases b with
    | none => rfl
    | some v => exact absurd rfl (h u v rfl)
theorem m4n {α β γ δ ε : Type} {a : Option α} {b : Option β} {c : Option γ} {d : Option δ} {f : α → β → γ → δ → Option ε} (h : ∀ u v x y, a = some u → b = some v → c = some x → ¬ d = some y) : Option.rec (motive := fun _ => Option ε) none (fun u => Option.rec (motive := fun _ => Option ε) none (fun v => Option.rec (motive := fun _ => Option ε) none (fun x => Option.rec (motive := fun _ => Option ε) none (fun y => f u v x y) d) c) b) a = none := by
  cases a with
  | none => rfl
  | some u => cases b with
    | none => rfl
    | some v => cases c with
      | none => rfl
      | some x => cases d with
        | none => rfl
        | some y => exact absurd rfl (h u v x y rfl rfl rfl)
/-! ### operations -/
def opndK (E : Env) (x : Operand) : Option XV := Operand.rec (motive := fun _ => Option XV) (fun t => E t) (fun v => ofV v) (fun _ => none) (fun f => some (.fn (.func f) [] [])) x
theorem opndK_eq (E : Env) (x : Operand) : opndK E x = opnd E x := by cases x <;> rfl
def prK (x : Option XV) : Option (XV × Option AO) := Option.rec (motive := fun _ => Option (XV × Option AO)) none (fun x => some (x, none)) x
theorem prK_eq (x : Option XV) : prK x = pr x := by cases x <;> rfl
def opndsK (E : Env) (l : List Operand) : Option (List XV) :=
  List.rec (motive := fun _ => Option (List XV)) (some []) (fun x _ ih => Option.rec (motive := fun _ => Option (List XV)) none (fun y => Option.rec (motive := fun _ => Option (List XV)) none (fun ys => some (y :: ys)) ih) (opndK E x)) l
theorem opndsK_eq (E : Env) : ∀ l : List Operand, opndsK E l = opnds E l
  | [] => rfl
  | x :: r => by
    have ih := opndsK_eq E r
    show Option.rec (motive := fun _ => Option (List XV)) none (fun y => Option.rec (motive := fun _ => Option (List XV)) none (fun ys => some (y :: ys)) (opndsK E r)) (opndK E x) = _
    rw [ih, opndK_eq]
    conv => rhs; unfold opnds
    cases opnd E x with
    | none => rfl
    | some y => cases opnds E r <;> rfl
def asInt (x : XV) : Option (IntKind × Int) :=
  match x with
  | .int k n => some (k, n)
  | _ => none
def intK (op : BinOp) (k : IntKind) (m : Int) (k' : IntKind) (n : Int) : Option XV :=
  Bool.rec (motive := fun _ => Option XV) (Bool.rec (motive := fun _ => Option XV) none (xarith op k m n) (keq k k')) (xshift op k m n) (isShift op)
def xbinK (P : Program) (op : BinOp) (t : TypeId) (x y : Operand) (a b : XV) : Option XV :=
  Option.rec (motive := fun _ => Option XV) (xbin P op t x y a b) (fun p => Option.rec (motive := fun _ => Option XV) (xbin P op t x y a b) (fun q => intK op p.1 p.2 q.1 q.2) (asInt b)) (asInt a)
theorem xbinK_eq (P : Program) (op : BinOp) (t : TypeId) (x y : Operand) (a b : XV) : xbinK P op t x y a b = xbin P op t x y a b := by
  unfold xbinK
  cases a <;> try rfl
  cases b <;> try rfl
  rename_i k m k' n
  show intK op k m k' n = _
  unfold intK xbin
  simp only
  cases isShift op with
  | true => rfl
  | false =>
    simp only
    cases keq k k' <;> rfl
def pickX (u : XV) (a b : Option (XV × Option AO)) : Option (XV × Option AO) :=
  match u with
  | .bool true => a
  | .bool false => b
  | _ => none
def lenK (P : Program) (h : Heap) (t : Option TypeId) (xs : List XV) : Option (XV × Option AO) :=
  match xs, t with
  | [v], some t => prK (xlen P h t v)
  | _, _ => none
abbrev LiteT := Program → Env → Heap → Nat → Oper → Option (XV × Option AO)
def callL (c : Call) (P : Program) (E : Env) (h : Heap) (id : Nat) (o : Oper) : Option (XV × Option AO) :=
  match c.callee with
  | .builtin .len => Option.rec (motive := fun _ => Option (XV × Option AO)) none (fun xs => lenK P h c.argTypes[0]? xs) (opndsK E c.args.toList)
  | _ => liteX P E h id o
def liteK (P : Program) (E : Env) (h : Heap) (id : Nat) (o : Oper) : Option (XV × Option AO) :=
  Op.rec (motive := fun _ => LiteT)
    (fun x P E h id o => prK (opndK E x))
    (fun x P E h id o => prK (opndK E x))
    (fun c a b P E h id o => Option.rec (motive := fun _ => Option (XV × Option AO)) none (fun u => pickX u (prK (opndK E a)) (prK (opndK E b))) (opndK E c))
    (fun elem P E h id o => al (xalloc P id elem))
    (fun elem v P E h id o => Option.rec (motive := fun _ => Option (XV × Option AO)) none (fun u => al (xbox id elem u)) (opndK E v))
    (fun t parts P E h id o => Option.rec (motive := fun _ => Option (XV × Option AO)) none (fun l => prK (xbuild P t l)) (partsX E parts.toList))
    (fun t len parts P E h id o => Option.rec (motive := fun _ => Option (XV × Option AO)) none (fun l => al (xbuildSlice P id t len l)) (partsX E parts.toList))
    (fun _ _ _ _ => liteX)
    (fun t addr P E h id o => Option.rec (motive := fun _ => Option (XV × Option AO)) none (fun u => prK (xload P h t u)) (opndK E addr))
    (fun _ _ _ => liteX)
    (fun _ => liteX)
    (fun _ => liteX)
    (fun x P E h id o => Option.rec (motive := fun _ => Option (XV × Option AO)) none (fun u => prK (xnil u)) (opndK E x))
    (fun op xt x y yt P E h id o => Option.rec (motive := fun _ => Option (XV × Option AO)) none (fun u => Option.rec (motive := fun _ => Option (XV × Option AO)) none (fun v => prK (xbinK P op xt x y u v)) (opndK E y)) (opndK E x))
    (fun op xt x P E h id o => Option.rec (motive := fun _ => Option (XV × Option AO)) none (fun u => prK (xun op u)) (opndK E x))
    (fun s d x P E h id o => Option.rec (motive := fun _ => Option (XV × Option AO)) none (fun u => prK (xconv P h s d u)) (opndK E x))
    (fun _ _ => liteX)
    (fun xt x P E h id o => Option.rec (motive := fun _ => Option (XV × Option AO)) none (fun u => prK (xmakeIface P xt u)) (opndK E x))
    (fun _ _ _ => liteX)
    (fun _ _ => liteX)
    (fun _ _ => liteX)
    (fun t len cap P E h id o => Option.rec (motive := fun _ => Option (XV × Option AO)) none (fun u => Option.rec (motive := fun _ => Option (XV × Option AO)) none (fun v => al (xmakeSlice P id t u v)) (opndK E cap)) (opndK E len))
    (fun xt x lo hi mx P E h id o => Option.rec (motive := fun _ => Option (XV × Option AO)) none (fun u => Option.rec (motive := fun _ => Option (XV × Option AO)) none (fun a => Option.rec (motive := fun _ => Option (XV × Option AO)) none (fun b => Option.rec (motive := fun _ => Option (XV × Option AO)) none (fun c => prK (xslice P h xt u a b c)) (opo E mx)) (opo E hi)) (opo E lo)) (opndK E x))
    (fun xt x f P E h id o => Option.rec (motive := fun _ => Option (XV × Option AO)) none (fun u => prK (xfieldAddr P xt u f)) (opndK E x))
    (fun xt x f P E h id o => Option.rec (motive := fun _ => Option (XV × Option AO)) none (fun u => prK (xfield P xt u f)) (opndK E x))
    (fun xt x i P E h id o => Option.rec (motive := fun _ => Option (XV × Option AO)) none (fun u => Option.rec (motive := fun _ => Option (XV × Option AO)) none (fun v => prK (xindexAddr P xt u v)) (opndK E i)) (opndK E x))
    (fun xt x i P E h id o => Option.rec (motive := fun _ => Option (XV × Option AO)) none (fun u => Option.rec (motive := fun _ => Option (XV × Option AO)) none (fun v => prK (xindex P xt u v)) (opndK E i)) (opndK E x))
    (fun xt x i ok P E h id o => Option.rec (motive := fun _ => Option (XV × Option AO)) none (fun u => Option.rec (motive := fun _ => Option (XV × Option AO)) none (fun v => prK (xlookup P h xt u v ok)) (opndK E i)) (opndK E x))
    (fun _ _ _ _ => liteX)
    (fun _ _ _ => liteX)
    (fun _ _ _ _ => liteX)
    (fun _ _ => liteX)
    (fun _ _ => liteX)
    (fun _ => liteX)
    (fun _ _ _ _ => liteX)
    (fun t i P E h id o => Option.rec (motive := fun _ => Option (XV × Option AO)) none (fun u => prK (xextract u i)) (opndK E t))
    (fun c P E h id o => callL c P E h id o)
    (fun _ => liteX)
    (fun _ => liteX)
    (fun _ => liteX)
    (fun _ _ => liteX)
    (fun _ _ _ => liteX)
    (fun _ _ => liteX)
    o.op P E h id o
theorem liteK_eq (P : Program) (E : Env) (h : Heap) (id : Nat) (o : Oper) : liteK P E h id o = liteX P E h id o := by
  unfold liteK
  cases ho : o.op
  case call c =>
    show callL c P E h id o = _
    unfold callL
    split
    · rename_i hc
      unfold liteX lenK
      simp only [ho, hc, opndsK_eq]
      cases h1 : opnds E c.args.toList with
      | none => rfl
      | some xs =>
        simp only [prK_eq]
        cases h2 : c.argTypes[0]? with
        | none =>
          cases xs with
          | nil => rfl
          | cons x xs => cases xs <;> rfl
        | some t =>
          cases xs with
          | nil => rfl
          | cons x xs => cases xs <;> rfl
    · rfl
  case pick c a b =>
    unfold liteX
    simp only [ho, opndK_eq, prK_eq]
    cases h1 : opnd E c with
    | none => rfl
    | some u =>
      simp only
      unfold pickX
      cases u <;> try rfl
      rename_i q
      cases q <;> rfl
  all_goals
    unfold liteX
    simp only [ho, opndK_eq, prK_eq, xbinK_eq]
    try first
      | rfl
      | (split <;> first | (simp_all; done) | exact m2n (by assumption) | exact m4n (by assumption))
def hvC (c : Call) : Bool := match c.callee with
  | .builtin .len => false
  | .builtin .cap => false
  | .builtin .max => false
  | .builtin .min => false
  | .builtin .unsafeSliceData => false
  | _ => true
def isHeavyK (o : Oper) : Bool := Op.rec (motive := fun _ => Bool)
    (fun x => false)
    (fun x => false)
    (fun c a b => false)
    (fun elem => false)
    (fun elem v => false)
    (fun t parts => false)
    (fun t len parts => false)
    (fun mt m k v => true)
    (fun t addr => false)
    (fun t addr val => true)
    (fun g => false)
    (fun g => false)
    (fun x => false)
    (fun op xt x y yt => false)
    (fun op xt x => false)
    (fun s d x => false)
    (fun d x => false)
    (fun xt x => false)
    (fun fn first captured => false)
    (fun t reserve => false)
    (fun t size => false)
    (fun t len cap => false)
    (fun xt x lo hi mx => false)
    (fun xt x f => false)
    (fun xt x f => false)
    (fun xt x i => false)
    (fun xt x i => false)
    (fun xt x i ok => false)
    (fun mt m k v => true)
    (fun mt m k => true)
    (fun mt m s v => true)
    (fun xt x => true)
    (fun it b => true)
    (fun it => false)
    (fun x xt as ok => false)
    (fun t i => false)
    (fun c => hvC c)
    (fun c => false)
    (fun c => false)
    (fun x => false)
    (fun c x => false)
    (fun ct c ok => false)
    (fun cases b => false)
    o.op
theorem isHeavyK_eq (o : Oper) : isHeavyK o = isHeavy o := by
  unfold isHeavyK isHeavy
  cases ho : o.op <;> rfl
def appX (a b : List XV) : List XV := List.rec (motive := fun _ => List XV) b (fun x _ ih => x :: ih) a
theorem appX_eq : ∀ a b : List XV, appX a b = a ++ b
  | [], b => rfl
  | x :: a, b => congrArg (List.cons x) (appX_eq a b)
/-- A call of a value. -/
def callV (P : Program) (ext : FuncId → Option Ek) (call : CallF) (fl : Nat) (h : Heap) (nx : Nat) (xs : List XV) (v : XV) : Option Outs :=
  match v with
  | .fn (.func f) first caps => callX P ext call fl f (appX first (appX xs caps)) h nx
  | _ => none
abbrev HeavyT := Program → (FuncId → Option Ek) → CallF → Nat → Env → Heap → Nat → Oper → Option Outs
def heavyK (P : Program) (ext : FuncId → Option Ek) (call : CallF) (fl : Nat) (E : Env) (h : Heap) (nx : Nat) (o : Oper) : Option Outs :=
  Op.rec (motive := fun _ => HeavyT)
    (fun _ => heavyX)
    (fun _ => heavyX)
    (fun _ _ _ => heavyX)
    (fun _ => heavyX)
    (fun _ _ => heavyX)
    (fun _ _ => heavyX)
    (fun _ _ _ => heavyX)
    (fun _ _ _ _ => heavyX)
    (fun _ _ => heavyX)
    (fun t addr val P ext call fl E h nx o => Option.rec (motive := fun _ => Option Outs) none (fun u => Option.rec (motive := fun _ => Option Outs) none (fun v => oneU (xstore P fl h t u v) nx) (opndK E val)) (opndK E addr))
    (fun _ => heavyX)
    (fun _ => heavyX)
    (fun _ => heavyX)
    (fun _ _ _ _ _ => heavyX)
    (fun _ _ _ => heavyX)
    (fun _ _ _ => heavyX)
    (fun _ _ => heavyX)
    (fun _ _ => heavyX)
    (fun _ _ _ => heavyX)
    (fun _ _ => heavyX)
    (fun _ _ => heavyX)
    (fun _ _ _ => heavyX)
    (fun _ _ _ _ _ => heavyX)
    (fun _ _ _ => heavyX)
    (fun _ _ _ => heavyX)
    (fun _ _ _ => heavyX)
    (fun _ _ _ => heavyX)
    (fun _ _ _ _ => heavyX)
    (fun _ _ _ _ => heavyX)
    (fun _ _ _ => heavyX)
    (fun _ _ _ _ => heavyX)
    (fun _ _ => heavyX)
    (fun _ _ => heavyX)
    (fun _ => heavyX)
    (fun _ _ _ _ => heavyX)
    (fun _ _ => heavyX)
    (fun c => Callee.rec (motive := fun _ => HeavyT) (fun f P ext call fl E h nx o => Option.rec (motive := fun _ => Option Outs) none (fun xs => Option.rec (motive := fun _ => Option Outs) none (fun v => callV P ext call fl h nx xs v) (opndK E f)) (opndsK E c.args.toList)) (fun _ _ => heavyX) (fun _ => heavyX) c.callee)
    (fun _ => heavyX)
    (fun _ => heavyX)
    (fun _ => heavyX)
    (fun _ _ => heavyX)
    (fun _ _ _ => heavyX)
    (fun _ _ => heavyX)
    o.op P ext call fl E h nx o
theorem heavyK_eq (P : Program) (ext : FuncId → Option Ek) (call : CallF) (fl : Nat) (E : Env) (h : Heap) (nx : Nat) (o : Oper) : heavyK P ext call fl E h nx o = heavyX P ext call fl E h nx o := by
  unfold heavyK
  cases ho : o.op <;> simp only [ho] <;> try rfl
  · unfold heavyX
    simp only [ho, opndK_eq]
    split <;> first | (simp_all; done) | exact m2n (by assumption)
  · rename_i c
    cases hc : c.callee with
    | invoke r n => rfl
    | builtin b => rfl
    | value f =>
      unfold heavyX
      simp only [ho, hc, opndK_eq, opndsK_eq]
      cases h1 : opnds E c.args.toList with
      | none => rfl
      | some xs =>
        simp only
        cases h2 : opnd E f with
        | none => rfl
        | some v =>
          simp only
          unfold callV
          simp only [appX_eq]
          split <;> first | rfl | (split <;> simp_all)

end
end Go.Proofs.YtohcohbbmjhnfaaGreatDoor.X
