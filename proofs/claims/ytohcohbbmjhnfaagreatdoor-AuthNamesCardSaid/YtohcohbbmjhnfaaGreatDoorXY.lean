/-
Closed runs: the same by recursors: statements, code, calls. Condition: none.
-/
import Derived.Test.YtohcohbbmjhnfaaGreatDoorXX
set_option linter.unusedVariables false
set_option linter.unusedSectionVars false
set_option linter.unusedSimpArgs false
set_option linter.unnecessarySimpa false
namespace Go.Proofs.YtohcohbbmjhnfaaGreatDoor.X
open Go Go.RowKit
noncomputable section
variable [Tabs]
def nthO {α : Type} (l : List α) : Nat → Option α :=
  List.rec (motive := fun _ => Nat → Option α) (fun _ => none) (fun x _ ih n => Nat.rec (motive := fun _ => Option α) (some x) (fun m _ => ih m) n) l
theorem nthO_eq {α : Type} : ∀ (l : List α) (n : Nat), nthO l n = l[n]?
  | [], n => by simp [nthO]
  | x :: r, 0 => rfl
  | x :: r, n + 1 => by
    show nthO r n = _
    rw [nthO_eq r n]
    simp
def asGuard (x : XV) (want : Bool) : Option Bool :=
  match x with
  | .bool b => some (beqB b want)
  | .tup [] => some false
  | _ => none
def wantK (ops : List Oper) (g : Env) (o : Oper) : Option Bool :=
  Option.rec (motive := fun _ => Option Bool) (some true) (fun p => Option.rec (motive := fun _ => Option Bool) none (fun oj => Option.rec (motive := fun _ => Option Bool) none (fun d => Option.rec (motive := fun _ => Option Bool) none (fun x => asGuard x p.2) (g d)) oj.dst) (nthO ops p.1)) o.guard
theorem wantK_eq (ops : List Oper) (g : Env) (o : Oper) : wantK ops g o = wantX ops g o := by
  unfold wantK wantX
  cases h : o.guard with
  | none => rfl
  | some p =>
    obtain ⟨j, want⟩ := p
    simp only [nthO_eq]
    cases h1 : ops[j]? with
    | none => rfl
    | some oj =>
      simp only
      cases h2 : oj.dst with
      | none => rfl
      | some d =>
        simp only
        cases h3 : g d with
        | none => rfl
        | some x =>
          simp only
          unfold asGuard
          cases x <;> first | rfl | (rename_i cs; cases cs <;> rfl)
def putK (E : Loc) (dst : Option Tmp) (N : Nat) (l : Outs) : Option (List St) :=
  List.rec (motive := fun _ => Option (List St)) (some []) (fun p _ ih => Option.rec (motive := fun _ => Option (List St)) none (fun E' => Option.rec (motive := fun _ => Option (List St)) none (fun l => some ((E', p.2) :: l)) ih) (setD E dst N p.1)) l
theorem putK_eq (E : Loc) (dst : Option Tmp) (N : Nat) : ∀ l : Outs, putK E dst N l = putO E dst N l
  | [] => rfl
  | (x, h, nx) :: r => by
    have ih := putK_eq E dst N r
    show Option.rec (motive := fun _ => Option (List St)) none (fun E' => Option.rec (motive := fun _ => Option (List St)) none (fun l => some ((E', h, nx) :: l)) (putK E dst N r)) (setD E dst N x) = _
    rw [ih]
    conv => rhs; unfold putO
    cases h1 : setD E dst N x with
    | none => rfl
    | some E' => cases h2 : putO E dst N r <;> rfl
def bindK {α : Type} (k : α → Option (List St)) (l : List α) : Option (List St) :=
  List.rec (motive := fun _ => Option (List St)) (some []) (fun s r ih => List.rec (motive := fun _ => Option (List St)) (k s) (fun _ _ _ => Option.rec (motive := fun _ => Option (List St)) none (fun a => Option.rec (motive := fun _ => Option (List St)) none (fun b => some (a ++ b)) ih) (k s)) r) l
theorem bindK_eq {α : Type} (k : α → Option (List St)) : ∀ l : List α, bindK k l = bindS k l
  | [] => rfl
  | [s] => by
    show k s = _
    unfold bindS
    cases h : k s with
    | none => rfl
    | some a => simp [bindS]
  | s :: t :: r => by
    have ih := bindK_eq k (t :: r)
    show Option.rec (motive := fun _ => Option (List St)) none (fun a => Option.rec (motive := fun _ => Option (List St)) none (fun b => some (a ++ b)) (bindK k (t :: r))) (k s) = _
    rw [ih]
    conv => rhs; unfold bindS
    cases h1 : k s with
    | none => rfl
    | some a => cases h2 : bindS k (t :: r) <;> rfl
section
variable (P : Program) (ext : FuncId → Option Ek) (call : CallF) (fl N : Nat) (ops : List Oper)
def stepK (o : Oper) (s : St) : Option (List St) :=
  Option.rec (motive := fun _ => Option (List St)) none (fun want => Bool.rec (motive := fun _ => Option (List St)) (Option.rec (motive := fun _ => Option (List St)) none (fun E' => some [(E', s.2)]) (setD s.1 o.dst N (.tup [])))
    (Bool.rec (motive := fun _ => Option (List St)) (Option.rec (motive := fun _ => Option (List St)) none (fun p => Option.rec (motive := fun _ => Option (List St)) none (fun E' => some [(E', Option.rec (motive := fun _ => Heap × Nat) s.2 (fun ob => (s.2.1.set s.2.2 ob, Nat.succ s.2.2)) p.2)]) (setD s.1 o.dst N p.1)) (liteK P s.1.get s.2.1 s.2.2 o))
      (Option.rec (motive := fun _ => Option (List St)) none (fun outs => putK s.1 o.dst N outs) (heavyK P ext call fl s.1.get s.2.1 s.2.2 o)) (isHeavyK o)) want)
    (wantK ops s.1.get o)
def seqK (l : List Oper) : St → Option (List St) :=
  List.rec (motive := fun _ => St → Option (List St)) (fun s => some [s]) (fun o _ ih s => Option.rec (motive := fun _ => Option (List St)) none (fun l => bindK ih l) (stepK P ext call fl N ops o s)) l
def runK (l : List Nat) : St → Option St :=
  List.rec (motive := fun _ => St → Option St) (fun s => some s) (fun j _ ih s => Option.rec (motive := fun _ => Option St) none (fun o => Option.rec (motive := fun _ => Option St) none (fun want => Bool.rec (motive := fun _ => Option St) (Option.rec (motive := fun _ => Option St) none (fun E' => ih (E', s.2)) (setD s.1 o.dst N (.tup [])))
    (Option.rec (motive := fun _ => Option St) none (fun p => Option.rec (motive := fun _ => Option St) none (fun E' => ih (E', Option.rec (motive := fun _ => Heap × Nat) s.2 (fun ob => (s.2.1.set s.2.2 ob, Nat.succ s.2.2)) p.2)) (setD s.1 o.dst N p.1)) (liteK P s.1.get s.2.1 s.2.2 o)) want) (wantK ops s.1.get o)) (nthO ops j)) l
end
section
variable {P : Program} {ext : FuncId → Option Ek} {call : CallF} {fl N : Nat} {ops : List Oper}
theorem stepK_eq (o : Oper) (s : St) : stepK P ext call fl N ops o s = stepX P ext call fl N ops o s := by
  obtain ⟨E, h, nx⟩ := s
  unfold stepK stepX
  simp only [wantK_eq, liteK_eq, heavyK_eq, isHeavyK_eq, putK_eq]
  cases h1 : wantX ops E.get o with
  | none => rfl
  | some want =>
    cases want with
    | false =>
      simp only [putO]
      cases h2 : setD E o.dst N (.tup []) <;> rfl
    | true =>
      cases h2 : isHeavy o with
      | true =>
        simp only
        cases h3 : heavyX P ext call fl E.get h nx o <;> rfl
      | false =>
        simp only
        cases h3 : liteX P E.get h nx o with
        | none => rfl
        | some p =>
          obtain ⟨x, ob⟩ := p
          simp only
          cases ob with
          | none =>
            simp only [putO]
            cases h4 : setD E o.dst N x <;> rfl
          | some ob =>
            simp only [putO]
            cases h4 : setD E o.dst N x <;> rfl
theorem seqK_eq : ∀ (l : List Oper) (s : St), seqK P ext call fl N ops l s = seqX P ext call fl N ops l s
  | [], s => rfl
  | o :: r, s => by
    have ih : seqK P ext call fl N ops r = seqX P ext call fl N ops r := funext (seqK_eq r)
    show Option.rec (motive := fun _ => Option (List St)) none (fun l => bindK (seqK P ext call fl N ops r) l) (stepK P ext call fl N ops o s) = _
    rw [stepK_eq, ih]
    conv => rhs; unfold seqX
    cases h : stepX P ext call fl N ops o s with
    | none => rfl
    | some l => exact bindK_eq _ l
theorem runK_eq : ∀ (l : List Nat) (s : St), runK P N ops l s = runL P N ops l s
  | [], s => rfl
  | j :: r, s => by
    have ih : runK P N ops r = runL P N ops r := funext (runK_eq r)
    show Option.rec (motive := fun _ => Option St) none (fun o => Option.rec (motive := fun _ => Option St) none (fun want => Bool.rec (motive := fun _ => Option St) (Option.rec (motive := fun _ => Option St) none (fun E' => runK P N ops r (E', s.2)) (setD s.1 o.dst N (.tup [])))
      (Option.rec (motive := fun _ => Option St) none (fun p => Option.rec (motive := fun _ => Option St) none (fun E' => runK P N ops r (E', Option.rec (motive := fun _ => Heap × Nat) s.2 (fun ob => (s.2.1.set s.2.2 ob, Nat.succ s.2.2)) p.2)) (setD s.1 o.dst N p.1)) (liteK P s.1.get s.2.1 s.2.2 o)) want) (wantK ops s.1.get o)) (nthO ops j) = _
    rw [ih]
    obtain ⟨E, h, nx⟩ := s
    conv => rhs; unfold runL
    simp only [wantK_eq, liteK_eq, nthO_eq]
    cases h0 : ops[j]? with
    | none => rfl
    | some o =>
      simp only
      cases h1 : wantX ops E.get o with
      | none => rfl
      | some want =>
        cases want with
        | false =>
          simp only
          cases h2 : setD E o.dst N (.tup []) <;> rfl
        | true =>
          simp only
          cases h3 : liteX P E.get h nx o with
          | none => rfl
          | some p =>
            obtain ⟨x, ob⟩ := p
            cases ob with
            | none =>
              simp only
              cases h4 : setD E o.dst N x <;> rfl
            | some ob =>
              simp only
              cases h4 : setD E o.dst N x <;> rfl
end
section
variable (P : Program) (ops : List Oper) (bs : List (List Nat))
def sameK (ids : List Nat) (g : Env) (x : XV) (dst : Option Tmp) : Option (List Nat) :=
  Option.rec (motive := fun _ => Option (List Nat)) (some ids) (fun d => Option.rec (motive := fun _ => Option (List Nat)) none (fun y => Bool.rec (motive := fun _ => Option (List Nat)) none (some ids) (beqX x y)) (g d)) dst
def newK (nx0 lo : Nat) (ko : Option Nat) (s : St) (j : Nat) (ids : List Nat) (o : Oper) : Option (List Nat) :=
  match o.dst with
  | none => none
  | some d => match s.1.get d with
    | none => none
    | some y => match blkOf y with
      | none => none
      | some b => match liteK P s.1.get s.2.1 b o, s.2.1.get b with
        | some (x, some ob), some ob' => match beqX x y, beqO ob ob', Nat.blt b s.2.2, Nat.ble (match newJ bs ko j with | true => lo | false => nx0) b, memN b ids with
          | true, true, true, true, false => some (b :: ids)
          | _, _, _, _, _ => none
        | _, _ => none
def chk1K (nx0 lo : Nat) (ko : Option Nat) (s : St) (j : Nat) (ids : List Nat) : Option (List Nat) :=
  Option.rec (motive := fun _ => Option (List Nat)) none (fun o => Option.rec (motive := fun _ => Option (List Nat)) none (fun want => Bool.rec (motive := fun _ => Option (List Nat))
    (match o.dst with
    | none => some ids
    | some d => match s.1.get d with
      | some (.tup []) => some ids
      | _ => none)
    (Bool.rec (motive := fun _ => Option (List Nat)) (Option.rec (motive := fun _ => Option (List Nat)) none (fun p => Option.rec (motive := fun _ => Option (List Nat)) (sameK ids s.1.get p.1 o.dst) (fun _ => none) p.2) (liteK P s.1.get s.2.1 0 o))
      (newK P bs nx0 lo ko s j ids o) (allocK o.op)) want) (wantK ops s.1.get o)) (nthO ops j)
def chkLK (nx0 lo : Nat) (ko : Option Nat) (s : St) (l : List Nat) : List Nat → Bool :=
  List.rec (motive := fun _ => List Nat → Bool) (fun _ => true) (fun j _ ih ids => Option.rec (motive := fun _ => Bool) false (fun ids' => ih ids') (chk1K P ops bs nx0 lo ko s j ids)) l
end
section
variable {P : Program} {ops : List Oper} {bs : List (List Nat)}
theorem chk1K_eq (nx0 lo : Nat) (ko : Option Nat) (s : St) (j : Nat) (ids : List Nat) : chk1K P ops bs nx0 lo ko s j ids = chk1 P ops bs nx0 lo ko s j ids := by
  unfold chk1K chk1 newK
  simp only [nthO_eq, wantK_eq, liteK_eq]
  cases h0 : ops[j]? with
  | none => rfl
  | some o =>
    simp only
    cases h1 : wantX ops s.1.get o with
    | none => rfl
    | some want =>
      cases want with
      | false => rfl
      | true =>
        simp only
        cases h2 : allocK o.op with
        | true => rfl
        | false =>
          simp only
          cases h3 : liteX P s.1.get s.2.1 0 o with
          | none => rfl
          | some p =>
            obtain ⟨x, ob⟩ := p
            cases ob with
            | some ob => rfl
            | none =>
              simp only
              unfold sameK
              cases h4 : o.dst with
              | none => rfl
              | some d =>
                simp only
                cases h5 : s.1.get d with
                | none => rfl
                | some y =>
                  simp only
                  cases beqX x y <;> rfl
theorem chkLK_eq (nx0 lo : Nat) (ko : Option Nat) (s : St) : ∀ (l ids : List Nat), chkLK P ops bs nx0 lo ko s l ids = chkL P ops bs nx0 lo ko s l ids
  | [], ids => rfl
  | j :: r, ids => by
    have ih : chkLK P ops bs nx0 lo ko s r = chkL P ops bs nx0 lo ko s r := funext (chkLK_eq nx0 lo ko s r)
    show Option.rec (motive := fun _ => Bool) false (fun ids' => chkLK P ops bs nx0 lo ko s r ids') (chk1K P ops bs nx0 lo ko s j ids) = _
    rw [ih, chk1K_eq]
    conv => rhs; unfold chkL
    cases h : chk1 P ops bs nx0 lo ko s j ids <;> rfl
end
section
variable (P : Program) (ext : FuncId → Option Ek) (call : CallF) (fl N : Nat) (ops : List Oper) (bs : List (List Nat)) (hv : List Nat)
def phaseK (nx0 : Nat) (S : List Nat) (ko : Option Nat) (s : St) : Option St :=
  match runK P N ops (litesAt bs hv S ko ops 0) s with
  | some s' => match Nat.ble nx0 s.2.2, chkLK P ops bs nx0 s.2.2 ko s' (openAt bs hv S ops 0) [] with
    | true, true => some s'
    | _, _ => none
  | none => none
end
def anyK (P : Program) (ext : FuncId → Option Ek) (call : CallF) (fl N : Nat) (ops : List Oper) (s : St) : Option (List St) :=
  match planOK N ops with
  | false => none
  | true => match phaseK P N ops (befs [] ops) (hvs ops) s.2.2 [] none s with
    | some s' => contG (stepK P ext call fl N ops) (phaseK P N ops (befs [] ops) (hvs ops) s.2.2) fl ops (befs [] ops) (hvs ops) (hvs ops).length [([], s')]
    | none => none
section
variable {P : Program} {ext : FuncId → Option Ek} {call : CallF} {fl N : Nat} {ops : List Oper} {bs : List (List Nat)} {hv : List Nat}
theorem phaseK_eq (nx0 : Nat) (S : List Nat) (ko : Option Nat) (s : St) : phaseK P N ops bs hv nx0 S ko s = phaseX P N ops bs hv nx0 S ko s := by
  unfold phaseK phaseX
  simp only [runK_eq, chkLK_eq]
  rfl
theorem anyK_eq (s : St) : anyK P ext call fl N ops s = anyX P ext call fl N ops s := by
  have e1 : stepK P ext call fl N ops = stepX P ext call fl N ops := funext fun o => funext fun s => stepK_eq o s
  have e2 : phaseK P N ops (befs [] ops) (hvs ops) s.2.2 = phaseX P N ops (befs [] ops) (hvs ops) s.2.2 := funext fun S => funext fun ko => funext fun s' => phaseK_eq _ S ko s'
  unfold anyK anyX
  rw [e1, e2]
  rfl
end
/-! ### code -/
def bindEK {α : Type} (k : α → Option (List Ou)) (l : List α) : Option (List Ou) :=
  List.rec (motive := fun _ => Option (List Ou)) (some []) (fun s r ih => List.rec (motive := fun _ => Option (List Ou)) (k s) (fun _ _ _ => Option.rec (motive := fun _ => Option (List Ou)) none (fun a => Option.rec (motive := fun _ => Option (List Ou)) none (fun b => some (a ++ b)) ih) (k s)) r) l
theorem bindEK_eq {α : Type} (k : α → Option (List Ou)) : ∀ l : List α, bindEK k l = bindE k l
  | [] => rfl
  | [s] => rfl
  | s :: t :: r => by
    have ih := bindEK_eq k (t :: r)
    show Option.rec (motive := fun _ => Option (List Ou)) none (fun a => Option.rec (motive := fun _ => Option (List Ou)) none (fun b => some (a ++ b)) (bindEK k (t :: r))) (k s) = _
    rw [ih]
    conv => rhs; unfold bindE
    cases h1 : k s with
    | none => rfl
    | some a => cases h2 : bindE k (t :: r) <;> rfl
def thenK (k : St → Option (List Ou)) (o : Ou) : Option (List Ou) :=
  Ex.rec (motive := fun _ => Option (List Ou)) (k o.2) (fun _ => some [o]) (some [o]) o.1
theorem thenK_eq (k : St → Option (List Ou)) (o : Ou) : thenK k o = thenE k o := by
  obtain ⟨e, s⟩ := o
  cases e <;> rfl
def roundK (mg : List St → List St) (ih : List St → Option (List Ou)) (outs : List Ou) : Option (List Ou) :=
  List.rec (motive := fun _ => Option (List Ou)) (some (donesX outs)) (fun s r _ => Option.rec (motive := fun _ => Option (List Ou)) none (fun b => some (donesX outs ++ b)) (ih (mg (s :: r)))) (ahead outs)
def roundsK (mg : List St → List St) (k : St → Option (List Ou)) (n : Nat) : List St → Option (List Ou) :=
  Nat.rec (motive := fun _ => List St → Option (List Ou)) (fun _ => none) (fun _ ih l => Option.rec (motive := fun _ => Option (List Ou)) none (fun outs => roundK mg ih outs) (bindEK k l)) n
theorem roundsK_eq (mg : List St → List St) (k : St → Option (List Ou)) : ∀ (n : Nat) (l : List St), roundsK mg k n l = roundsX mg k n l
  | 0, l => rfl
  | n + 1, l => by
    have ih : roundsK mg k n = roundsX mg k n := funext (roundsK_eq mg k n)
    show Option.rec (motive := fun _ => Option (List Ou)) none (fun outs => roundK mg (roundsK mg k n) outs) (bindEK k l) = _
    rw [ih, bindEK_eq]
    conv => rhs; unfold roundsX
    cases h : bindE k l with
    | none => rfl
    | some outs =>
      show roundK mg (roundsX mg k n) outs = _
      unfold roundK
      simp only
      cases h2 : ahead outs with
      | nil => rfl
      | cons s r =>
        simp only
        cases h3 : roundsX mg k n (mg (s :: r)) <;> rfl
def normK (x : Option (List St)) : Option (List Ou) :=
  Option.rec (motive := fun _ => Option (List Ou)) none (fun l => some (List.rec (motive := fun _ => List Ou) [] (fun s _ ih => (.normal, flushS s) :: ih) l)) x
theorem normK_eq (x : Option (List St)) : normK x = normO x := by
  cases x with
  | none => rfl
  | some l =>
    show some _ = some (norm l)
    congr 1
    induction l with
    | nil => rfl
    | cons s r ih => exact congrArg (List.cons _) ih
def condK (x : Option XV) (a b : Option (List Ou)) : Option (List Ou) :=
  match x with
  | some (.bool true) => a
  | some (.bool false) => b
  | _ => none
section
variable (P : Program) (ext : FuncId → Option Ek) (call : CallF) (fl N F : Nat)
def regK (ops : List Oper) (draw : Bool) (s : St) : Option (List Ou) :=
  Bool.rec (motive := fun _ => Option (List Ou)) (normK (seqK P ext call fl N ops ops s)) (normK (anyK P ext call fl N ops s)) draw
def exK (c : Code) : St → Option (List Ou) :=
  Code.rec (motive := fun _ => St → Option (List Ou))
    (fun s => some [(.normal, s)])
    (fun _ ops draw s => regK P ext call fl N ops.toList draw s)
    (fun _ _ iha ihb s => Option.rec (motive := fun _ => Option (List Ou)) none (fun l => bindEK (thenK ihb) l) (iha s))
    (fun c _ _ iha ihb s => condK (opnd s.1.get c) (iha s) (ihb s))
    (fun id _ ih s => Option.rec (motive := fun _ => Option (List Ou)) none (fun l => some (blockE id l)) (ih s))
    (fun b ih s => roundsK (mergeC fl s.2.2 N (wrbC b (0, 0))) ih F [s])
    (fun _ _ _ _ _ _ _ => none)
    (fun id s => some [(.exit id, s)])
    (fun _ ih s => ih s)
    (fun _ s => some [(.normal, s)])
    (fun _ _ => none)
    (fun s => some [(.ret, s)])
    (fun _ _ => none)
    c
end
theorem exK_eq {P : Program} {ext : FuncId → Option Ek} {call : CallF} {fl N F : Nat} : ∀ (c : Code) (s : St), exK P ext call fl N F c s = exC P ext call fl N F c s
  | .skip, s => rfl
  | .label _, s => rfl
  | .region id ops draw, s => by
    show regK P ext call fl N ops.toList draw s = _
    cases draw with
    | true =>
      show normK (anyK P ext call fl N ops.toList s) = normO (anyX P ext call fl N ops.toList s)
      rw [normK_eq, anyK_eq]
    | false =>
      show normK (seqK P ext call fl N ops.toList ops.toList s) = normO (seqX P ext call fl N ops.toList ops.toList s)
      rw [normK_eq, seqK_eq]
  | .seq x y, s => by
    have ih : exK P ext call fl N F y = exC P ext call fl N F y := funext (exK_eq y)
    show Option.rec (motive := fun _ => Option (List Ou)) none (fun l => bindEK (thenK (exK P ext call fl N F y)) l) (exK P ext call fl N F x s) = _
    rw [exK_eq x s, ih]
    conv => rhs; unfold exC
    cases h : exC P ext call fl N F x s with
    | none => rfl
    | some l =>
      simp only [bindEK_eq]
      congr 1
      funext o
      exact thenK_eq _ o
  | .cond c x y, s => by
    show condK (opnd s.1.get c) (exK P ext call fl N F x s) (exK P ext call fl N F y s) = _
    rw [exK_eq x s, exK_eq y s]
    rfl
  | .block id b, s => by
    show Option.rec (motive := fun _ => Option (List Ou)) none (fun l => some (blockE id l)) (exK P ext call fl N F b s) = _
    rw [exK_eq b s]
    conv => rhs; unfold exC
    cases h : exC P ext call fl N F b s <;> rfl
  | .loop b, s => by
    have ih : exK P ext call fl N F b = exC P ext call fl N F b := funext (exK_eq b)
    show roundsK (mergeC fl s.2.2 N (wrbC b (0, 0))) (exK P ext call fl N F b) F [s] = _
    rw [ih, roundsK_eq]
    rfl
  | .exit id, s => rfl
  | .ret, s => rfl
  | .rangeFunc .., s => rfl
  | .scope b, s => exK_eq b s
  | .goto _, s => rfl
  | .refuse _, s => rfl
/-- A function's body. -/
def fnK (P : Program) (ext : FuncId → Option Ek) (F fl : Nat) (xs : List XV) (h : Heap) (nx : Nat) (ih : CallF) (fn : Func) : Option Outs :=
  Option.rec (motive := fun _ => Option Outs) none (fun c => Bool.rec (motive := fun _ => Option Outs) none (Option.rec (motive := fun _ => Option Outs) none (fun l => mergeOO nx (outsX P fn.results.toList l)) (exK P ext ih fl fn.ntmps F c (initE fn.ntmps xs (Nat.lor (maskC c) (maskR fn.results.toList)), h, nx))) (Nat.ble xs.length fn.ntmps)) fn.body
def runFK (P : Program) (ext : FuncId → Option Ek) (prim : CallF) (F : Nat) (n : Nat) : CallF :=
  Nat.rec (motive := fun _ => CallF) (fun _ _ _ _ _ => none) (fun _ ih fl f xs h nx => Option.rec (motive := fun _ => Option Outs) (Option.rec (motive := fun _ => Option Outs) none (fun fn => fnK P ext F fl xs h nx ih fn) (P.funcs[f]?)) (fun outs => some outs) (prim fl f xs h nx)) n
theorem runFK_eq (P : Program) (ext : FuncId → Option Ek) (prim : CallF) (F : Nat) : ∀ n, runFK P ext prim F n = runF P ext prim F n
  | 0 => rfl
  | n + 1 => by
    have ih := runFK_eq P ext prim F n
    funext fl f xs h nx
    show Option.rec (motive := fun _ => Option Outs) (Option.rec (motive := fun _ => Option Outs) none (fun fn => fnK P ext F fl xs h nx (runFK P ext prim F n) fn) (P.funcs[f]?)) (fun outs => some outs) (prim fl f xs h nx) = _
    rw [ih]
    conv => rhs; unfold runF
    cases h0 : prim fl f xs h nx with
    | some outs => rfl
    | none =>
      simp only
      cases h1 : P.funcs[f]? with
      | none => rfl
      | some fn =>
        simp only
        unfold fnK
        cases h2 : fn.body with
        | none => rfl
        | some c =>
          simp only [exK_eq]
          cases h3 : Nat.ble xs.length fn.ntmps with
          | false => rfl
          | true =>
            simp only
            cases h4 : exC P ext (runF P ext prim F n) fl fn.ntmps F c (initE fn.ntmps xs (Nat.lor (maskC c) (maskR fn.results.toList)), h, nx) <;> rfl
/-! ### closed runs -/
def isB (b : Bool) : XV → Bool
  | .bool c => beqB c b
  | _ => false
def allB (b : Bool) : Outs → Bool
  | [] => true
  | p :: r => match isB b p.1 with
    | true => allB b r
    | false => false
def saysB (b : Bool) (o : Option Outs) : Bool :=
  match o with
  | some l => allB b l
  | none => false
theorem allB_mem {b : Bool} : ∀ {l : Outs}, allB b l = true → ∀ x h nx, (x, h, nx) ∈ l → x = .bool b
  | [], _, x, h, nx, hm => by simp at hm
  | p :: r, hl, x, h, nx, hm => by
    unfold allB at hl
    split at hl
    · rename_i e
      rcases List.mem_cons.1 hm with rfl | hm
      · have e' : isB b x = true := e
        cases x <;> first | (cases e'; done) | skip
        rename_i c
        have e2 : beqB c b = true := e'
        rw [beqB_ok, beq_iff_eq] at e2
        rw [e2]
      · exact allB_mem hl x h nx hm
    · cases hl
/-- A function of nothing that yields a boolean, whatever the world. -/
theorem closed_bool {P : Program} {ext : FuncId → Option Ek} {prim : CallF} {F n : Nat} {f : FuncId} {b : Bool} (hm : P.follows .mixedOrders = true) (hE : ExtOK P ext) (hno : numFree P = true) (hprim : CallOK P prim) (hx : saysB b (runFK P ext prim F n 0 f [] .nil 0) = true) (w : World) (hw : Tabs.tb w.heap.size w) :
    Callable P f ∧ Calls P f #[] w fun e w' => e = .returned (.bool b) ∧ Below w.heap.size w w' := by
  cases hr : runFK P ext prim F n 0 f [] .nil 0 with
  | none => rw [hr] at hx; cases hx
  | some outs =>
    rw [hr] at hx
    have hx' : allB b outs = true := hx
    rw [runFK_eq] at hr
    have hhr : HR w.heap.size (fun _ => none) .nil 0 w := ⟨(fun _ _ _ e => nomatch e), (fun _ _ e => nomatch e), (fun _ _ _ _ _ _ e => nomatch e), (fun _ _ _ e => nomatch e), hw⟩
    obtain ⟨h1, h2⟩ := runF_ok hm hE hno hprim n hr (β := fun _ => none) (vs := []) hhr (Nat.le_refl _) (Nat.le_refl _) rfl
    refine ⟨h1, Calls.mono h2 ?_⟩
    rintro e w' ⟨x, h', nx', hmem, v, β', rfl, hg, hv⟩
    rw [allB_mem hx' x h' nx' hmem] at hv
    rw [VR] at hv
    subst hv
    exact ⟨rfl, hg.below⟩
end
end Go.Proofs.YtohcohbbmjhnfaaGreatDoor.X
