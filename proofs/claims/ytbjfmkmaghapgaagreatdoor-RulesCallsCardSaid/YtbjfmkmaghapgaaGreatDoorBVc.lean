/-
The logic of pure values, continued: what is to be shown of a function's code. Condition: none.
-/
import Derived.Test.YtbjfmkmaghapgaaGreatDoorBOp
set_option linter.unusedVariables false
set_option linter.unusedSimpArgs false
namespace Go.Proofs.YtbjfmkmaghapgaaGreatDoor.B
open Go.RowKit

def setL : List C → Nat → C → List C
  | [], _, _ => []
  | _ :: cs, 0, c => c :: cs
  | d :: cs, n + 1, c => d :: setL cs n c
def putL : List C → Nat → C → List C
  | [], 0, c => [c]
  | [], _ + 1, _ => []
  | _ :: cs, 0, c => c :: cs
  | d :: cs, n + 1, c => d :: putL cs n c
def putB : List (Nat × List C) → Nat → Nat → C → List (Nat × List C)
  | [], _, _, _ => []
  | (j, cs) :: r, i, o, c => if j = i then (j, putL cs o c) :: r else (j, cs) :: putB r i o c
def St.set (s : St) (κ : Key) (c : C) : St :=
  match κ with
  | .t i => ⟨setL s.tmps i c, s.boxes⟩
  | .b i o => ⟨s.tmps, putB s.boxes i o c⟩
  | .al i => ⟨s.tmps, (i, []) :: s.boxes⟩
def St.sets (s : St) : List (Key × C) → St
  | [] => s
  | (κ, c) :: ws => (s.set κ c).sets ws
def keysOf : List (Key × C) → List Key
  | [] => []
  | (κ, _) :: ws => κ :: keysOf ws
def memK : Key → List Key → Bool
  | _, [] => false
  | κ, κ' :: r => if κ = κ' then true else memK κ r
def memN : Nat → List Nat → Bool
  | _, [] => false
  | κ, κ' :: r => if κ = κ' then true else memN κ r
/-- The write lands. -/
def validW (s : St) (κ : Key) (c : C) : Bool :=
  match κ with
  | .t i => Nat.blt i s.tmps.length
  | .b i o => match getB s.boxes i with
    | some cs => Nat.ble o cs.length
    | none => false
  | .al i => match getB s.boxes i, c with
    | none, ⟨.pv .nil, none, none⟩ => true
    | _, _ => false
def St.valid (s : St) : List (Key × C) → Bool
  | [] => true
  | (κ, c) :: ws => validW s κ c && (s.set κ c).valid ws
def skC : C := ⟨.pv (.tup []), none, none⟩
def skipT (o : Oper) : T :=
  match o.dst with
  | some d' => .ret [(.t d', skC)]
  | none => .ret []
def guardT (want b : Bool) (x y : T) : T :=
  match want with
  | true => .ite b x y
  | false => .ite b y x
/-- The operation, if it is wanted. -/
def gT (P : Program) (τ : Tau) (ops : List Oper) (o : Oper) : T :=
  match o.guard with
  | none => opT P τ o
  | some (j, want) => match ops[j]? with
    | some oj => match oj.dst with
      | some d => .get (.t d) fun c => match c.v with
        | .pv (.lit (.bool b)) => guardT want b (opT P τ o) (skipT o)
        | .pv (.tup []) => skipT o
        | _ => .fail
      | none => .fail
    | none => .fail
def dstOK (N : Nat) (o : Oper) : Bool :=
  match o.dst with
  | some d => Nat.blt d N
  | none => true
abbrev Trace := List (List Key × List Key)
def vcOps (G : World → Prop) (P : Program) (τ : Tau) (N : Nat) (ops : List Oper) : List Oper → St → List Key → Trace → (St → Trace → Prop) → Prop
  | [], s, L, tr, K => K s tr
  | o :: rest, s, L, tr, K => if dstOK N o = true then
      vcT G P (gT P τ ops o) s.get (fun κ => memK κ L) (fun rs ws => if s.valid ws = true then vcOps G P τ N ops rest (s.sets ws) (keysOf ws ++ L) ((rs, keysOf ws) :: tr) K else False) else False
/-! ### in the text's order; the next entry of a map is any that is left -/
def allE : List ME → (ME → Prop) → Prop
  | [], _ => True
  | e :: r, p => p e ∧ allE r p
def allP : List MP → (MP → Prop) → Prop
  | [], _ => True
  | e :: r, p => p e ∧ allP r p
/-- All were seen. -/
structure Ov (seen : List Nat) (bs : Unit → List Nat) : Prop where
  out : ∀ b, b ∈ bs () → b ∈ seen
/-- It was not seen. -/
structure Fr (b : Nat) (seen : List Nat) : Prop where
  out : b ∉ seen
def dW (dst : Option Tmp) (x : FV) : List (Key × C) :=
  match dst with
  | some d => [(.t d, ⟨x, none, none⟩)]
  | none => []
def isNext (o : Oper) : Option (Operand × Bool) :=
  match o.op, o.guard with
  | .next it str, none => some (it, str)
  | _, _ => none
def overV : FV := .pv (.tup [.lit (.bool false)])
def St.val (s : St) : Operand → FV
  | .tmp t => (getL s.tmps t).v
  | .const v => constF v
  | _ => .un
def vcNext (s : St) (it : Operand) (str : Bool) (dst : Option Tmp) (cont : List (Key × C) → Prop) : Prop :=
  match s.val it, str with
  | .it i, false => match (s.get (.b i 0)).v with
    | .iter m clk seen => match (s.get (.b m 0)).v with
      | .ents es clk' => Req (fun _ => clk = clk') ∧ (Ov seen (fun _ => es.map ME.born) → cont (dW dst overV)) ∧
          allE es (fun e => Fr e.born seen → cont ((.b i 0, ⟨.iter m clk (e.born :: seen), none, none⟩) :: dW dst (.pv (.tup [.lit (.bool true), e.key, e.val]))))
      | .entp es clk' => Req (fun _ => clk = clk') ∧ (Ov seen (fun _ => es.map MP.born) → cont (dW dst overV)) ∧
          allP es (fun e => Fr e.born seen → cont ((.b i 0, ⟨.iter m clk (e.born :: seen), none, none⟩) :: dW dst (.tupf [.pv (.lit (.bool true)), .pv e.key, .ptr e.i e.o])))
      | _ => False
    | _ => False
  | .it i, true => match (s.get (.b i 0)).v with
    | .siter t pos => ∀ b, Is b (fun _ => decide (pos < t.size)) → if b = true then (∀ c n, Is (c, n) (fun _ => Utf8.decode t pos) → ∀ r, Is r (fun _ => pos + n) →
        cont ((.b i 0, ⟨.siter t r, none, none⟩) :: dW dst (.pv (.tup [.lit (.bool true), .lit (.int .i64 pos), .lit (.int .i32 c)])))) else cont (dW dst overV)
    | _ => False
  | _, _ => False
/-- A list may be nil if it has no element. -/
structure Nl (b : Bool) (xs : Unit → List (List PV)) : Prop where
  out : b = true → xs () = []
def isNil (o : Oper) : Option (Bool × TypeId × Operand) :=
  match o.op, o.guard with
  | .binOp .eql ty x (.const (.slice none 0 0)) _, none => some (false, ty, x)
  | .binOp .neq ty x (.const (.slice none 0 0)) _, none => some (true, ty, x)
  | _, _ => none
def negB (neg b : Bool) : Bool :=
  match neg with
  | true => !b
  | false => b
def boolV (neg b : Bool) : FV := .pv (.lit (.bool (negB neg b)))
def vcNil (τ : Tau) (s : St) (neg : Bool) (ty : TypeId) (x : Operand) (dst : Option Tmp) (cont : List (Key × C) → Prop) : Prop :=
  match τ ty with
  | some ti => match ti.desc, s.val x with
    | .slice _, .pv (.sl xs) => ∀ b, Nl b (fun _ => xs) → cont (dW dst (boolV neg b))
    | .slice _, .pv .nil => cont (dW dst (boolV neg true))
    | .slice _, .slp _ _ _ _ => cont (dW dst (boolV neg false))
    | _, _ => False
  | none => False
def vcSeq (G : World → Prop) (P : Program) (τ : Tau) (N : Nat) (ops : List Oper) : List Oper → St → List Key → (St → Prop) → Prop
  | [], s, _, K => K s
  | o :: rest, s, L, K => if dstOK N o = true then (match isNext o with
      | some (it, str) => vcNext s it str o.dst (fun ws => if s.valid ws = true then vcSeq G P τ N ops rest (s.sets ws) (keysOf ws ++ L) K else False)
      | none => match isNil o with
        | some (neg, ty, x) => vcNil τ s neg ty x o.dst (fun ws => if s.valid ws = true then vcSeq G P τ N ops rest (s.sets ws) (keysOf ws ++ L) K else False)
        | none => vcT G P (gT P τ ops o) s.get (fun κ => memK κ L) (fun _ ws => if s.valid ws = true then vcSeq G P τ N ops rest (s.sets ws) (keysOf ws ++ L) K else False)) else False
/-! ### may operations be carried out in another order? -/
def union : List Nat → List Nat → List Nat
  | [], b => b
  | x :: a, b => if memN x b = true then union a b else x :: union a b
def directOf (o : Oper) : List Nat := (o.after.toList.filter (Region.binds .any)).map (·.on)
def nthL : List (List Nat) → Nat → List Nat
  | [], _ => []
  | c :: _, 0 => c
  | _ :: cs, n + 1 => nthL cs n
def befFrom (acc : List (List Nat)) : List Nat → List Nat
  | [] => []
  | i :: r => union [i] (union (nthL acc i) (befFrom acc r))
def befs : List (List Nat) → List Oper → List (List Nat)
  | acc, [] => acc
  | acc, o :: r => befs (acc ++ [befFrom acc (directOf o)]) r
def meet : List Key → List Key → Bool
  | [], _ => false
  | κ :: a, b => memK κ b || meet a b
def conflict (x y : List Key × List Key) : Bool := meet x.2 y.1 || meet x.2 y.2 || meet y.2 x.1
def chkRow (bf : List Nat) (y : List Key × List Key) : Nat → Trace → Bool
  | _, [] => true
  | i, x :: r => (!(conflict x y) || memN i bf) && chkRow bf y (i + 1) r
def chkAll (bs : List (List Nat)) (all : Trace) : Nat → Trace → Bool
  | _, [] => true
  | j, y :: r => chkRow (nthL bs j) y 0 (all.take j) && chkAll bs all (j + 1) r
/-- The trace was kept backwards. -/
def backOK : Nat → List Oper → Bool
  | _, [] => true
  | i, o :: r => (directOf o).all (fun j => Nat.blt j i) && backOK (i + 1) r
def orderOK (ops : List Oper) (tr : Trace) : Bool := backOK 0 ops && chkAll (befs [] ops) tr.reverse 0 tr.reverse
def clrL : List C → List C
  | [] => []
  | c :: cs => ⟨c.v, c.own, none⟩ :: clrL cs
def St.clear (s : St) : St := ⟨clrL s.tmps, s.boxes⟩
inductive Ex where
  | normal
  | exit (id : Nat)
  | ret
/-! ### what a loop's head keeps -/
def keepL (ks : List Nat) : Nat → List C → List C
  | _, [] => []
  | i, c :: cs => (if memN i ks = true then c else unC) :: keepL ks (i + 1) cs
def keepB (bs : List Nat) : List (Nat × List C) → List (Nat × List C)
  | [] => []
  | (i, cs) :: r => if memN i bs = true then (i, cs) :: keepB bs r else keepB bs r
def St.keep (s : St) (ks bs : List Nat) : St := ⟨keepL ks 0 s.tmps, keepB bs s.boxes⟩
def cle (c d : C) : Prop :=
  match d.v, d.own, d.frm with
  | .un, none, none => True
  | .pv (.sl xs), ow, none => match c.v with
    | .pv .nil => xs = []
    | v => v = .pv (.sl xs) ∧ (match ow with | none => True | some p => c.own = some p)
  | v, none, none => c.v = v
  | _, _, _ => False
def leL : List C → List C → Prop
  | [], [] => True
  | c :: cs, d :: ds => cle c d ∧ leL cs ds
  | _, _ => False
def leB (s : List (Nat × List C)) : List (Nat × List C) → Prop
  | [] => True
  | (i, ds) :: r => (match getB s i with | some cs => leL cs ds | none => False) ∧ leB s r
def liveAll (bx : List (Nat × List C)) : List Nat → Bool
  | [] => true
  | i :: r => (getB bx i).isSome && liveAll bx r
def ptrL (bx : List (Nat × List C)) : List C → Bool
  | [] => true
  | c :: cs => liveAll bx c.v.refs && ptrL bx cs
def ptrB (bx : List (Nat × List C)) : List (Nat × List C) → Bool
  | [] => true
  | (_, cs) :: r => ptrL bx cs && ptrB bx r
def St.le (s t : St) : Prop := leL s.tmps t.tmps ∧ leB s.boxes t.boxes ∧ (ptrL t.boxes t.tmps && ptrB t.boxes t.boxes) = true
/-- A loop's body, so many times. -/
def vcN (body : St → (Ex → St → Prop) → Prop) (K : Ex → St → Prop) : Nat → St → Prop
  | 0, _ => False
  | n + 1, s => body s (fun x s' => match x with
    | .normal => vcN body K n s'
    | x => K x s')
def vc (G : World → Prop) (P : Program) (τ : Tau) (N : Nat) : Code → St → (Ex → St → Prop) → Prop
  | .skip, s, K => K .normal s
  | .label _, s, K => K .normal s
  | .region id ops draw, s, K => match draw with
    | false => vcSeq G P τ N ops.toList ops.toList s [] (fun s' => K .normal s'.clear)
    | true => vcOps G P τ N ops.toList ops.toList s [] [] (fun s' tr => if orderOK ops.toList tr = true then K .normal s'.clear else False)
  | .seq a b, s, K => vc G P τ N a s (fun x s' => match x with
    | .normal => vc G P τ N b s' K
    | x => K x s')
  | .cond c a b, s, K => match s.val c with
    | .pv (.lit (.bool t)) => if t = true then vc G P τ N a s K else vc G P τ N b s K
    | _ => False
  | .block id b, s, K => vc G P τ N b s (fun x s' => match x with
    | .exit j => if j = id then K .normal s' else K (.exit j) s'
    | x => K x s')
  | .loop b, s, K => (∃ n, vcN (fun s K => vc G P τ N b s K) K n s) ∨ ∃ (ks bs : List Nat) (α : Type) (U : α → List (Key × C)) (I : α → Prop) (μ : α → Nat) (a0 : α), I a0 ∧ s.le ((s.keep ks bs).sets (U a0)) ∧
      ∀ a, I a → vc G P τ N b ((s.keep ks bs).sets (U a)) (fun x s' => match x with
        | .normal => ∃ a', I a' ∧ μ a' < μ a ∧ s'.le ((s.keep ks bs).sets (U a'))
        | x => K x s')
  | .exit id, s, K => K (.exit id) s
  | .ret, s, K => K .ret s
  | _, _, _ => False
/-! ### results -/
def cellsAt (s : St) (i : Nat) : Nat → Nat → Option (List PV)
  | _, 0 => some []
  | o, n + 1 => match (s.get (.b i o)).v, cellsAt s i (o + 1) n with
    | .pv p, some ps => if p.one = true then some (p :: ps) else none
    | _, _ => none
def cellsC (s : St) (i : Nat) : Nat → Nat → List C
  | _, 0 => []
  | o, n + 1 => s.get (.b i o) :: cellsC s i (o + 1) n
/-- What a struct in a variable owns. -/
def resOwn (τ : Tau) (s : St) (i o : Nat) (t : TypeId) (n : Nat) : Own :=
  match collW τ i o t (cellsC s i o n) with
  | some (code, _) => some (code, 0)
  | none => none
def resOne (τ : Tau) (s : St) : ResultVar → Option (PV × Own)
  | .tmp t => match getL s.tmps t with
    | ⟨.pv p, ow, _⟩ => some (p, ow)
    | _ => none
  | .cell q t => match (getL s.tmps q).v, τ t with
    | .ptr i o, some ti => match isAggD ti.desc with
      | true => match cellsAt s i o ti.size with
        | some ps => some (.agg ps, resOwn τ s i o t ti.size)
        | none => none
      | false => match (s.get (.b i o)).v with
        | .pv p => some (p, none)
        | _ => none
    | _, _ => none
def resAll (τ : Tau) (s : St) : List ResultVar → Option (List PV)
  | [] => some []
  | r :: rs => match resOne τ s r, resAll τ s rs with
    | some (p, _), some ps => some (p :: ps)
    | _, _ => none
def resOf (τ : Tau) (s : St) (rs : List ResultVar) : Option (PV × Own) :=
  match rs with
  | [r] => resOne τ s r
  | rs => match resAll τ s rs with
    | some ps => some (.tup ps, none)
    | none => none
def ownLe (p : PV) (ow : Own) (want : Own) : Prop :=
  match want with
  | none => True
  | some w => p = .nil ∨ ow = some w
def post (τ : Tau) (rs : List ResultVar) (res : PV) (own : Own) : Ex → St → Prop
  | .exit _, _ => False
  | _, s => match resOf τ s rs with
    | some (p, ow) => p.norm = res ∧ ownLe p ow own
    | none => False
def St.init (args : List PV) (N : Nat) : St := ⟨args.map (fun p => ⟨.pv p, none, none⟩) ++ List.replicate (N - args.length) unC, []⟩
end Go.Proofs.YtbjfmkmaghapgaaGreatDoor.B
