/-
Closed runs: a statement's operations in whatever order. Condition: none.
-/
import Derived.Test.YtohcohbbmjhnfaaGreatDoorXR
set_option linter.unusedVariables false
set_option linter.unusedSectionVars false
set_option linter.unusedSimpArgs false
set_option linter.unnecessarySimpa false
namespace Go.Proofs.YtohcohbbmjhnfaaGreatDoor.X
open Go Go.RowKit
noncomputable section
variable [Tabs]
/-- The heavy operations among some. -/
def hvIn (anc : List Nat) : List Nat → List Nat
  | [] => []
  | k :: r => match memN k anc with
    | true => k :: hvIn anc r
    | false => hvIn anc r
def allIn (S : List Nat) : List Nat → Bool
  | [] => true
  | k :: r => match memN k S with
    | true => allIn S r
    | false => false
/-- Does the last heavy operation go before it? -/
def newJ (bs : List (List Nat)) (ko : Option Nat) (j : Nat) : Bool :=
  match ko with
  | none => true
  | some k => memN k (nthL bs j)
/-- The heavy operations that may be next. -/
def cands (bs : List (List Nat)) (hv S : List Nat) : List Nat → List Nat
  | [] => []
  | k :: r => match memN k S, allIn S (hvIn (nthL bs k) hv) with
    | false, true => k :: cands bs hv S r
    | _, _ => cands bs hv S r
def tmpsOf : List Operand → List Nat
  | [] => []
  | .tmp t :: r => t :: tmpsOf r
  | _ :: r => tmpsOf r
def looksT (ops : List Oper) (o : Oper) : List Nat :=
  match o.guard with
  | none => tmpsOf o.op.operands.toList
  | some (j, _) => match ops[j]? with
    | some oj => match oj.dst with
      | some d => d :: tmpsOf o.op.operands.toList
      | none => tmpsOf o.op.operands.toList
    | none => tmpsOf o.op.operands.toList
def lksOf (ops : List Oper) : List Oper → List (List Nat)
  | [] => []
  | o :: r => looksT ops o :: lksOf ops r
/-- Is a temporary looked at by an operation that need not come behind the one that writes it? -/
def warA (bs : List (List Nat)) (d k : Nat) : List (List Nat) → Nat → Bool
  | [], _ => false
  | l :: r, j => match memN d l with
    | true => match memN k (nthL bs j) with
      | true => warA bs d k r (Nat.succ j)
      | false => true
    | false => warA bs d k r (Nat.succ j)
def hvOf (bs lks : List (List Nat)) : List Oper → Nat → List Nat
  | [], _ => []
  | o :: r, i => match isHeavy o with
    | true => i :: hvOf bs lks r (Nat.succ i)
    | false => match o.dst with
      | none => hvOf bs lks r (Nat.succ i)
      | some d => match warA bs d i lks 0 with
        | true => i :: hvOf bs lks r (Nat.succ i)
        | false => hvOf bs lks r (Nat.succ i)
/-- The operations that are taken one at a time: heavy ones, and what writes over a temporary that another one looks at before. -/
def hvs (ops : List Oper) : List Nat := hvOf (befs [] ops) (lksOf ops ops) ops 0
def orM (a : Bool) (k : Nat) (hv : List Nat) : Bool := match a with
  | true => true
  | false => memN k hv
def wrOK (hv anc : List Nat) (t : Nat) : List Oper → Nat → Bool
  | [], _ => true
  | o :: r, k => match o.dst with
    | some d => match Nat.beq d t with
      | true => orM (memN k anc) k hv && wrOK hv anc t r (Nat.succ k)
      | false => wrOK hv anc t r (Nat.succ k)
    | none => wrOK hv anc t r (Nat.succ k)
def allW (hv anc : List Nat) (ops : List Oper) : List Nat → Bool
  | [] => true
  | t :: r => wrOK hv anc t ops 0 && allW hv anc ops r
def depOK (hv : List Nat) (bs : List (List Nat)) (ops : List Oper) : List Oper → Nat → Bool
  | [], _ => true
  | o :: r, j => allW hv (nthL bs j) ops (looksT ops o) && depOK hv bs ops r (Nat.succ j)
def noDst (d : Nat) : List Oper → Bool
  | [] => true
  | o :: r => match o.dst with
    | some d' => match Nat.beq d d' with
      | true => false
      | false => noDst d r
    | none => noDst d r
def dstsOK : List Oper → Bool
  | [] => true
  | o :: r => match o.dst with
    | some d => noDst d r && dstsOK r
    | none => dstsOK r
def dstLt (N : Nat) : List Oper → Bool
  | [] => true
  | o :: r => match o.dst with
    | some d => Nat.blt d N && dstLt N r
    | none => dstLt N r
def planOK (N : Nat) (ops : List Oper) : Bool := dstLt N ops && backOK 0 ops && depOK (hvs ops) (befs [] ops) ops ops 0 && dstsOK ops
/-- The light operations of a phase: all heavy ones that must go before have gone, the last one among them. -/
def litesAt (bs : List (List Nat)) (hv S : List Nat) (ko : Option Nat) : List Oper → Nat → List Nat
  | [], _ => []
  | o :: r, j => match memN j hv with
    | true => litesAt bs hv S ko r (Nat.succ j)
    | false => match allIn S (hvIn (nthL bs j) hv), newJ bs ko j with
      | true, true => j :: litesAt bs hv S ko r (Nat.succ j)
      | _, _ => litesAt bs hv S ko r (Nat.succ j)
def anyBef (bs : List (List Nat)) (j : Nat) : List Nat → Bool
  | [] => false
  | k :: r => match memN j (nthL bs k) with
    | true => true
    | false => anyBef bs j r
/-- Those that may not have been carried out yet. -/
def openAt (bs : List (List Nat)) (hv S : List Nat) : List Oper → Nat → List Nat
  | [], _ => []
  | o :: r, j => match memN j hv with
    | true => openAt bs hv S r (Nat.succ j)
    | false => match allIn S (hvIn (nthL bs j) hv), anyBef bs j S with
      | true, false => j :: openAt bs hv S r (Nat.succ j)
      | _, _ => openAt bs hv S r (Nat.succ j)
def blkOf : XV → Option Nat
  | .ptr b _ => some b
  | .sl b _ _ _ _ _ => some b
  | .map b => some b
  | _ => none
def allocK : Op → Bool
  | .alloc .. => true
  | .box .. => true
  | .buildSlice .. => true
  | .makeMap .. => true
  | .makeSlice .. => true
  | _ => false
/-! ### equal states -/
def beqEs : List AE → List AE → Bool
  | [], [] => true
  | x :: xs, y :: ys => match beqX x.key y.key, beqX x.val y.val, Nat.beq x.born y.born with
    | true, true, true => beqEs xs ys
    | _, _, _ => false
  | _, _ => false
theorem beqEs_ok : ∀ {x y : List AE}, beqEs x y = true → x = y
  | [], [], _ => rfl
  | [], _ :: _, h => by cases h
  | _ :: _, [], h => by cases h
  | x :: xs, y :: ys, h => by
    unfold beqEs at h
    split at h
    · rename_i e1 e2 e3
      obtain ⟨a, b, c⟩ := x
      obtain ⟨a', b', c'⟩ := y
      have h1 : a = a' := beqX_ok e1
      have h2 : b = b' := beqX_ok e2
      have h3 : c = c' := beq_t e3
      rw [h1, h2, h3, beqEs_ok h]
    · cases h
def beqON : Option Nat → Option Nat → Bool
  | none, none => true
  | some a, some b => Nat.beq a b
  | _, _ => false
theorem beqON_ok {a b : Option Nat} (h : beqON a b = true) : a = b := by
  unfold beqON at h
  split at h
  · rfl
  · rw [beq_t h]
  · cases h
def beqNs : List Nat → List Nat → Bool
  | [], [] => true
  | a :: l, b :: r => match Nat.beq a b with
    | true => beqNs l r
    | false => false
  | _, _ => false
theorem beqNs_ok : ∀ {x y : List Nat}, beqNs x y = true → x = y
  | [], [], _ => rfl
  | [], _ :: _, h => by cases h
  | _ :: _, [], h => by cases h
  | a :: l, b :: r, h => by
    unfold beqNs at h
    split at h
    · rename_i e; rw [beq_t e, beqNs_ok h]
    · cases h
def beqA : AO → AO → Bool
  | .dead, .dead => true
  | .miter m s hd l c, .miter m' s' hd' l' c' => match beqON m m', Nat.beq s s', beqON hd hd', Nat.beq c c' with
    | true, true, true, true => beqNs l l'
    | _, _, _, _ => false
  | .siter l n p, .siter l' n' p' => match Nat.beq l l', Nat.beq n n' with
    | true, true => Nat.beq p p'
    | _, _ => false
  | .umap es c, .umap es' c' => match Nat.beq c c' with
    | true => beqEs es es'
    | false => false
  | .lmap es c, .lmap es' c' => match Nat.beq c c' with
    | true => beqEs es es'
    | false => false
  | .uiter m s hd l c, .uiter m' s' hd' l' c' => match Nat.beq m m', Nat.beq s s', beqON hd hd', Nat.beq c c' with
    | true, true, true, true => beqNs l l'
    | _, _, _, _ => false
  | .map es c, .map es' c' => match Nat.beq c c' with
    | true => beqEs es es'
    | false => false
  | x, y => beqO x y
theorem beqA_ok {x y : AO} (h : beqA x y = true) : x = y := by
  unfold beqA at h
  split at h
  · rfl
  · split at h
    · rename_i e1 e2 e3 e4; rw [beqON_ok e1, beq_t e2, beqON_ok e3, beq_t e4, beqNs_ok h]
    · cases h
  · split at h
    · rename_i e1 e2; rw [beq_t e1, beq_t e2, beq_t h]
    · cases h
  · split at h
    · rename_i e; rw [beq_t e, beqEs_ok h]
    · cases h
  · split at h
    · rename_i e; rw [beq_t e, beqEs_ok h]
    · cases h
  · split at h
    · rename_i e1 e2 e3 e4; rw [beq_t e1, beq_t e2, beqON_ok e3, beq_t e4, beqNs_ok h]
    · cases h
  · split at h
    · rename_i e; rw [beq_t e, beqEs_ok h]
    · cases h
  · exact beqO_ok h
def beqH : Heap → Heap → Bool
  | .nil, .nil => true
  | .node x l r, .node y a b => match beqA x y, beqH l a with
    | true, true => beqH r b
    | _, _ => false
  | _, _ => false
theorem beqH_ok : ∀ {x y : Heap}, beqH x y = true → x = y
  | .nil, .nil, _ => rfl
  | .nil, .node .., h => by cases h
  | .node .., .nil, h => by cases h
  | .node x l r, .node y a b, h => by
    rw [beqH] at h; split at h
    · rename_i e1 e2; rw [beqA_ok e1, beqH_ok e2, beqH_ok h]
    · cases h
def beqL : List (Nat × XV) → List (Nat × XV) → Bool
  | [], [] => true
  | x :: xs, y :: ys => match Nat.beq x.1 y.1, beqX x.2 y.2 with
    | true, true => beqL xs ys
    | _, _ => false
  | _, _ => false
theorem beqL_ok : ∀ {x y : List (Nat × XV)}, beqL x y = true → x = y
  | [], [], _ => rfl
  | [], _ :: _, h => by cases h
  | _ :: _, [], h => by cases h
  | x :: xs, y :: ys, h => by
    unfold beqL at h
    split at h
    · rename_i e1 e2
      obtain ⟨a, b⟩ := x
      obtain ⟨a', b'⟩ := y
      have h1 : a = a' := beq_t e1
      have h2 : b = b' := beqX_ok e2
      rw [h1, h2, beqL_ok h]
    · cases h
def beqSt (s t : St) : Bool :=
  match Nat.beq s.2.2 t.2.2, Nat.beq s.1.m t.1.m, Nat.beq s.1.w t.1.w, beqL s.1.l t.1.l, beqT s.1.t t.1.t with
  | true, true, true, true, true => beqH s.2.1 t.2.1
  | _, _, _, _, _ => false
theorem beqSt_ok {s t : St} (h : beqSt s t = true) : s = t := by
  obtain ⟨⟨a, b, c, z⟩, d, e⟩ := s
  obtain ⟨⟨a', b', c', z'⟩, d', e'⟩ := t
  unfold beqSt at h
  split at h
  · rename_i e1 e2 e0 e3 e4
    have h0 : z = z' := beq_t e0
    have h1 : e = e' := beq_t e1
    have h2 : c = c' := beq_t e2
    have h3 : a = a' := beqL_ok e3
    have h4 : b = b' := beqT_ok e4
    have h5 : d = d' := beqH_ok h
    rw [h0, h1, h2, h3, h4, h5]
  · cases h
def memS (s : St) : List St → Bool
  | [] => false
  | t :: r => match beqSt s t with
    | true => true
    | false => memS s r
theorem memS_ok {s : St} : ∀ {l : List St}, memS s l = true → s ∈ l
  | [], h => by cases h
  | t :: r, h => by
    unfold memS at h
    split at h
    · rename_i e; rw [beqSt_ok e]; exact List.mem_cons_self ..
    · exact List.mem_cons_of_mem _ (memS_ok h)
/-- Two lists, in one. -/
def mergeS (a : List St) : List St → List St
  | [] => a
  | s :: r => match memS s a with
    | true => mergeS a r
    | false => s :: mergeS a r
theorem mergeS_mem {a : List St} {x : St} : ∀ {b : List St}, x ∈ a ∨ x ∈ b → x ∈ mergeS a b
  | [], h => h.elim id (fun h => by simp at h)
  | s :: r, h => by
    unfold mergeS
    split
    · rename_i e
      rcases h with h | h
      · exact mergeS_mem (.inl h)
      · rcases List.mem_cons.1 h with rfl | h
        · exact mergeS_mem (.inl (memS_ok e))
        · exact mergeS_mem (.inr h)
    · rcases h with h | h
      · exact List.mem_cons_of_mem _ (mergeS_mem (.inl h))
      · rcases List.mem_cons.1 h with rfl | h
        · exact List.mem_cons_self ..
        · exact List.mem_cons_of_mem _ (mergeS_mem (.inr h))
section
variable (P : Program) (ext : FuncId → Option Ek) (call : CallF) (fl N : Nat) (ops : List Oper) (bs : List (List Nat)) (hv : List Nat)
def runL : List Nat → St → Option St
  | [], s => some s
  | j :: r, s => match ops[j]? with
    | none => none
    | some o => match wantX ops s.1.get o with
      | none => none
      | some false => match setD s.1 o.dst N (.tup []) with
        | some E' => runL r (E', s.2.1, s.2.2)
        | none => none
      | some true => match liteX P s.1.get s.2.1 s.2.2 o with
        | some (x, none) => match setD s.1 o.dst N x with
          | some E' => runL r (E', s.2.1, s.2.2)
          | none => none
        | some (x, some ob) => match setD s.1 o.dst N x with
          | some E' => runL r (E', s.2.1.set s.2.2 ob, Nat.succ s.2.2)
          | none => none
        | none => none
/-- The operation yields what it yielded; the blocks that were made, in 'ids', are as they were made. -/
def chk1 (nx0 lo : Nat) (ko : Option Nat) (s : St) (j : Nat) (ids : List Nat) : Option (List Nat) :=
  match ops[j]? with
  | none => none
  | some o => match wantX ops s.1.get o with
    | none => none
    | some false => match o.dst with
      | none => some ids
      | some d => match s.1.get d with
        | some (.tup []) => some ids
        | _ => none
    | some true => match allocK o.op with
      | false => match liteX P s.1.get s.2.1 0 o with
        | some (x, none) => match o.dst with
          | none => some ids
          | some d => match s.1.get d with
            | some y => match beqX x y with
              | true => some ids
              | false => none
            | none => none
        | _ => none
      | true => match o.dst with
        | none => none
        | some d => match s.1.get d with
          | none => none
          | some y => match blkOf y with
            | none => none
            | some b => match liteX P s.1.get s.2.1 b o, s.2.1.get b with
              | some (x, some ob), some ob' => match beqX x y, beqO ob ob', Nat.blt b s.2.2, Nat.ble (match newJ bs ko j with | true => lo | false => nx0) b, memN b ids with
                | true, true, true, true, false => some (b :: ids)
                | _, _, _, _, _ => none
              | _, _ => none
def chkL (nx0 lo : Nat) (ko : Option Nat) (s : St) : List Nat → List Nat → Bool
  | [], _ => true
  | j :: r, ids => match chk1 P ops bs nx0 lo ko s j ids with
    | some ids' => chkL nx0 lo ko s r ids'
    | none => false
def phaseX (nx0 : Nat) (S : List Nat) (ko : Option Nat) (s : St) : Option St :=
  match runL P N ops (litesAt bs hv S ko ops 0) s with
  | some s' => match Nat.ble nx0 s.2.2, chkL P ops bs nx0 s.2.2 ko s' (openAt bs hv S ops 0) [] with
    | true, true => some s'
    | _, _ => none
  | none => none
end
/-! ### the heavy operations, in whatever order: all at once, what is alike in one -/
abbrev Nd := List Nat × St
def mapOp (o : Oper) : Option Operand := match o.op with
  | .insert _ m _ _ => some m
  | .mapUpdate _ m _ _ => some m
  | _ => none
def looseS (fl : Nat) (o : Oper) (s : St) : St := match mapOp o with
  | some m => match opnd s.1.get m with
    | some x => (s.1, looseH fl s.2.1 x, s.2.2)
    | none => s
  | none => s
def looseIf (multi : Bool) (fl : Nat) (o : Oper) (s : St) : St := match multi with
  | true => looseS fl o s
  | false => s
theorem looseIf_ok (multi : Bool) (fl : Nat) (o : Oper) (s : St) : (looseIf multi fl o s).1 = s.1 ∧ (looseIf multi fl o s).2.2 = s.2.2 ∧ Drops fl s.2.1 (looseIf multi fl o s).2.1 := by
  cases multi with
  | false => exact ⟨rfl, rfl, Drops.refl _ _⟩
  | true =>
    show (looseS fl o s).1 = s.1 ∧ (looseS fl o s).2.2 = s.2.2 ∧ Drops fl s.2.1 (looseS fl o s).2.1
    unfold looseS
    split
    · split
      · exact ⟨rfl, rfl, looseH_ok⟩
      · exact ⟨rfl, rfl, Drops.refl _ _⟩
    · exact ⟨rfl, rfl, Drops.refl _ _⟩
def memNd (p : Nd) : List Nd → Bool
  | [] => false
  | q :: r => match beqNs p.1 q.1 with
    | true => match beqSt p.2 q.2 with
      | true => true
      | false => memNd p r
    | false => memNd p r
theorem memNd_ok {p : Nd} : ∀ {l : List Nd}, memNd p l = true → p ∈ l
  | [], h => by cases h
  | q :: r, h => by
    unfold memNd at h
    split at h
    · rename_i e1
      split at h
      · rename_i e2
        obtain ⟨a, b⟩ := p
        obtain ⟨a', b'⟩ := q
        have e1 : a = a' := beqNs_ok e1
        have e2 : b = b' := beqSt_ok e2
        rw [e1, e2]
        exact List.mem_cons_self ..
      · exact List.mem_cons_of_mem _ (memNd_ok h)
    · exact List.mem_cons_of_mem _ (memNd_ok h)
def addNd (p : Nd) (b : List Nd) : List Nd := match memNd p b with
  | true => b
  | false => p :: b
def addNds : List Nd → List Nd → List Nd
  | [], b => b
  | p :: a, b => addNd p (addNds a b)
theorem addNds_mem {x : Nd} {b : List Nd} : ∀ {a : List Nd}, x ∈ a ∨ x ∈ b → x ∈ addNds a b
  | [], h => h.elim (fun h => by simp at h) id
  | p :: a, h => by
    have key : x = p ∨ x ∈ addNds a b := by
      rcases h with h | h
      · rcases List.mem_cons.1 h with h | h
        · exact .inl h
        · exact .inr (addNds_mem (.inl h))
      · exact .inr (addNds_mem (.inr h))
    show x ∈ addNd p (addNds a b)
    unfold addNd
    split
    · rename_i q
      rcases key with rfl | h
      · exact memNd_ok q
      · exact h
    · rcases key with rfl | h
      · exact List.mem_cons_self ..
      · exact List.mem_cons_of_mem _ h
section
variable (step : Oper → St → Option (List St)) (ph : List Nat → Option Nat → St → Option St) (fl : Nat) (ops : List Oper) (bs : List (List Nat)) (hv : List Nat)
def endS (S : List Nat) (k : Nat) (multi : Bool) (o : Oper) : List St → Option (List Nd)
  | [] => some []
  | s :: r => match ph (insN k S) (some k) (looseIf multi fl o s), endS S k multi o r with
    | some s', some l => some ((insN k S, s') :: l)
    | _, _ => none
def succ1 (multi : Bool) (S : List Nat) (s : St) (k : Nat) : Option (List Nd) := match ops[k]? with
  | none => none
  | some o => match step o s with
    | none => none
    | some l => endS ph fl S k multi o l
def succs (S : List Nat) (s : St) : List Nat → Option (List Nd)
  | [] => some []
  | k :: r => match succ1 step ph fl ops true S s k, succs S s r with
    | some a, some b => some (addNds a b)
    | _, _ => none
def layerX : List Nd → Option (List Nd × List St)
  | [] => some ([], [])
  | p :: r => match layerX r with
    | none => none
    | some (nx, dn) => match cands bs hv p.1 hv with
      | [] => some (nx, p.2 :: dn)
      | [k] => match succ1 step ph fl ops false p.1 p.2 k with
        | some a => some (addNds a nx, dn)
        | none => none
      | c :: d :: cs => match succs step ph fl ops p.1 p.2 (c :: d :: cs) with
        | some a => some (addNds a nx, dn)
        | none => none
def allEnd : List Nd → Bool
  | [] => true
  | p :: r => match cands bs hv p.1 hv with
    | [] => allEnd r
    | _ => false
def contG : Nat → List Nd → Option (List St)
  | 0, l => match allEnd bs hv l with
    | true => some (l.map (·.2))
    | false => none
  | n + 1, l => match layerX step ph fl ops bs hv l with
    | none => none
    | some (nx, dn) => match nx with
      | [] => some dn
      | p :: r => match contG n (p :: r) with
        | some a => some (mergeS dn a)
        | none => none
end
section
variable {step : Oper → St → Option (List St)} {ph : List Nat → Option Nat → St → Option St} {fl : Nat} {ops : List Oper} {bs : List (List Nat)} {hv : List Nat}
theorem endS_ok {S : List Nat} {k : Nat} {multi : Bool} {o : Oper} : ∀ {l : List St} {r : List Nd}, endS ph fl S k multi o l = some r → ∀ s, s ∈ l → ∃ s', ph (insN k S) (some k) (looseIf multi fl o s) = some s' ∧ (insN k S, s') ∈ r
  | [], r, _, s, hs => by simp at hs
  | x :: l, r, h, s, hs => by
    unfold endS at h
    split at h
    · rename_i s' l' h1 h2
      cases h
      rcases List.mem_cons.1 hs with rfl | hs
      · exact ⟨s', h1, List.mem_cons_self ..⟩
      · obtain ⟨s2, k1, k2⟩ := endS_ok h2 s hs
        exact ⟨s2, k1, List.mem_cons_of_mem _ k2⟩
    · cases h
/-- A heavy operation is taken. -/
structure Took (step : Oper → St → Option (List St)) (ph : List Nat → Option Nat → St → Option St) (fl : Nat) (ops : List Oper) (S : List Nat) (s : St) (k : Nat) (l : List Nd) : Prop where
  out : ∃ o outs multi, ops[k]? = some o ∧ step o s = some outs ∧ ∀ s1, s1 ∈ outs → ∃ s2, ph (insN k S) (some k) (looseIf multi fl o s1) = some s2 ∧ (insN k S, s2) ∈ l
theorem Took.mono {S : List Nat} {s : St} {k : Nat} {l l' : List Nd} (h : Took step ph fl ops S s k l) (hl : ∀ x, x ∈ l → x ∈ l') : Took step ph fl ops S s k l' := by
  obtain ⟨o, outs, multi, h1, h2, h3⟩ := h.out
  exact ⟨o, outs, multi, h1, h2, fun s1 hs => let ⟨s2, a, b⟩ := h3 s1 hs; ⟨s2, a, hl _ b⟩⟩
theorem succ1_ok {multi : Bool} {S : List Nat} {s : St} {k : Nat} {l : List Nd} (h : succ1 step ph fl ops multi S s k = some l) : Took step ph fl ops S s k l := by
  unfold succ1 at h
  split at h
  · cases h
  · rename_i o ho
    split at h
    · cases h
    · rename_i outs hs
      exact ⟨o, outs, multi, ho, hs, endS_ok h⟩
theorem succs_ok {S : List Nat} {s : St} : ∀ {ks : List Nat} {l : List Nd}, succs step ph fl ops S s ks = some l → ∀ k, k ∈ ks → Took step ph fl ops S s k l
  | [], l, _, k, hk => by simp at hk
  | x :: ks, l, h, k, hk => by
    unfold succs at h
    split at h
    · rename_i a b h1 h2
      cases h
      rcases List.mem_cons.1 hk with rfl | hk
      · exact (succ1_ok h1).mono (fun x hx => addNds_mem (.inl hx))
      · exact (succs_ok h2 k hk).mono (fun x hx => addNds_mem (.inr hx))
    · cases h
theorem layerX_ok {S : List Nat} {s : St} : ∀ {l nx : List Nd} {dn : List St}, layerX step ph fl ops bs hv l = some (nx, dn) → (S, s) ∈ l → (cands bs hv S hv = [] → s ∈ dn) ∧ ∀ k, k ∈ cands bs hv S hv → Took step ph fl ops S s k nx
  | [], nx, dn, _, h => by simp at h
  | p :: r, nx, dn, h, hm => by
    unfold layerX at h
    split at h
    · cases h
    · rename_i nx0 dn0 h0
      have old : (S, s) ∈ r → (∀ x, x ∈ dn0 → x ∈ dn) → (∀ x, x ∈ nx0 → x ∈ nx) → (cands bs hv S hv = [] → s ∈ dn) ∧ ∀ k, k ∈ cands bs hv S hv → Took step ph fl ops S s k nx := fun hr h1 h2 => by
        obtain ⟨k1, k2⟩ := layerX_ok h0 hr
        exact ⟨fun q => h1 _ (k1 q), fun k hk => (k2 k hk).mono h2⟩
      split at h
      · rename_i hc
        cases h
        rcases List.mem_cons.1 hm with rfl | hm
        · have hc : cands bs hv S hv = [] := hc
          exact ⟨fun _ => List.mem_cons_self .., fun k hk => by rw [hc] at hk; simp at hk⟩
        · exact old hm (fun x hx => List.mem_cons_of_mem _ hx) (fun x hx => hx)
      · rename_i k0 hc
        split at h
        · rename_i a ha
          cases h
          rcases List.mem_cons.1 hm with rfl | hm
          · have hc : cands bs hv S hv = [k0] := hc
            refine ⟨fun q => (by rw [hc] at q; cases q), fun k hk => ?_⟩
            rw [hc] at hk
            rw [List.mem_singleton.1 hk]
            exact (succ1_ok ha).mono (fun x hx => addNds_mem (.inl hx))
          · exact old hm (fun x hx => hx) (fun x hx => addNds_mem (.inr hx))
        · cases h
      · rename_i c d cs hc
        split at h
        · rename_i a ha
          cases h
          rcases List.mem_cons.1 hm with rfl | hm
          · have hc : cands bs hv S hv = c :: d :: cs := hc
            refine ⟨fun q => (by rw [hc] at q; cases q), fun k hk => ?_⟩
            rw [hc] at hk
            exact (succs_ok ha k hk).mono (fun x hx => addNds_mem (.inl hx))
          · exact old hm (fun x hx => hx) (fun x hx => addNds_mem (.inr hx))
        · cases h
theorem allEnd_ok {S : List Nat} {s : St} : ∀ {l : List Nd}, allEnd bs hv l = true → (S, s) ∈ l → cands bs hv S hv = []
  | [], _, h => by simp at h
  | p :: r, h, hm => by
    unfold allEnd at h
    split at h
    · rename_i hc
      rcases List.mem_cons.1 hm with rfl | hm
      · exact hc
      · exact allEnd_ok h hm
    · cases h
theorem contG_end {S : List Nat} {s : St} {n : Nat} {l : List Nd} {os : List St} (h : contG step ph fl ops bs hv n l = some os) (hm : (S, s) ∈ l) (hc : cands bs hv S hv = []) : s ∈ os := by
  cases n with
  | zero =>
    unfold contG at h
    split at h
    · cases h
      exact List.mem_map.2 ⟨_, hm, rfl⟩
    · cases h
  | succ n =>
    unfold contG at h
    split at h
    · cases h
    · rename_i nx dn h1
      have := (layerX_ok h1 hm).1 hc
      split at h
      · cases h; exact this
      · split at h
        · cases h; exact mergeS_mem (.inl this)
        · cases h
theorem contG_step {S : List Nat} {s : St} {n : Nat} {l : List Nd} {os : List St} {k : Nat} (h : contG step ph fl ops bs hv n l = some os) (hm : (S, s) ∈ l) (hk : k ∈ cands bs hv S hv) : ∃ nx, Took step ph fl ops S s k nx ∧ ((∀ p, p ∉ nx) ∨ ∃ n' os', contG step ph fl ops bs hv n' nx = some os' ∧ ∀ x, x ∈ os' → x ∈ os) := by
  cases n with
  | zero =>
    unfold contG at h
    split at h
    · rename_i q
      rw [allEnd_ok q hm] at hk
      simp at hk
    · cases h
  | succ n =>
    unfold contG at h
    split at h
    · cases h
    · rename_i nx dn h1
      refine ⟨nx, (layerX_ok h1 hm).2 k hk, ?_⟩
      split at h
      · exact .inl (fun p hp => by simp at hp)
      · split at h
        · rename_i a ha
          cases h
          exact .inr ⟨n, a, ha, fun x hx => mergeS_mem (.inr hx)⟩
        · cases h
end
def anyX (P : Program) (ext : FuncId → Option Ek) (call : CallF) (fl N : Nat) (ops : List Oper) (s : St) : Option (List St) :=
  match planOK N ops with
  | false => none
  | true => match phaseX P N ops (befs [] ops) (hvs ops) s.2.2 [] none s with
    | some s' => contG (stepX P ext call fl N ops) (phaseX P N ops (befs [] ops) (hvs ops) s.2.2) fl ops (befs [] ops) (hvs ops) (hvs ops).length [([], s')]
    | none => none
/-! ### what the plan says -/
theorem hvOf_lt {bs lks : List (List Nat)} : ∀ {l : List Oper} {n j : Nat}, j ∈ hvOf bs lks l n → ∃ i o, j = n + i ∧ l[i]? = some o
  | [], n, j, h => by simp [hvOf] at h
  | o :: r, n, j, h => by
    have rec' : j ∈ hvOf bs lks r (n + 1) → ∃ i o', j = n + i ∧ (o :: r)[i]? = some o' := fun h => by
      obtain ⟨i, o', h1, h2⟩ := hvOf_lt h
      exact ⟨i + 1, o', by omega, by simpa using h2⟩
    have head : j ∈ n :: hvOf bs lks r (n + 1) → ∃ i o', j = n + i ∧ (o :: r)[i]? = some o' := fun h => by
      rcases List.mem_cons.1 h with rfl | h
      · exact ⟨0, o, rfl, rfl⟩
      · exact rec' h
    unfold hvOf at h
    split at h
    · exact head h
    · split at h
      · exact rec' h
      · split at h
        · exact head h
        · exact rec' h
theorem hvOf_heavy {bs lks : List (List Nat)} : ∀ {l : List Oper} {n i : Nat} {o : Oper}, l[i]? = some o → isHeavy o = true → n + i ∈ hvOf bs lks l n
  | [], n, i, o, h, _ => by simp at h
  | x :: r, n, i, o, h, hh => by
    unfold hvOf
    cases i with
    | zero =>
      simp at h
      subst h
      rw [hh]
      exact List.mem_cons_self ..
    | succ i =>
      have ih := hvOf_heavy (bs := bs) (lks := lks) (n := n + 1) (i := i) (by simpa using h) hh
      rw [show n + 1 + i = n + (i + 1) by omega] at ih
      split
      · exact List.mem_cons_of_mem _ ih
      · split
        · exact ih
        · split
          · exact List.mem_cons_of_mem _ ih
          · exact ih
theorem hvs_lt {ops : List Oper} {j : Nat} (h : j ∈ hvs ops) : ∃ o, ops[j]? = some o := by
  obtain ⟨i, o, h1, h2⟩ := hvOf_lt h
  rw [Nat.zero_add] at h1
  subst h1
  exact ⟨o, h2⟩
theorem hvs_heavy {ops : List Oper} {j : Nat} {o : Oper} (h : ops[j]? = some o) (hh : isHeavy o = true) : j ∈ hvs ops := by
  have := hvOf_heavy (bs := befs [] ops) (lks := lksOf ops ops) (n := 0) h hh
  rwa [Nat.zero_add] at this
theorem hvs_light {ops : List Oper} {j : Nat} {o : Oper} (h : ops[j]? = some o) (hj : j ∉ hvs ops) : isHeavy o = false := by
  cases q : isHeavy o with
  | false => rfl
  | true => exact absurd (hvs_heavy h q) hj
theorem hvIn_spec {anc : List Nat} {j : Nat} : ∀ {hv : List Nat}, j ∈ hvIn anc hv ↔ j ∈ hv ∧ j ∈ anc
  | [] => by simp [hvIn]
  | x :: r => by
    have ih := @hvIn_spec anc j r
    unfold hvIn
    split
    · rename_i e
      rw [List.mem_cons, ih, List.mem_cons]
      constructor
      · rintro (rfl | h)
        · exact ⟨.inl rfl, memN_iff.1 e⟩
        · exact ⟨.inr h.1, h.2⟩
      · rintro ⟨rfl | h, h2⟩
        · exact .inl rfl
        · exact .inr ⟨h, h2⟩
    · rename_i e
      rw [ih, List.mem_cons]
      constructor
      · exact fun h => ⟨.inr h.1, h.2⟩
      · rintro ⟨rfl | h, h2⟩
        · rw [memN_iff.2 h2] at e; cases e
        · exact ⟨h, h2⟩
theorem allIn_spec {S : List Nat} : ∀ {l : List Nat}, allIn S l = true ↔ ∀ x, x ∈ l → x ∈ S
  | [] => by simp [allIn]
  | x :: r => by
    have ih := @allIn_spec S r
    unfold allIn
    split
    · rename_i e
      rw [ih]
      constructor
      · intro h y hy
        rcases List.mem_cons.1 hy with rfl | hy
        · exact memN_iff.1 e
        · exact h y hy
      · exact fun h y hy => h y (List.mem_cons_of_mem _ hy)
    · rename_i e
      constructor
      · intro h; cases h
      · intro h
        rw [memN_iff.2 (h x (List.mem_cons_self ..))] at e; cases e
theorem cands_spec {bs : List (List Nat)} {hv S : List Nat} {k : Nat} : ∀ {l : List Nat}, k ∈ cands bs hv S l ↔ k ∈ l ∧ k ∉ S ∧ ∀ x, x ∈ hv → x ∈ nthL bs k → x ∈ S
  | [] => by simp [cands]
  | x :: r => by
    have ih := @cands_spec bs hv S k r
    have hall : ∀ y, allIn S (hvIn (nthL bs y) hv) = true ↔ ∀ x, x ∈ hv → x ∈ nthL bs y → x ∈ S := fun y => by
      rw [allIn_spec]
      exact ⟨fun h x h1 h2 => h x (hvIn_spec.2 ⟨h1, h2⟩), fun h x hx => h x (hvIn_spec.1 hx).1 (hvIn_spec.1 hx).2⟩
    unfold cands
    split
    · rename_i e1 e2
      have e1 : x ∉ S := fun q => by rw [memN_iff.2 q] at e1; cases e1
      rw [List.mem_cons, ih, List.mem_cons]
      constructor
      · rintro (rfl | h)
        · exact ⟨.inl rfl, e1, (hall k).1 e2⟩
        · exact ⟨.inr h.1, h.2⟩
      · rintro ⟨rfl | h, h2⟩
        · exact .inl rfl
        · exact .inr ⟨h, h2⟩
    · rename_i hne
      rw [ih, List.mem_cons]
      constructor
      · exact fun h => ⟨.inr h.1, h.2⟩
      · rintro ⟨rfl | h, h2⟩
        · exfalso
          have e1 : memN k S = false := by
            cases q : memN k S with
            | false => rfl
            | true => exact absurd (memN_iff.1 q) h2.1
          exact hne e1 ((hall k).2 h2.2)
        · exact ⟨h, h2⟩
theorem wrOK_spec {hv anc : List Nat} {t : Nat} : ∀ {l : List Oper} {n i : Nat} {o : Oper}, wrOK hv anc t l n = true → l[i]? = some o → o.dst = some t → n + i ∈ anc ∨ n + i ∈ hv
  | [], n, i, o, _, h, _ => by simp at h
  | x :: r, n, i, o, hw, h, hd => by
    unfold wrOK at hw
    cases i with
    | zero =>
      simp at h
      subst h
      rw [hd] at hw
      simp only at hw
      have : Nat.beq t t = true := Nat.beq_refl t
      rw [this] at hw
      simp only [Bool.and_eq_true] at hw
      have h1 := hw.1
      unfold orM at h1
      split at h1
      · rename_i q; exact .inl (memN_iff.1 q)
      · exact .inr (memN_iff.1 h1)
    | succ i =>
      have : wrOK hv anc t r (n + 1) = true := by
        split at hw
        · split at hw
          · rw [Bool.and_eq_true] at hw; exact hw.2
          · exact hw
        · exact hw
      have := wrOK_spec this (by simpa using h) hd
      rwa [show n + 1 + i = n + (i + 1) by omega] at this
theorem allW_spec {hv anc : List Nat} {ops : List Oper} : ∀ {l : List Nat} {t : Nat}, allW hv anc ops l = true → t ∈ l → wrOK hv anc t ops 0 = true
  | [], t, _, h => by simp at h
  | x :: r, t, hw, h => by
    unfold allW at hw
    rw [Bool.and_eq_true] at hw
    rcases List.mem_cons.1 h with rfl | h
    · exact hw.1
    · exact allW_spec hw.2 h
theorem depOK_spec {hv : List Nat} {bs : List (List Nat)} {ops : List Oper} : ∀ {l : List Oper} {n i : Nat} {o : Oper}, depOK hv bs ops l n = true → l[i]? = some o → allW hv (nthL bs (n + i)) ops (looksT ops o) = true
  | [], n, i, o, _, h => by simp at h
  | x :: r, n, i, o, hw, h => by
    unfold depOK at hw
    rw [Bool.and_eq_true] at hw
    cases i with
    | zero => simp at h; subst h; exact hw.1
    | succ i =>
      have := depOK_spec hw.2 (i := i) (by simpa using h)
      rwa [show Nat.succ n + i = n + (i + 1) by omega] at this
theorem noDst_spec {d : Nat} : ∀ {l : List Oper} {i : Nat} {o : Oper}, noDst d l = true → l[i]? = some o → o.dst ≠ some d
  | [], i, o, _, h => by simp at h
  | x :: r, i, o, hw, h => by
    unfold noDst at hw
    cases i with
    | zero =>
      simp at h
      subst h
      intro e
      rw [e] at hw
      simp only at hw
      rw [Nat.beq_refl d] at hw
      cases hw
    | succ i =>
      have : noDst d r = true := by
        split at hw
        · split at hw
          · cases hw
          · exact hw
        · exact hw
      exact noDst_spec this (by simpa using h)
theorem dsts_spec : ∀ {l : List Oper} {i j : Nat} {o o' : Oper} {d : Nat}, dstsOK l = true → l[i]? = some o → l[j]? = some o' → o.dst = some d → o'.dst = some d → i = j
  | [], i, j, o, o', d, _, h, _, _, _ => by simp at h
  | x :: r, i, j, o, o', d, hw, h1, h2, d1, d2 => by
    unfold dstsOK at hw
    have hr : dstsOK r = true := by
      split at hw
      · rw [Bool.and_eq_true] at hw; exact hw.2
      · exact hw
    cases i with
    | zero =>
      simp at h1
      subst h1
      rw [d1] at hw
      simp only [Bool.and_eq_true] at hw
      cases j with
      | zero => rfl
      | succ j => exact absurd d2 (noDst_spec hw.1 (by simpa using h2))
    | succ i =>
      cases j with
      | zero =>
        simp at h2
        subst h2
        rw [d2] at hw
        simp only [Bool.and_eq_true] at hw
        exact absurd d1 (noDst_spec hw.1 (by simpa using h1))
      | succ j =>
        have := dsts_spec hr (i := i) (j := j) (by simpa using h1) (by simpa using h2) d1 d2
        omega
theorem litesAt_spec {bs : List (List Nat)} {hv S : List Nat} {ko : Option Nat} : ∀ {l : List Oper} {n j : Nat}, j ∈ litesAt bs hv S ko l n → ∃ i o, j = n + i ∧ l[i]? = some o ∧ j ∉ hv ∧ newJ bs ko j = true
  | [], n, j, h => by simp [litesAt] at h
  | o :: r, n, j, h => by
    unfold litesAt at h
    have rec' : j ∈ litesAt bs hv S ko r (n + 1) → ∃ i o', j = n + i ∧ (o :: r)[i]? = some o' ∧ j ∉ hv ∧ newJ bs ko j = true := fun h => by
      obtain ⟨i, o', h1, h2, h3⟩ := litesAt_spec h
      exact ⟨i + 1, o', by omega, by simpa using h2, h3⟩
    split at h
    · exact rec' h
    · rename_i e
      split at h
      · rename_i e2 e3
        rcases List.mem_cons.1 h with rfl | h
        · exact ⟨0, o, rfl, rfl, (fun q => by rw [memN_iff.2 q] at e; cases e), e3⟩
        · exact rec' h
      · exact rec' h
theorem anyBef_spec {bs : List (List Nat)} {j : Nat} : ∀ {S : List Nat}, anyBef bs j S = true ↔ ∃ x, x ∈ S ∧ j ∈ nthL bs x
  | [] => by simp [anyBef]
  | x :: r => by
    have ih := @anyBef_spec bs j r
    unfold anyBef
    split
    · rename_i e
      exact ⟨fun _ => ⟨x, List.mem_cons_self .., memN_iff.1 e⟩, fun _ => rfl⟩
    · rename_i e
      rw [ih]
      constructor
      · rintro ⟨y, h1, h2⟩; exact ⟨y, List.mem_cons_of_mem _ h1, h2⟩
      · rintro ⟨y, h1, h2⟩
        rcases List.mem_cons.1 h1 with rfl | h1
        · rw [memN_iff.2 h2] at e; cases e
        · exact ⟨y, h1, h2⟩
theorem openAt_spec {bs : List (List Nat)} {hv S : List Nat} : ∀ {l : List Oper} {n i : Nat} {o : Oper}, l[i]? = some o → n + i ∉ hv → allIn S (hvIn (nthL bs (n + i)) hv) = true → anyBef bs (n + i) S = false → n + i ∈ openAt bs hv S l n
  | [], n, i, o, h, _, _, _ => by simp at h
  | x :: r, n, i, o, h, h1, h2, h3 => by
    unfold openAt
    cases i with
    | zero =>
      simp at h
      subst h
      have h1' : memN n hv = false := by
        cases q : memN n hv with
        | false => rfl
        | true => exact absurd (memN_iff.1 q) h1
      rw [h1']
      simp only
      rw [Nat.add_zero] at h2 h3 ⊢
      rw [h2, h3]
      exact List.mem_cons_self ..
    | succ i =>
      have ih := openAt_spec (n := n + 1) (i := i) (by simpa using h) (by rw [show n + 1 + i = n + (i + 1) by omega]; exact h1) (by rw [show n + 1 + i = n + (i + 1) by omega]; exact h2) (by rw [show n + 1 + i = n + (i + 1) by omega]; exact h3)
      rw [show n + 1 + i = n + (i + 1) by omega] at ih
      split
      · exact ih
      · split
        · exact List.mem_cons_of_mem _ ih
        · exact ih
theorem openAt_lite {bs : List (List Nat)} {hv S : List Nat} : ∀ {l : List Oper} {n j : Nat}, j ∈ openAt bs hv S l n → ∃ i o, j = n + i ∧ l[i]? = some o ∧ j ∉ hv ∧ allIn S (hvIn (nthL bs j) hv) = true ∧ anyBef bs j S = false
  | [], n, j, h => by simp [openAt] at h
  | o :: r, n, j, h => by
    unfold openAt at h
    have rec' : j ∈ openAt bs hv S r (n + 1) → ∃ i o', j = n + i ∧ (o :: r)[i]? = some o' ∧ j ∉ hv ∧ allIn S (hvIn (nthL bs j) hv) = true ∧ anyBef bs j S = false := fun h => by
      obtain ⟨i, o', h1, h2, h3⟩ := openAt_lite h
      exact ⟨i + 1, o', by omega, by simpa using h2, h3⟩
    split at h
    · exact rec' h
    · rename_i e
      split at h
      · rename_i e2 e3
        rcases List.mem_cons.1 h with rfl | h
        · exact ⟨0, o, rfl, rfl, (fun q => by rw [memN_iff.2 q] at e; cases e), e2, e3⟩
        · exact rec' h
      · exact rec' h
theorem dstLt_spec {N : Nat} : ∀ {l : List Oper} {i d : Nat} {o : Oper}, dstLt N l = true → l[i]? = some o → o.dst = some d → d < N
  | [], i, d, o, _, h, _ => by simp at h
  | x :: r, i, d, o, hw, h, hd => by
    unfold dstLt at hw
    cases i with
    | zero =>
      simp at h
      subst h
      rw [hd] at hw
      simp only [Bool.and_eq_true] at hw
      simpa [blt_iff] using hw.1
    | succ i =>
      have : dstLt N r = true := by
        split at hw
        · rw [Bool.and_eq_true] at hw; exact hw.2
        · exact hw
      exact dstLt_spec this (by simpa using h) hd
end
end Go.Proofs.YtohcohbbmjhnfaaGreatDoor.X
