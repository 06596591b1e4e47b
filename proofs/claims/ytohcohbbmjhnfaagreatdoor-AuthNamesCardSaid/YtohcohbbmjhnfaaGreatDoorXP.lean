/-
Closed runs: a statement's operations, in the text's order and in any order. Condition: none.
-/
import Derived.Test.YtohcohbbmjhnfaaGreatDoorXO
set_option linter.unusedVariables false
set_option linter.unusedSectionVars false
set_option linter.unusedSimpArgs false
set_option linter.unnecessarySimpa false
namespace Go.Proofs.YtohcohbbmjhnfaaGreatDoor.X
open Go Go.RowKit
noncomputable section
variable [Tabs]
/-! ### an operation depends on its operands alone -/
section
variable {P : Program} {h : Heap} {id : Nat} {o : Oper} {g g' : Env}
theorem partsX_congr : ∀ {ps : List (Nat × Operand)}, (∀ t, Operand.tmp t ∈ ps.map (·.2) → g t = g' t) → partsX g ps = partsX g' ps
  | [], _ => rfl
  | (i, x) :: r, h => by
    unfold partsX
    rw [opnd_congr (fun t e => h t (by rw [e]; exact List.mem_cons_self ..)), partsX_congr (fun t ht => h t (List.mem_cons_of_mem _ ht))]
theorem opo_congr {x : Option Operand} (h : ∀ t, x = some (.tmp t) → g t = g' t) : opo g x = opo g' x := by
  cases x with
  | none => rfl
  | some x =>
    have e : opnd g x = opnd g' x := opnd_congr (fun t e => h t (by rw [e]))
    simp only [opo, e]
theorem liteX_congr (hg : ∀ t, Operand.tmp t ∈ o.op.operands.toList → g t = g' t) : liteX P g h id o = liteX P g' h id o := by
  have key : ∀ x, x ∈ o.op.operands.toList → opnd g x = opnd g' x := fun x hx => opnd_congr (fun t e => hg t (e ▸ hx))
  unfold liteX
  split <;> rename_i ho <;> simp only [ho, Op.operands] at key hg
  all_goals first
    | rfl
    | (rw [key _ (by simp)]; done)
    | (rw [key _ (by simp), key _ (by simp)]; done)
    | (rw [key _ (by simp), key _ (by simp), key _ (by simp)]; done)
    | skip
  · rw [partsX_congr (fun t ht => hg t (by simpa using ht))]
  · rw [partsX_congr (fun t ht => hg t (by simpa using ht))]
  · rw [opnds_congr (fun t ht => hg t (by simpa using Or.inl ht)), opnds_congr (xs := Array.toList _) (fun t ht => hg t (by simpa using Or.inr ht))]
  · rw [opo_congr (fun t ht => hg t (by simp [ht]))]
  · rw [key _ (by simp), opo_congr (fun t ht => hg t (by simp [ht])), opo_congr (fun t ht => hg t (by simp [ht])), opo_congr (fun t ht => hg t (by simp [ht]))]
  · rw [opnds_congr (fun t ht => hg t (by simpa [Call.operands] using Or.inr ht))]
theorem heavyX_congr {ext : FuncId → Option Ek} {call : CallF} {fl nx : Nat} (hg : ∀ t, Operand.tmp t ∈ o.op.operands.toList → g t = g' t) : heavyX P ext call fl g h nx o = heavyX P ext call fl g' h nx o := by
  have key : ∀ x, x ∈ o.op.operands.toList → opnd g x = opnd g' x := fun x hx => opnd_congr (fun t e => hg t (e ▸ hx))
  unfold heavyX
  split <;> rename_i ho <;> simp only [ho, Op.operands] at key hg
  all_goals first
    | rfl
    | (rw [key _ (by simp)]; done)
    | (rw [key _ (by simp), key _ (by simp)]; done)
    | (rw [key _ (by simp), key _ (by simp), key _ (by simp)]; done)
    | skip
  rename_i c
  have e1 : opnds g c.args.toList = opnds g' c.args.toList := opnds_congr (fun t ht => hg t (by simpa [Call.operands] using Or.inr ht))
  rw [e1]
  split
  · rfl
  · split
    · rfl
    · rename_i hc
      rw [key _ (by simp [Call.operands, hc])]
    · rename_i hc
      rw [key _ (by simp [Call.operands, hc])]
end
end
end Go.Proofs.YtohcohbbmjhnfaaGreatDoor.X
