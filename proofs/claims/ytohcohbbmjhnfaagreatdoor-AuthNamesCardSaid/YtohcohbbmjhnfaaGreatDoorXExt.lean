/-
Closed runs: what is common to those of this program. Condition: none.
-/
import Derived.Test.YtohcohbbmjhnfaaGreatDoorXZ
set_option linter.unusedVariables false
namespace Go.Proofs.YtohcohbbmjhnfaaGreatDoor.X
open Go Go.RowKit
noncomputable section
/-- Nothing is asked of memory. -/
@[reducible] def noTabs : Tabs := ⟨fun _ _ => True, fun _ _ => trivial, fun _ _ => trivial⟩
def extL : List (FuncId × Ek) := [
  (186, .same)
  , (181, .indexByte)
  , (178, .compare)
  ]
def lookEk (l : List (FuncId × Ek)) (f : FuncId) : Option Ek := List.rec (motive := fun _ => Option Ek) none (fun p _ ih => Bool.rec (motive := fun _ => Option Ek) ih (some p.2) (Nat.beq f p.1)) l
def extT : FuncId → Option Ek := fun f => lookEk extL f
theorem lookEk_mem {f : FuncId} {k : Ek} : ∀ {l : List (FuncId × Ek)}, lookEk l f = some k → (f, k) ∈ l
  | [], h => by cases h
  | p :: r, h => by
    have h' : Bool.rec (motive := fun _ => Option Ek) (lookEk r f) (some p.2) (Nat.beq f p.1) = some k := h
    cases q : Nat.beq f p.1 with
    | true =>
      rw [q] at h'
      have h' : some p.2 = some k := h'
      cases h'
      rw [beq_t q]
      exact List.mem_cons_self ..
    | false => rw [q] at h'; exact List.mem_cons_of_mem _ (lookEk_mem h')
def ExtP (f : FuncId) (k : Ek) : Prop := ∃ fn, Tryz.prog.funcs[f]? = some fn ∧ (fn.name == "runtime.NumGoroutine") = false ∧ fn.body.isNone = true ∧ Extern.findNext fn = none ∧ Extern.find fn = some k.sem
theorem ext0 : ExtP 186 .same := ⟨_, Tryz.func186, by kernel_rfl, by kernel_rfl, by kernel_rfl, by kernel_rfl⟩
theorem ext1 : ExtP 181 .indexByte := ⟨_, Tryz.func181, by kernel_rfl, by kernel_rfl, by kernel_rfl, by kernel_rfl⟩
theorem ext2 : ExtP 178 .compare := ⟨_, Tryz.func178, by kernel_rfl, by kernel_rfl, by kernel_rfl, by kernel_rfl⟩
theorem extL_ok (f : FuncId) (k : Ek) (h : (f, k) ∈ extL) : ExtP f k := by
  unfold extL at h
  rcases List.mem_cons.1 h with e | h; (cases e; exact ext0)
  rcases List.mem_cons.1 h with e | h; (cases e; exact ext1)
  rcases List.mem_cons.1 h with e | h; (cases e; exact ext2)
  simp at h
theorem ext_ok : ExtOK Tryz.prog extT := fun f k h => extL_ok f k (lookEk_mem h)
theorem num_free : numFree Tryz.prog = true := by kernel_rfl
theorem mixedX : Tryz.prog.follows .mixedOrders = true := by kernel_rfl
section
variable [Tabs]
def pureT (f : FuncId) : Bool := bitN 173701454229609630040022963011178075281972600866934307054172055406304601047040 f
/-- Calls of texts and numbers: in an empty memory. -/
def prim1 : CallF := autoX pureT (fun f xs => runFK Tryz.prog extT primSeq 10000 60 0 f xs .nil 0) primSeq
def prim2 : CallF := autoX pureT (fun f xs => runFK Tryz.prog extT prim1 10000 60 0 f xs .nil 0) primSeq
def prim3 : CallF := autoX pureT (fun f xs => runFK Tryz.prog extT prim2 10000 60 0 f xs .nil 0) primSeq
theorem prim1_ok : CallOK Tryz.prog prim1 := autoX_ok mixedX ext_ok num_free primSeq_ok primSeq_ok
theorem prim2_ok : CallOK Tryz.prog prim2 := autoX_ok mixedX ext_ok num_free prim1_ok primSeq_ok
theorem prim3_ok : CallOK Tryz.prog prim3 := autoX_ok mixedX ext_ok num_free prim2_ok primSeq_ok
end
/-- A function of nothing that yields a boolean. -/
theorem closed {f : FuncId} {b : Bool} (hx : (letI := noTabs; saysB b (runFK Tryz.prog extT prim3 10000 60 0 f [] .nil 0)) = true) (w : World) : Callable Tryz.prog f ∧ Calls Tryz.prog f #[] w fun e w' => e = .returned (.bool b) ∧ Below w.heap.size w w' :=
  letI := noTabs
  closed_bool mixedX ext_ok num_free prim3_ok hx w trivial
end
end Go.Proofs.YtohcohbbmjhnfaaGreatDoor.X
