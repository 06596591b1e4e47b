/-
Closed runs: a statement's operations, in the text's order and in any order. Condition: none.
-/
import Derived.Test.YtohcohbbmjhnfaaGreatDoorXP
set_option linter.unusedVariables false
set_option linter.unusedSectionVars false
set_option linter.unusedSimpArgs false
set_option linter.unnecessarySimpa false
namespace Go.Proofs.YtohcohbbmjhnfaaGreatDoor.X
open Go Go.RowKit
noncomputable section
variable [Tabs]
/-! ### equal values -/
def feq : Fn → Fn → Bool
  | .func f, .func g => Nat.beq f g
  | _, _ => false
theorem feq_ok {f g : Fn} (h : feq f g = true) : f = g := by
  unfold feq at h
  split at h
  · rw [beq_t h]
  · cases h
mutual
def beqX : XV → XV → Bool
  | .un, .un => true
  | .int j a, .int k b => match keq j k with
    | true => ieq a b
    | false => false
  | .bool a, .bool b => beqB a b
  | .str l n, .str l' n' => match Nat.beq l l' with
    | true => Nat.beq n n'
    | false => false
  | .nilp, .nilp => true
  | .ptr b o, .ptr b' o' => match Nat.beq b b' with
    | true => Nat.beq o o'
    | false => false
  | .nils, .nils => true
  | .sl b o l c k e, .sl b' o' l' c' k' e' => match Nat.beq b b', Nat.beq o o', Nat.beq l l', Nat.beq c c', Nat.beq k k' with
    | true, true, true, true, true => beqB e e'
    | _, _, _, _, _ => false
  | .nilm, .nilm => true
  | .map b, .map b' => Nat.beq b b'
  | .nilf, .nilf => true
  | .fn f x y, .fn f' x' y' => match feq f f', beqXs x x' with
    | true, true => beqXs y y'
    | _, _ => false
  | .nili, .nili => true
  | .iface t v, .iface t' v' => match Nat.beq t t' with
    | true => beqX v v'
    | false => false
  | .agg x, .agg y => beqXs x y
  | .tup x, .tup y => beqXs x y
  | _, _ => false
def beqXs : List XV → List XV → Bool
  | [], [] => true
  | x :: xs, y :: ys => match beqX x y with
    | true => beqXs xs ys
    | false => false
  | _, _ => false
end
mutual
theorem beqX_ok : ∀ {x y : XV}, beqX x y = true → x = y
  | .int j a, y, h => by
    cases y <;> first | (cases h; done) | skip
    rw [beqX] at h; split at h
    · rename_i e; rw [keq_ok e]; rw [ieq_ok] at h; rw [beq_iff_eq.1 h]
    · cases h
  | .bool a, y, h => by
    cases y <;> first | (cases h; done) | skip
    rw [beqX, beqB_ok] at h; rw [beq_iff_eq.1 h]
  | .str l n, y, h => by
    cases y <;> first | (cases h; done) | skip
    rw [beqX] at h; split at h
    · rename_i e; rw [beq_t e, beq_t h]
    · cases h
  | .nilp, y, h => by cases y <;> first | rfl | cases h
  | .ptr b o, y, h => by
    cases y <;> first | (cases h; done) | skip
    rw [beqX] at h; split at h
    · rename_i e; rw [beq_t e, beq_t h]
    · cases h
  | .nils, y, h => by cases y <;> first | rfl | cases h
  | .sl .., y, h => by
    cases y <;> first | (cases h; done) | skip
    rw [beqX] at h; split at h
    · rename_i e1 e2 e3 e4 e5
      rw [beqB_ok] at h
      rw [beq_t e1, beq_t e2, beq_t e3, beq_t e4, beq_t e5, beq_iff_eq.1 h]
    · cases h
  | .nilm, y, h => by cases y <;> first | rfl | cases h
  | .map b, y, h => by
    cases y <;> first | (cases h; done) | skip
    rw [beqX] at h; rw [beq_t h]
  | .nilf, y, h => by cases y <;> first | rfl | cases h
  | .fn f x z, y, h => by
    cases y <;> first | (cases h; done) | skip
    rw [beqX] at h; split at h
    · rename_i e1 e2; rw [feq_ok e1, beqXs_ok e2, beqXs_ok h]
    · cases h
  | .nili, y, h => by cases y <;> first | rfl | cases h
  | .iface t v, y, h => by
    cases y <;> first | (cases h; done) | skip
    rw [beqX] at h; split at h
    · rename_i e; rw [beq_t e, beqX_ok h]
    · cases h
  | .agg x, y, h => by
    cases y <;> first | (cases h; done) | skip
    rw [beqX] at h; rw [beqXs_ok h]
  | .tup x, y, h => by
    cases y <;> first | (cases h; done) | skip
    rw [beqX] at h; rw [beqXs_ok h]
  | .un, y, h => by cases y <;> first | rfl | cases h
theorem beqXs_ok : ∀ {x y : List XV}, beqXs x y = true → x = y
  | [], [], _ => rfl
  | [], _ :: _, h => by cases h
  | _ :: _, [], h => by cases h
  | x :: xs, y :: ys, h => by
    rw [beqXs] at h; split at h
    · rename_i e; rw [beqX_ok e, beqXs_ok h]
    · cases h
end
def beqT : Tr XV → Tr XV → Bool
  | .nil, .nil => true
  | .node x l r, .node y a b => match beqX x y, beqT l a with
    | true, true => beqT r b
    | _, _ => false
  | _, _ => false
theorem beqT_ok : ∀ {x y : Tr XV}, beqT x y = true → x = y
  | .nil, .nil, _ => rfl
  | .nil, .node .., h => by cases h
  | .node .., .nil, h => by cases h
  | .node x l r, .node y a b, h => by
    rw [beqT] at h; split at h
    · rename_i e1 e2; rw [beqX_ok e1, beqT_ok e2, beqT_ok h]
    · cases h
def beqO : AO → AO → Bool
  | .cells t n e wr ex, .cells t' n' e' wr' ex' => match Nat.beq n n', Nat.beq e e', beqB wr wr', beqB ex ex' with
    | true, true, true, true => beqT t t'
    | _, _, _, _ => false
  | .map [] c, .map [] c' => Nat.beq c c'
  | _, _ => false
theorem beqO_ok {x y : AO} (h : beqO x y = true) : x = y := by
  unfold beqO at h
  split at h
  · split at h
    · rename_i e1 e2 e3 e4
      rw [beqB_ok] at e3 e4
      rw [beq_t e1, beq_t e2, beq_iff_eq.1 e3, beq_iff_eq.1 e4, beqT_ok h]
    · cases h
  · rw [beq_t h]
  · cases h
/-! ### what must go before -/
def unionN : List Nat → List Nat → List Nat
  | [], b => b
  | x :: a, b => match memN x b with
    | true => unionN a b
    | false => x :: unionN a b
def directOf (o : Oper) : List Nat := (o.after.toList.filter (Region.binds .any)).map (·.on)
def nthL : List (List Nat) → Nat → List Nat
  | [], _ => []
  | c :: _, 0 => c
  | _ :: cs, n + 1 => nthL cs n
def befFrom (acc : List (List Nat)) : List Nat → List Nat
  | [] => []
  | i :: r => unionN [i] (unionN (nthL acc i) (befFrom acc r))
def befs : List (List Nat) → List Oper → List (List Nat)
  | acc, [] => acc
  | acc, o :: r => befs (acc ++ [befFrom acc (directOf o)]) r
def backOK : Nat → List Oper → Bool
  | _, [] => true
  | i, o :: r => (directOf o).all (fun j => Nat.blt j i) && backOK (i + 1) r
theorem memN_iff {x : Nat} {l : List Nat} : memN x l = true ↔ x ∈ l := by rw [memN_ok]; simp
theorem unionN_mem {x : Nat} : ∀ {a b : List Nat}, x ∈ unionN a b → x ∈ a ∨ x ∈ b
  | [], b, h => .inr h
  | y :: a, b, h => by
    unfold unionN at h
    split at h
    · exact (unionN_mem h).imp (List.mem_cons_of_mem _) id
    · rcases List.mem_cons.1 h with rfl | h
      · exact .inl (List.mem_cons_self ..)
      · exact (unionN_mem h).imp (List.mem_cons_of_mem _) id
theorem befFrom_mem {x : Nat} {acc : List (List Nat)} : ∀ {l : List Nat}, x ∈ befFrom acc l → x ∈ l ∨ ∃ e, e ∈ l ∧ x ∈ nthL acc e
  | [], h => by simp [befFrom] at h
  | i :: r, h => by
    unfold befFrom at h
    rcases unionN_mem h with h | h
    · simp at h; subst h; exact .inl (List.mem_cons_self ..)
    · rcases unionN_mem h with h | h
      · exact .inr ⟨i, List.mem_cons_self .., h⟩
      · rcases befFrom_mem h with h | ⟨e, h1, h2⟩
        · exact .inl (List.mem_cons_of_mem _ h)
        · exact .inr ⟨e, List.mem_cons_of_mem _ h1, h2⟩
theorem nthL_append {acc : List (List Nat)} {l : List Nat} : ∀ (i : Nat), nthL (acc ++ [l]) i = if i < acc.length then nthL acc i else if i = acc.length then l else [] := by
  induction acc with
  | nil => intro i; cases i <;> simp [nthL]
  | cons c acc ih =>
    intro i
    cases i with
    | zero => simp [nthL]
    | succ i =>
      have := ih i
      simpa [nthL] using this
theorem nthL_out {acc : List (List Nat)} : ∀ (i : Nat), acc.length ≤ i → nthL acc i = [] := by
  induction acc with
  | nil => intro i _; rfl
  | cons c acc ih =>
    intro i h
    cases i with
    | zero => simp at h
    | succ i => exact ih i (by simpa using h)
/-- What must go before lies in whatever is closed. -/
theorem befs_closed {ops : List Oper} {D : Nat → Prop} (hcl : ∀ i o, D i → ops[i]? = some o → ∀ x, x ∈ directOf o → D x) : ∀ (rest : List Oper) (m : Nat) (acc : List (List Nat)), acc.length = m → (∀ i : Nat, rest[i]? = ops[m + i]?) →
    (∀ (i : Nat) o, i < m → ops[i]? = some o → (∀ x, x ∈ directOf o → D x) → ∀ x, x ∈ nthL acc i → D x) →
    ∀ (i : Nat) o, ops[i]? = some o → (∀ x, x ∈ directOf o → D x) → ∀ x, x ∈ nthL (befs acc rest) i → D x
  | [], m, acc, hl, hr, ih, i, o, ho, hd, x, hx => by
    by_cases hi : i < m
    · exact ih i o hi ho hd x hx
    · exfalso
      have : nthL (befs acc []) i = [] := nthL_out (acc := acc) i (by omega)
      rw [this] at hx
      simp at hx
  | o' :: rest, m, acc, hl, hr, ih, i, o, ho, hd, x, hx => by
    refine befs_closed hcl rest (m + 1) (acc ++ [befFrom acc (directOf o')]) (by simp [hl]) (fun i => by rw [show m + 1 + i = m + (i + 1) from by omega, ← hr (i + 1)]; simp) (fun i o hi ho hd x hx => ?_) i o ho hd x hx
    rw [nthL_append] at hx
    by_cases hlt : i < acc.length
    · rw [if_pos hlt] at hx
      exact ih i o (by omega) ho hd x hx
    · rw [if_neg hlt, if_pos (by omega)] at hx
      have hi' : i = m := by omega
      subst hi'
      have h0 : ops[i]? = some o' := by
        have := hr 0
        rw [Nat.add_zero] at this
        rw [← this]; rfl
      rw [h0] at ho
      cases ho
      rcases befFrom_mem hx with hx | ⟨e, he1, he2⟩
      · exact hd x hx
      · have hDe := hd e he1
        by_cases hem : e < acc.length
        · have hem' : e < ops.length := by
            have h1 : i < ops.length := (List.getElem?_eq_some_iff.1 h0).1
            omega
          exact ih e _ (by omega) (List.getElem?_eq_getElem hem') (hcl e _ hDe (List.getElem?_eq_getElem hem')) x he2
        · rw [nthL_out e (by omega)] at he2
          simp at he2
theorem backOK_spec : ∀ (l : List Oper) (i m : Nat) (o : Oper), backOK i l = true → l[m]? = some o → ∀ x, x ∈ directOf o → x < i + m
  | [], i, m, o, _, h => by simp at h
  | z :: l, i, m, o, hc, h => by
    simp only [backOK, Bool.and_eq_true, List.all_eq_true] at hc
    cases m with
    | zero =>
      simp at h
      subst h
      intro x hx
      simpa [Nat.blt_eq] using hc.1 x hx
    | succ m =>
      intro x hx
      have := backOK_spec l (i + 1) m o hc.2 (by simpa using h) x hx
      omega
theorem direct_iff {o : Oper} {x : Nat} : x ∈ directOf o ↔ ∃ e, e ∈ o.after ∧ Region.binds .any e = true ∧ e.on = x := by
  unfold directOf
  simp only [List.mem_map, List.mem_filter, Array.mem_toList_iff]
  constructor
  · rintro ⟨e, ⟨h1, h2⟩, h3⟩; exact ⟨e, h1, h2, h3⟩
  · rintro ⟨e, h1, h2, h3⟩; exact ⟨e, ⟨h1, h2⟩, h3⟩
theorem ready_iff {ops : List Oper} (listed : Array Bool) (i : Nat) : i ∈ Region.ready .any ops.toArray listed ↔ i < ops.length ∧ listed.getD i true = false ∧ ∀ o, ops[i]? = some o → ∀ x, x ∈ directOf o → listed.getD x false = true := by
  unfold Region.ready
  simp only [List.mem_filter, List.mem_range, List.size_toArray, Bool.and_eq_true, Bool.not_eq_true']
  constructor
  · rintro ⟨h1, h2, h3⟩
    refine ⟨h1, h2, fun o ho x hx => ?_⟩
    have ho' : ops.toArray[i]? = some o := by simpa using ho
    rw [ho'] at h3
    simp only [Option.map_some, Option.getD_some, Array.all_eq_true_iff_forall_mem, Bool.or_eq_true, Bool.not_eq_true'] at h3
    obtain ⟨e, h4, h5, h6⟩ := direct_iff.1 hx
    subst h6
    exact (h3 e h4).resolve_left (by rw [h5]; simp)
  · rintro ⟨h1, h2, h3⟩
    refine ⟨h1, h2, ?_⟩
    have ho : ops[i]? = some ops[i] := List.getElem?_eq_getElem h1
    have ho' : ops.toArray[i]? = some ops[i] := by simpa using ho
    rw [ho']
    simp only [Option.map_some, Option.getD_some, Array.all_eq_true_iff_forall_mem, Bool.or_eq_true, Bool.not_eq_true']
    intro e he
    by_cases hb : Region.binds .any e = true
    · exact .inr (h3 _ ho e.on (direct_iff.2 ⟨e, he, hb, rfl⟩))
    · exact .inl (by simpa using hb)
theorem listed_get {n : Nat} (listed : Array Bool) (hl : listed.size = n) (i : Nat) (hi : i < n) : listed.getD i true = listed.getD i false := by
  rw [Array.getD_eq_getD_getElem?, Array.getD_eq_getD_getElem?, Array.getElem?_eq_getElem (by omega)]
  rfl
theorem listed_out {n : Nat} (listed : Array Bool) (hl : listed.size = n) (i : Nat) (hi : listed.getD i false = true) : i < n := by
  rcases Nat.lt_or_ge i n with h | h
  · exact h
  · rw [Array.getD_eq_getD_getElem?, Array.getElem?_eq_none (by omega)] at hi; cases hi
theorem ready_all {ops : List Oper} (hback : backOK 0 ops = true) (listed : Array Bool) (hl : listed.size = ops.length) (hr : Region.ready .any ops.toArray listed = []) : ∀ i, i < ops.length → listed.getD i false = true := by
  intro i
  induction i using Nat.strongRecOn with
  | _ i ih =>
    intro hi
    cases hq : listed.getD i false with
    | true => rfl
    | false =>
      exfalso
      have : i ∈ Region.ready .any ops.toArray listed := (ready_iff listed i).2 ⟨hi, by rw [listed_get listed hl i hi]; exact hq, fun o ho x hx => by
        have hlt := backOK_spec ops 0 i o hback ho x hx
        exact ih x (by omega) (by omega)⟩
      rw [hr] at this
      simp at this
end
end Go.Proofs.YtohcohbbmjhnfaaGreatDoor.X
