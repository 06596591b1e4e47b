/-
The logic of pure values, continued: a statement's operations, in order and in any order. Condition: none.
-/
import Derived.Test.YtbjfmkmaghapgaaGreatDoorBOkX
set_option linter.unusedVariables false
set_option linter.unusedSimpArgs false
namespace Go.Proofs.YtbjfmkmaghapgaaGreatDoor.B
open Go.RowKit

/-! ### the state that is computed with is the state -/
theorem getL_setL : ∀ (cs : List C) (i j : Nat) (c : C), i < cs.length → getL (setL cs i c) j = if j = i then c else getL cs j
  | [], i, j, c, h => absurd h (by simp)
  | d :: cs, 0, j, c, h => by cases j <;> simp [setL, getL]
  | d :: cs, i + 1, j, c, h => by
    cases j with
    | zero => simp [setL, getL]
    | succ j =>
      have := getL_setL cs i j c (by simpa using h)
      simpa [setL, getL] using this
theorem len_setL : ∀ (cs : List C) (i : Nat) (c : C), (setL cs i c).length = cs.length
  | [], i, c => rfl
  | d :: cs, 0, c => rfl
  | d :: cs, i + 1, c => by simp [setL, len_setL cs i c]
theorem getL_putL : ∀ (cs : List C) (i j : Nat) (c : C), i ≤ cs.length → getL (putL cs i c) j = if j = i then c else getL cs j
  | [], 0, j, c, h => by cases j <;> simp [putL, getL]
  | [], i + 1, j, c, h => absurd h (by simp)
  | d :: cs, 0, j, c, h => by cases j <;> simp [putL, getL]
  | d :: cs, i + 1, j, c, h => by
    cases j with
    | zero => simp [putL, getL]
    | succ j =>
      have := getL_putL cs i j c (by simpa using h)
      simpa [putL, getL] using this
theorem getB_putB : ∀ (bs : List (Nat × List C)) (i o j : Nat) (c : C), getB (putB bs i o c) j = if j = i then (getB bs i).map (fun cs => putL cs o c) else getB bs j
  | [], i, o, j, c => by simp [putB, getB]
  | (k, cs) :: r, i, o, j, c => by
    have ih := getB_putB r i o j c
    by_cases hk : k = i
    · subst hk
      by_cases hj : j = k
      · subst hj; simp [putB, getB]
      · simp [putB, getB, hj, Ne.symm hj]
    · by_cases hj : j = i
      · subst hj
        simp only [putB, if_neg hk, getB, if_true] at ih ⊢
        exact ih
      · by_cases hkj : k = j
        · subst hkj; simp [putB, getB, hk, hj]
        · simp only [putB, if_neg hk, getB, if_neg hkj, if_neg hj] at ih ⊢
          exact ih
theorem St.set_get {s : St} {κ : Key} {c : C} (h : validW s κ c = true) : (s.set κ c).get = upd s.get κ c := by
  funext κ'
  cases κ with
  | t i =>
    have hi : i < s.tmps.length := by simpa [validW, Nat.blt_eq] using h
    cases κ' with
    | t j =>
      show getL (setL s.tmps i c) j = _
      rw [getL_setL _ _ _ _ hi]
      by_cases e : j = i
      · subst e; rw [if_pos rfl, upd_same]
      · rw [if_neg e, upd_ne _ _ (by simpa using e)]; rfl
    | b j o => rw [upd_ne _ _ (by simp)]; rfl
    | al j => rw [upd_ne _ _ (by simp)]; rfl
  | b i o =>
    simp only [validW] at h
    cases hb : getB s.boxes i with
    | none => rw [hb] at h; cases h
    | some cs =>
      rw [hb] at h
      have ho : o ≤ cs.length := by simpa [Nat.ble_eq] using h
      cases κ' with
      | t j => rw [upd_ne _ _ (by simp)]; rfl
      | b j o' =>
        show (match getB (putB s.boxes i o c) j with | some cs => getL cs o' | none => unC) = _
        rw [getB_putB]
        by_cases e : j = i
        · subst e
          rw [if_pos rfl, hb]
          show getL (putL cs o c) o' = _
          rw [getL_putL _ _ _ _ ho]
          by_cases e2 : o' = o
          · subst e2; rw [if_pos rfl, upd_same]
          · rw [if_neg e2, upd_ne _ _ (by simpa using e2)]
            show _ = (match getB s.boxes j with | some cs => getL cs o' | none => unC)
            rw [hb]
        · rw [if_neg e, upd_ne _ _ (by simp [e])]; rfl
      | al j =>
        rw [upd_ne _ _ (by simp)]
        show (match getB (putB s.boxes i o c) j with | some _ => liveC | none => unC) = (match getB s.boxes j with | some _ => liveC | none => unC)
        rw [getB_putB]
        by_cases e : j = i
        · subst e; rw [if_pos rfl, hb]; rfl
        · rw [if_neg e]
  | al i =>
    simp only [validW] at h
    split at h
    · rename_i hb
      cases κ' with
      | t j => rw [upd_ne _ _ (by simp)]; rfl
      | b j o =>
        rw [upd_ne _ _ (by simp)]
        show (match (if i = j then some [] else getB s.boxes j) with | some cs => getL cs o | none => unC) = (match getB s.boxes j with | some cs => getL cs o | none => unC)
        by_cases e : i = j
        · subst e; rw [if_pos rfl, hb]; rfl
        · rw [if_neg e]
      | al j =>
        show (match (if i = j then some [] else getB s.boxes j) with | some _ => liveC | none => unC) = _
        by_cases e : i = j
        · subst e; rw [if_pos rfl, upd_same]; rfl
        · rw [if_neg e, upd_ne _ _ (by simpa using Ne.symm e)]; rfl
    · cases h
theorem St.sets_get : ∀ {ws : List (Key × C)} {s : St}, s.valid ws = true → (s.sets ws).get = upds s.get ws
  | [], s, _ => rfl
  | (κ, c) :: ws, s, h => by
    have h' : validW s κ c = true ∧ (s.set κ c).valid ws = true := by simpa [St.valid] using h
    show ((s.set κ c).sets ws).get = upds (upd s.get κ c) ws
    rw [St.sets_get h'.2, St.set_get h'.1]

theorem memK_iff {κ : Key} : ∀ {l : List Key}, memK κ l = true ↔ κ ∈ l
  | [] => by simp [memK]
  | k :: l => by
    have ih := memK_iff (κ := κ) (l := l)
    by_cases e : κ = k
    · simp [memK, e]
    · simp [memK, e, ih]
theorem memN_iff {n : Nat} : ∀ {l : List Nat}, memN n l = true ↔ n ∈ l
  | [] => by simp [memN]
  | k :: l => by
    have ih := memN_iff (n := n) (l := l)
    by_cases e : n = k
    · simp [memN, e]
    · simp [memN, e, ih]
theorem meet_false {a b : List Key} (h : meet a b = false) : ∀ κ, κ ∈ a → κ ∉ b := by
  induction a with
  | nil => intro κ h; simp at h
  | cons x a ih =>
    simp only [meet, Bool.or_eq_false_iff] at h
    intro κ hκ
    rcases List.mem_cons.1 hκ with rfl | hκ
    · intro hb; rw [memK_iff.2 hb] at h; cases h.1
    · exact ih h.2 κ hκ

/-! ### effects of some of the operations, in the text's order -/
def F (D : Nat → Bool) : Nat → List (List (Key × C)) → (Key → C) → (Key → C)
  | _, [], g => g
  | i, ws :: r, g => F D (i + 1) r (if D i = true then upds g ws else g)
theorem upds_mem : ∀ {ws : List (Key × C)} {g g' : Key → C} {k : Key}, k ∈ keysOf ws → upds g ws k = upds g' ws k
  | [], g, g', k, h => by simp [keysOf] at h
  | (κ, c) :: ws, g, g', k, h => by
    by_cases hk : k ∈ keysOf ws
    · show upds (upd g κ c) ws k = upds (upd g' κ c) ws k
      exact upds_mem hk
    · have e : k = κ := by
        rcases List.mem_cons.1 h with e | h
        · exact e
        · exact absurd h hk
      subst e
      have q : ∀ {ws : List (Key × C)} {g : Key → C} {k : Key}, k ∉ keysOf ws → upds g ws k = g k := by
        intro ws
        induction ws with
        | nil => intro g k _; rfl
        | cons x ws ih =>
          intro g k hk
          obtain ⟨κ, c⟩ := x
          have hk' : k ≠ κ ∧ k ∉ keysOf ws := by simpa [keysOf] using hk
          show upds (upd g κ c) ws k = g k
          rw [ih hk'.2, upd_ne _ _ hk'.1]
      show upds (upd g k c) ws k = upds (upd g' k c) ws k
      rw [q hk, q hk, upd_same, upd_same]
theorem upds_not : ∀ {ws : List (Key × C)} {g : Key → C} {k : Key}, k ∉ keysOf ws → upds g ws k = g k
  | [], g, k, _ => rfl
  | (κ, c) :: ws, g, k, hk => by
    have hk' : k ≠ κ ∧ k ∉ keysOf ws := by simpa [keysOf] using hk
    show upds (upd g κ c) ws k = g k
    rw [upds_not hk'.2, upd_ne _ _ hk'.1]
theorem F_agree {D D' : Nat → Bool} {k : Key} : ∀ (r : List (List (Key × C))) (off : Nat) {g g' : Key → C}, (∀ (i : Nat) ws, r[i]? = some ws → k ∈ keysOf ws → D (off + i) = D' (off + i)) → g k = g' k → F D off r g k = F D' off r g' k
  | [], off, g, g', _, h => h
  | ws :: r, off, g, g', hD, h => by
    refine F_agree r (off + 1) (fun i ws' hi hk => by
      have := hD (i + 1) ws' (by simpa using hi) hk
      rwa [show off + (i + 1) = off + 1 + i from by omega] at this) ?_
    by_cases hk : k ∈ keysOf ws
    · have := hD 0 ws rfl hk
      rw [Nat.add_zero] at this
      rw [this]
      by_cases e : D' off = true
      · rw [if_pos e, if_pos e]; exact upds_mem hk
      · rw [if_neg e, if_neg e]; exact h
    · have q : ∀ (D : Nat → Bool) (g : Key → C), (if D off = true then upds g ws else g) k = g k := fun D g => by
        by_cases e : D off = true
        · rw [if_pos e]; exact upds_not hk
        · rw [if_neg e]
      rw [q, q]
      exact h
/-- One more operation, behind whose place none that is done writes what it writes. -/
theorem F_more {D : Nat → Bool} {k : Key} {j : Nat} {wj : List (Key × C)} : ∀ (r : List (List (Key × C))) (off : Nat) {g : Key → C}, off ≤ j → r[j - off]? = some wj → D j = false →
    (k ∈ keysOf wj → ∀ (i : Nat) ws, r[i]? = some ws → j < off + i → D (off + i) = true → k ∉ keysOf ws) → F (fun i => D i || decide (i = j)) off r g k = upds (F D off r g) wj k
  | [], off, g, _, h, _, _ => by simp at h
  | ws :: r, off, g, hoff, hj, hDj, hw => by
    by_cases e : j = off
    · subst e
      rw [Nat.sub_self] at hj
      have hj' : ws = wj := by simpa using hj
      subst hj'
      show F _ (j + 1) r (if (D j || decide (j = j)) = true then upds g ws else g) k = upds (F D (j + 1) r (if D j = true then upds g ws else g)) ws k
      rw [if_pos (by simp), hDj]
      have e0 : (if false = true then upds g ws else g) = g := rfl
      rw [e0]
      by_cases hk : k ∈ keysOf ws
      · have h1 : F (fun i => D i || decide (i = j)) (j + 1) r (upds g ws) k = F (fun _ => false) (j + 1) r (upds g ws) k := F_agree r (j + 1) (fun i ws' hi hk' => by
          have hlt : j < j + 1 + i := by omega
          cases hDi : D (j + 1 + i) with
          | true =>
            exact absurd hk' (hw hk (i + 1) ws' (by simpa using hi) (by omega) (by rw [show j + (i + 1) = j + 1 + i from by omega]; exact hDi))
          | false =>
            simp; omega) rfl
        have h2 : ∀ (r : List (List (Key × C))) (o : Nat) (g : Key → C), F (fun _ => false) o r g = g := by
          intro r
          induction r with
          | nil => intros; rfl
          | cons x r ih => intro o g; exact ih (o + 1) g
        rw [h1, h2]
        exact upds_mem hk
      · rw [upds_not hk]
        exact F_agree r (j + 1) (fun i ws' hi hk' => by
          show (D (j + 1 + i) || decide (j + 1 + i = j)) = D (j + 1 + i)
          have : decide (j + 1 + i = j) = false := by simp; omega
          rw [this, Bool.or_false]) (upds_not hk)
    · have hlt : off + 1 ≤ j := by omega
      show F _ (off + 1) r (if (D off || decide (off = j)) = true then upds g ws else g) k = upds (F D (off + 1) r (if D off = true then upds g ws else g)) wj k
      have e1 : (D off || decide (off = j)) = D off := by
        have : decide (off = j) = false := by simp; omega
        rw [this, Bool.or_false]
      rw [e1]
      refine F_more r (off + 1) hlt (by rw [show j - off = (j - (off + 1)) + 1 from by omega] at hj; simpa using hj) hDj (fun hk i ws' hi hlt' hD => hw hk (i + 1) ws' (by simpa using hi) (by omega) (by rw [show off + (i + 1) = off + 1 + i from by omega]; exact hD))
end Go.Proofs.YtbjfmkmaghapgaaGreatDoor.B
