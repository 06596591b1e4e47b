/-
The order of rules: plain law. Condition: none.
-/
import Derived.Test.YtbjfmkmaghapgaaGreatDoorBSort
set_option linter.unusedVariables false
set_option linter.unusedSimpArgs false
namespace Go.Proofs.YtbjfmkmaghapgaaGreatDoor.B
open Go.RowKit
/-- A comparison. -/
structure Cmpr {α : Type} (c : α → α → Int) : Prop where
  rng : ∀ a b, c a b = -1 ∨ c a b = 0 ∨ c a b = 1
  swap : ∀ a b, c b a = - c a b
  trans : ∀ a b d, c a b = -1 → c b d = -1 → c a d = -1
  cong : ∀ a b d, c a b = 0 → c a d = c b d
theorem Cmpr.cong' {α : Type} {c : α → α → Int} (h : Cmpr c) {a b : α} (d : α) (e : c a b = 0) : c d a = c d b := by
  rw [h.swap a d, h.swap b d, h.cong a b d e]
theorem cmpr_I : Cmpr cmpI where
  rng a b := by unfold cmpI; grind
  swap a b := by unfold cmpI; grind
  trans a b d := by unfold cmpI; grind
  cong a b d := by unfold cmpI; grind
theorem less_lt (x : List UInt8) : ∀ (y : List UInt8), Op.bytesLess x y = decide (x < y) := by
  induction x with
  | nil => intro y; cases y <;> simp [Op.bytesLess]
  | cons a x ih =>
    intro y
    cases y with
    | nil => simp [Op.bytesLess]
    | cons b y =>
      rw [Op.bytesLess, ih y]
      simp only [List.cons_lt_cons_iff]
      by_cases h1 : a < b <;> by_cases h2 : a = b <;> by_cases h3 : x < y <;> simp [h1, h2, h3]
def slt (a b : ByteArray) : Prop := a.toList < b.toList
theorem slt_irrefl (a : ByteArray) : ¬ slt a a := List.lt_irrefl _
theorem slt_trans {a b d : ByteArray} (h : slt a b) (h' : slt b d) : slt a d := List.lt_trans h h'
theorem slt_asymm {a b : ByteArray} (h : slt a b) : ¬ slt b a := fun h' => slt_irrefl a (slt_trans h h')
theorem slt_tri (a b : ByteArray) : slt a b ∨ a = b ∨ slt b a := by
  by_cases h1 : slt a b
  · exact .inl h1
  · by_cases h2 : slt b a
    · exact .inr (.inr h2)
    · exact .inr (.inl (toList_inj (List.le_antisymm h2 h1)))
theorem cmpS_eq (a b : ByteArray) : cmpS a b = if Op.bytesLess a.toList b.toList = true then -1 else if a = b then 0 else 1 := rfl
theorem cmpS_lt {a b : ByteArray} (h : slt a b) : cmpS a b = -1 := by
  rw [cmpS_eq, less_lt, if_pos (decide_eq_true (show a.toList < b.toList from h))]
theorem cmpS_self (a : ByteArray) : cmpS a a = 0 := by
  rw [cmpS_eq, less_lt, if_neg (by simp only [decide_eq_true_eq]; exact slt_irrefl a), if_pos rfl]
theorem cmpS_gt {a b : ByteArray} (h : slt b a) : cmpS a b = 1 := by
  rw [cmpS_eq, less_lt, if_neg (by simp only [decide_eq_true_eq]; exact slt_asymm h), if_neg (fun (e : a = b) => by subst e; exact slt_irrefl a h)]
theorem cmpS_cases (a b : ByteArray) : (slt a b ∧ cmpS a b = -1 ∧ cmpS b a = 1) ∨ (a = b ∧ cmpS a b = 0 ∧ cmpS b a = 0) ∨ (slt b a ∧ cmpS a b = 1 ∧ cmpS b a = -1) := by
  rcases slt_tri a b with h | rfl | h
  · exact .inl ⟨h, cmpS_lt h, cmpS_gt h⟩
  · exact .inr (.inl ⟨rfl, cmpS_self a, cmpS_self a⟩)
  · exact .inr (.inr ⟨h, cmpS_gt h, cmpS_lt h⟩)
theorem cmpr_S : Cmpr cmpS where
  rng a b := by rcases cmpS_cases a b with ⟨_, h, _⟩ | ⟨_, h, _⟩ | ⟨_, h, _⟩ <;> simp [h]
  swap a b := by rcases cmpS_cases a b with ⟨_, h, h'⟩ | ⟨_, h, h'⟩ | ⟨_, h, h'⟩ <;> rw [h, h'] <;> rfl
  trans a b d h h' := by
    rcases cmpS_cases a b with ⟨h1, _, _⟩ | ⟨_, h1, _⟩ | ⟨_, h1, _⟩
    · rcases cmpS_cases b d with ⟨h2, _, _⟩ | ⟨_, h2, _⟩ | ⟨_, h2, _⟩
      · exact cmpS_lt (slt_trans h1 h2)
      · rw [h'] at h2; cases h2
      · rw [h'] at h2; cases h2
    · rw [h] at h1; cases h1
    · rw [h] at h1; cases h1
  cong a b d h := by
    rcases cmpS_cases a b with ⟨_, h1, _⟩ | ⟨rfl, _, _⟩ | ⟨_, h1, _⟩
    · rw [h] at h1; cases h1
    · rfl
    · rw [h] at h1; cases h1
def lexC {α : Type} (c d : α → α → Int) (a b : α) : Int := if c a b = 0 then d a b else c a b
theorem Cmpr.lex {α : Type} {c d : α → α → Int} (hc : Cmpr c) (hd : Cmpr d) : Cmpr (lexC c d) where
  rng a b := by have := hc.rng a b; have := hd.rng a b; unfold lexC; split <;> omega
  swap a b := by have := hc.swap a b; have := hd.swap a b; unfold lexC; split <;> split <;> omega
  trans a b e h h' := by
    unfold lexC at *
    have h1 := hc.cong a b e
    have h2 := hc.trans a b e
    have h3 := hd.trans a b e
    have h4 := hc.rng a b
    have h5 := hc.rng b e
    have h6 : c b e = 0 → c a b = c a e := fun z => hc.cong' a z
    split at h <;> split at h' <;> split <;> omega
  cong a b e h := by
    unfold lexC at *
    have h1 := hc.cong a b e
    have h3 := hd.cong a b e
    have h4 := hc.rng a b
    split at h <;> split <;> split <;> omega
theorem Cmpr.of {α β : Type} {c : α → α → Int} (h : Cmpr c) (f : β → α) : Cmpr (fun a b => c (f a) (f b)) where
  rng a b := h.rng _ _
  swap a b := h.swap _ _
  trans a b d := h.trans _ _ _
  cong a b d := h.cong _ _ _
theorem cmpr_0 {α : Type} : Cmpr (fun _ _ : α => (0 : Int)) where
  rng a b := by simp
  swap a b := by simp
  trans a b d h := by simp at h
  cong a b d _ := rfl
theorem cmpR_lex : cmpR = lexC (fun a b => cmpI a.kind b.kind) (lexC (fun a b => cmpS a.entity b.entity) (lexC (fun a b => cmpS a.room b.room) (lexC (fun a b => cmpS a.key b.key) (lexC (fun a b => cmpS a.reason b.reason) (fun _ _ => 0))))) := by
  funext a b
  rfl
theorem cmpr_R : Cmpr cmpR := by
  rw [cmpR_lex]
  exact (cmpr_I.of Rl.kind).lex ((cmpr_S.of Rl.entity).lex ((cmpr_S.of Rl.room).lex ((cmpr_S.of Rl.key).lex ((cmpr_S.of Rl.reason).lex cmpr_0))))
theorem cmpI_zero {a b : Int} (h : cmpI a b = 0) : a = b := by unfold cmpI at h; grind
theorem cmpS_zero {a b : ByteArray} (h : cmpS a b = 0) : a = b := by
  rcases cmpS_cases a b with ⟨_, h1, _⟩ | ⟨e, _, _⟩ | ⟨_, h1, _⟩
  · rw [h] at h1; cases h1
  · exact e
  · rw [h] at h1; cases h1
theorem cmpR_self (a : Rl) : cmpR a a = 0 := by
  have := cmpr_R.swap a a
  omega
theorem cmpR_zero {a b : Rl} (h : cmpR a b = 0) : a = b := by
  rw [cmpR_lex] at h
  unfold lexC at h
  obtain ⟨a1, a2, a3, a4, a5⟩ := a
  obtain ⟨b1, b2, b3, b4, b5⟩ := b
  simp only at h
  split at h
  · rename_i e1
    split at h
    · rename_i e2
      split at h
      · rename_i e3
        split at h
        · rename_i e4
          split at h
          · rename_i e5
            rw [cmpI_zero e1, cmpS_zero e2, cmpS_zero e3, cmpS_zero e4, cmpS_zero e5]
          · exact absurd h (by assumption)
        · exact absurd h (by assumption)
      · exact absurd h (by assumption)
    · exact absurd h (by assumption)
  · exact absurd h (by assumption)
def ltR (a b : Rl) : Prop := cmpR a b = -1
theorem leR_trans (a b c : Rl) (h : leR a b = true) (h' : leR b c = true) : leR a c = true := by
  unfold leR at *
  simp only [decide_eq_true_eq] at *
  have h1 := cmpr_R.rng a b
  have h2 := cmpr_R.rng b c
  have h3 := cmpr_R.trans a b c
  have h4 := cmpr_R.cong a b c
  have h5 : cmpR b c = 0 → cmpR a b = cmpR a c := fun z => cmpr_R.cong' a z
  omega
theorem leR_total (a b : Rl) : (leR a b || leR b a) = true := by
  unfold leR
  have h := cmpr_R.swap a b
  simp only [Bool.or_eq_true, decide_eq_true_eq]
  omega
theorem sortR_sorted (l : List Rl) : (sortR l).Pairwise (fun a b => leR a b = true) := List.pairwise_mergeSort leR_trans leR_total l
theorem mem_sortR (l : List Rl) (x : Rl) : x ∈ sortR l ↔ x ∈ l := List.mem_mergeSort
theorem mem_dedupA {α : Type} [DecidableEq α] : ∀ (l : List α) (x : α), x ∈ dedupA l ↔ x ∈ l
  | [], x => by simp [dedupA]
  | [a], x => by simp [dedupA]
  | a :: b :: r, x => by
    have ih := mem_dedupA (b :: r) x
    simp only [dedupA]
    split
    · rename_i e
      subst e
      rw [ih]
      simp
    · rw [List.mem_cons, ih, List.mem_cons (a := x) (b := a)]
theorem dedupA_head {α : Type} [DecidableEq α] : ∀ (a : α) (l : List α), ∃ r, dedupA (a :: l) = a :: r
  | a, [] => ⟨[], rfl⟩
  | a, b :: r => by
    simp only [dedupA]
    split
    · rename_i e
      subst e
      exact dedupA_head a r
    · exact ⟨_, rfl⟩
theorem dedupA_lt : ∀ (l : List Rl), l.Pairwise (fun a b => leR a b = true) → (dedupA l).Pairwise ltR
  | [], _ => by simp [dedupA]
  | [a], _ => by simp [dedupA]
  | a :: b :: r, h => by
    have h' := List.pairwise_cons.1 h
    have ih := dedupA_lt (b :: r) h'.2
    simp only [dedupA]
    split
    · exact ih
    · rename_i e
      refine List.pairwise_cons.2 ⟨fun x hx => ?_, ih⟩
      have hx' := (mem_dedupA (b :: r) x).1 hx
      have h1 := h'.1 x hx'
      have hb := h'.1 b (by simp)
      have h2 := cmpr_R.rng a x
      unfold leR at h1 hb
      simp only [decide_eq_true_eq] at h1 hb
      unfold ltR
      by_cases z : cmpR a x = 0
      · exfalso
        have e2 := cmpR_zero z
        subst e2
        rcases List.mem_cons.1 hx' with e3 | e3
        · exact e e3
        · have := (List.pairwise_cons.1 h'.2).1 a e3
          unfold leR at this
          simp only [decide_eq_true_eq] at this
          have h4 := cmpr_R.swap a b
          have h5 : cmpR a b = 0 := by omega
          exact e (cmpR_zero h5)
      · omega
theorem ltR_unique : ∀ (a b : List Rl), a.Pairwise ltR → b.Pairwise ltR → (∀ x, x ∈ a ↔ x ∈ b) → a = b
  | [], [], _, _, _ => rfl
  | [], y :: b, _, _, h => by have := (h y).2 (by simp); simp at this
  | x :: a, [], _, _, h => by have := (h x).1 (by simp); simp at this
  | x :: a, y :: b, ha, hb, h => by
    have ha' := List.pairwise_cons.1 ha
    have hb' := List.pairwise_cons.1 hb
    have irr : ∀ z, ¬ ltR z z := fun z hz => by unfold ltR at hz; rw [cmpR_self] at hz; cases hz
    have e : x = y := by
      rcases List.mem_cons.1 ((h x).1 (by simp)) with e | h1
      · exact e
      · rcases List.mem_cons.1 ((h y).2 (by simp)) with e | h2
        · exact e.symm
        · exact absurd (cmpr_R.trans _ _ _ (ha'.1 y h2) (hb'.1 x h1)) (irr x)
    subst e
    rw [ltR_unique a b ha'.2 hb'.2 (fun z => ?_)]
    constructor
    · intro hz
      rcases List.mem_cons.1 ((h z).1 (List.mem_cons_of_mem _ hz)) with e | h1
      · subst e
        exact absurd (ha'.1 z hz) (irr z)
      · exact h1
    · intro hz
      rcases List.mem_cons.1 ((h z).2 (List.mem_cons_of_mem _ hz)) with e | h1
      · subst e
        exact absurd (hb'.1 z hz) (irr z)
      · exact h1
/-- Sorted, each once. -/
def sortU (l : List Rl) : List Rl := dedupA (sortR l)
theorem sortU_lt (l : List Rl) : (sortU l).Pairwise ltR := dedupA_lt _ (sortR_sorted l)
theorem mem_sortU (l : List Rl) (x : Rl) : x ∈ sortU l ↔ x ∈ l := by unfold sortU; rw [mem_dedupA, mem_sortR]
theorem sortU_congr {a b : List Rl} (h : ∀ x, x ∈ a ↔ x ∈ b) : sortU a = sortU b :=
  ltR_unique _ _ (sortU_lt a) (sortU_lt b) (fun x => by rw [mem_sortU, mem_sortU, h])
theorem sortU_self {a : List Rl} (h : a.Pairwise ltR) : sortU a = a :=
  ltR_unique _ _ (sortU_lt a) h (fun x => by rw [mem_sortU])
theorem sortU_len (l : List Rl) : (sortU l).length ≤ l.length := by
  have h := dedupA_len (sortR l)
  have h2 : (sortR l).length = l.length := List.length_mergeSort l
  unfold sortU
  omega
end Go.Proofs.YtbjfmkmaghapgaaGreatDoor.B
