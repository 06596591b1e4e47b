/-
Contracts of power's look-ups (find at users' and at types' entries), by hand: the first entry of a key.
-/
import Derived.Test.YtpflimghkckpjaaGreatDoorHId2
import Derived.Deep.RegionHeld3
import Derived.Deep.DrawnRows
import Derived.WalkLawsBesides
set_option linter.unusedVariables false
set_option linter.unusedSimpArgs false
namespace Go.Proofs.YtpflimghkckpjaaGreatDoor.H
open Go.RowKit Go.Shelf

/-! ### the order of texts -/
def ltS (a b : List UInt8) : Bool := Op.bytesLess a b
theorem ltS_nil_r (a : List UInt8) : ltS a [] = false := by unfold ltS; cases a <;> simp [Op.bytesLess]
theorem ltS_nil_l (b : UInt8) (t : List UInt8) : ltS [] (b :: t) = true := by unfold ltS; simp [Op.bytesLess]
theorem ltS_cons (a b : UInt8) (x y : List UInt8) : ltS (a :: x) (b :: y) = (decide (a < b) || (a == b && ltS x y)) := by unfold ltS; simp [Op.bytesLess]
theorem ltS_irr (a : List UInt8) : ltS a a = false := by
  induction a with
  | nil => exact ltS_nil_r _
  | cons x t ih => rw [ltS_cons]; simp [ih]
theorem ltS_trans : ∀ {a b c : List UInt8}, ltS a b = true → ltS b c = true → ltS a c = true := by
  intro a
  induction a with
  | nil => intro b c h1 h2; cases c with
    | nil => rw [ltS_nil_r] at h2; cases h2
    | cons => exact ltS_nil_l _ _
  | cons x a ih => intro b c h1 h2; cases b with
    | nil => rw [ltS_nil_r] at h1; cases h1
    | cons y b => cases c with
      | nil => rw [ltS_nil_r] at h2; cases h2
      | cons z c =>
        rw [ltS_cons] at *
        simp only [Bool.or_eq_true, decide_eq_true_eq, Bool.and_eq_true, beq_iff_eq] at *
        rcases h1 with h1 | ⟨rfl, h1⟩
        · rcases h2 with h2 | ⟨rfl, h2⟩
          · left; exact UInt8.lt_trans h1 h2
          · left; exact h1
        · rcases h2 with h2 | ⟨rfl, h2⟩
          · left; exact h2
          · right; exact ⟨rfl, ih h1 h2⟩
theorem ltS_tri : ∀ {a b : List UInt8}, ltS a b = false → ltS b a = false → a = b := by
  intro a
  induction a with
  | nil => intro b h1 h2; cases b with
    | nil => rfl
    | cons => rw [ltS_nil_l] at h1; cases h1
  | cons x a ih => intro b h1 h2; cases b with
    | nil => rw [ltS_nil_l] at h2; cases h2
    | cons y b =>
      rw [ltS_cons] at *
      simp only [Bool.or_eq_false_iff, decide_eq_false_iff_not, Bool.and_eq_false_iff, beq_eq_false_iff_ne] at *
      have hxy : x = y := by
        apply UInt8.le_antisymm
        · exact UInt8.not_lt.1 h2.1
        · exact UInt8.not_lt.1 h1.1
      subst hxy
      rcases h1.2 with h | h
      · exact absurd rfl h
      · rcases h2.2 with h' | h'
        · exact absurd rfl h'
        · rw [ih h h']
theorem ltS_asymm {a b : List UInt8} (h : ltS a b = true) : ltS b a = false := by
  cases h' : ltS b a with
  | false => rfl
  | true => have := ltS_trans h h'; rw [ltS_irr] at this; cases this
/-- 'not greater' goes on. -/
theorem leS_trans {a b c : List UInt8} (h1 : ltS b a = false) (h2 : ltS c b = false) : ltS c a = false := by
  cases h : ltS c a with
  | false => rfl
  | true =>
    cases h3 : ltS a b with
    | true => have := ltS_trans h h3; rw [this] at h2; cases h2
    | false => have := ltS_tri h3 h1; subst this; rw [h] at h2; cases h2

def cmpS (a b : ByteArray) : Int := if ltS a.toList b.toList then -1 else if ltS b.toList a.toList then 1 else 0

set_option maxHeartbeats 400000 in
theorem isnan_any (a : ByteArray) (w : World) : Calls Tryz.prog 114 #[.string a] w fun e w' => e = .returned (.bool false) ∧ w = w' := by
  go_enter Tryz.func114, Tryz.ntmps114
  go_wp2
  go_ret
  exact ⟨ret_bool (by simp), rfl⟩

set_option maxHeartbeats 400000 in
theorem cmp_any (a b : ByteArray) (w : World) : Calls Tryz.prog 80 #[.string a, .string b] w fun e w' => e = .returned (.int .i64 (cmpS a b)) ∧ w = w' := by
  unfold cmpS ltS
  cases h1 : Op.bytesLess a.toList b.toList with
  | true =>
    go_enter Tryz.func80, Tryz.ntmps80
    go_wp2_with (go_at_call 114; refine (isnan_any _ _).mono ?_; rintro e w' ⟨rfl, rfl⟩)
    go_ret
    exact ⟨by simp, rfl⟩
  | false =>
    cases h2 : Op.bytesLess b.toList a.toList with
    | true =>
      have h3 : (a.toList == b.toList) = false := beq_eq_false_iff_ne.2 fun e => by rw [e] at h1 h2; rw [h1] at h2; cases h2
      go_enter Tryz.func80, Tryz.ntmps80
      go_wp2_with (go_at_call 114; refine (isnan_any _ _).mono ?_; rintro e w' ⟨rfl, rfl⟩)
      go_ret
      exact ⟨by simp, rfl⟩
    | false =>
      have h3 : (a.toList == b.toList) = true := beq_iff_eq.2 (ltS_tri h1 h2)
      go_enter Tryz.func80, Tryz.ntmps80
      go_wp2_with (go_at_call 114; refine (isnan_any _ _).mono ?_; rintro e w' ⟨rfl, rfl⟩)
      go_ret
      exact ⟨by simp, rfl⟩

set_option maxHeartbeats 400000 in
theorem key_user (s : ByteArray) (n : Int) (w : World) : Calls Tryz.prog 104 #[.agg #[.string s, .int .i64 n]] w fun e w' => e = .returned (.string s) ∧ Below w.heap.size w w' := by
  go_enter Tryz.func104, Tryz.ntmps104
  go_wp2
  go_ret
  exact ⟨rfl, (Below.refl _ _).alloc (Nat.le_refl _) _⟩

set_option maxHeartbeats 800000 in
theorem c1_user (s : ByteArray) (n : Int) (t : ByteArray) (m : Int) (q : Nat) (w : World) (h0 : w.cell? ⟨q, 0, none⟩ = some (.func (.func 104) #[] #[])) :
    Calls Tryz.prog 140 #[.agg #[.string s, .int .i64 n], .agg #[.string t, .int .i64 m], .pointer (some ⟨q, 0, none⟩)] w fun e w' => e = .returned (.int .i64 (cmpS s t)) ∧ Below w.heap.size w w' := by
  have hq : q < w.heap.size := World.block_lt_of_cell? w _ h0
  have hc := cmp_any s t
  generalize cmpS s t = C at hc ⊢
  go_enter Tryz.func140, Tryz.ntmps140
  go_wp2
  have hB0 : Below w.heap.size w ((w.alloc (.cells #[.string s, .int .i64 n] 79)).alloc (.cells #[.string t, .int .i64 m] 79)) := ((Below.refl _ _).alloc (Nat.le_refl _) _).alloc (by simp) _
  go_region_held3 (fun w' => w'.cell? ⟨q, 0, none⟩ = some (.func (.func 104) #[] #[]) ∧ w'.cell? ⟨w.heap.size, 0, none⟩ = some (.string s) ∧ w'.cell? ⟨w.heap.size, 1, none⟩ = some (.int .i64 n) ∧ w'.cell? ⟨w.heap.size + 1, 0, none⟩ = some (.string t) ∧ w'.cell? ⟨w.heap.size + 1, 1, none⟩ = some (.int .i64 m) ∧ Below w.heap.size w w')
    (first | (go_split_ands; refine ⟨?_, ?_, ?_, ?_, ?_, ?_⟩ <;> first | (exact (hb.cell (World.block_lt_of_cell? _ _ (by assumption))).trans (by assumption)) | exact bl_then (by assumption) hb) | (refine ⟨?_, ?_, ?_, ?_, ?_, ?_⟩ <;> first | exact hB0.drew | go_keep))
    (first | (go_at_call 104; refine (key_user _ _ _).mono ?_; rintro e w1 ⟨rfl, hb⟩) | (go_at_call 80; refine (hc _).mono ?_; rintro e w1 ⟨rfl, rfl⟩))
  go_split_ands
  go_wp2
  go_ret
  exact ⟨rfl, by assumption⟩
set_option maxHeartbeats 400000 in
theorem key_typed (s : ByteArray) (n : Int) (w : World) : Calls Tryz.prog 106 #[.agg #[.string s, .int .i64 n]] w fun e w' => e = .returned (.string s) ∧ Below w.heap.size w w' := by
  go_enter Tryz.func106, Tryz.ntmps106
  go_wp2
  go_ret
  exact ⟨rfl, (Below.refl _ _).alloc (Nat.le_refl _) _⟩

set_option maxHeartbeats 800000 in
theorem c1_typed (s : ByteArray) (n : Int) (t : ByteArray) (m : Int) (q : Nat) (w : World) (h0 : w.cell? ⟨q, 0, none⟩ = some (.func (.func 106) #[] #[])) :
    Calls Tryz.prog 146 #[.agg #[.string s, .int .i64 n], .agg #[.string t, .int .i64 m], .pointer (some ⟨q, 0, none⟩)] w fun e w' => e = .returned (.int .i64 (cmpS s t)) ∧ Below w.heap.size w w' := by
  have hq : q < w.heap.size := World.block_lt_of_cell? w _ h0
  have hc := cmp_any s t
  generalize cmpS s t = C at hc ⊢
  go_enter Tryz.func146, Tryz.ntmps146
  go_wp2
  have hB0 : Below w.heap.size w ((w.alloc (.cells #[.string s, .int .i64 n] 81)).alloc (.cells #[.string t, .int .i64 m] 81)) := ((Below.refl _ _).alloc (Nat.le_refl _) _).alloc (by simp) _
  go_region_held3 (fun w' => w'.cell? ⟨q, 0, none⟩ = some (.func (.func 106) #[] #[]) ∧ w'.cell? ⟨w.heap.size, 0, none⟩ = some (.string s) ∧ w'.cell? ⟨w.heap.size, 1, none⟩ = some (.int .i64 n) ∧ w'.cell? ⟨w.heap.size + 1, 0, none⟩ = some (.string t) ∧ w'.cell? ⟨w.heap.size + 1, 1, none⟩ = some (.int .i64 m) ∧ Below w.heap.size w w')
    (first | (go_split_ands; refine ⟨?_, ?_, ?_, ?_, ?_, ?_⟩ <;> first | (exact (hb.cell (World.block_lt_of_cell? _ _ (by assumption))).trans (by assumption)) | exact bl_then (by assumption) hb) | (refine ⟨?_, ?_, ?_, ?_, ?_, ?_⟩ <;> first | exact hB0.drew | go_keep))
    (first | (go_at_call 106; refine (key_typed _ _ _).mono ?_; rintro e w1 ⟨rfl, hb⟩) | (go_at_call 80; refine (hc _).mono ?_; rintro e w1 ⟨rfl, rfl⟩))
  go_split_ands
  go_wp2
  go_ret
  exact ⟨rfl, by assumption⟩
end Go.Proofs.YtpflimghkckpjaaGreatDoor.H
