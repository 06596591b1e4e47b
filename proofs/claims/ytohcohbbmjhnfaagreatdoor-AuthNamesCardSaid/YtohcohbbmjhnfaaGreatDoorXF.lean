/-
Closed runs: arithmetic, comparisons, conversions, interfaces, the reading of maps. Condition: none.
-/
import Derived.Test.YtohcohbbmjhnfaaGreatDoorXE
import Derived.Laws.StructEq
set_option linter.unusedVariables false
set_option linter.unusedSectionVars false
set_option linter.unusedSimpArgs false
namespace Go.Proofs.YtohcohbbmjhnfaaGreatDoor.X
open Go Go.RowKit
noncomputable section
variable [Tabs]
section
variable {P : Program} {B : Nat} {β : Ren} {h : Heap} {nx : Nat} {w : World}
/-! ### are two values equal? -/
def keq : IntKind → IntKind → Bool
  | .i8, .i8 | .i16, .i16 | .i32, .i32 | .i64, .i64 | .u8, .u8 | .u16, .u16 | .u32, .u32 | .u64, .u64 => true
  | _, _ => false
theorem keq_ok {k k' : IntKind} (h : keq k k' = true) : k = k' := by cases k <;> cases k' <;> first | rfl | cases h
def ieq : Int → Int → Bool
  | .ofNat a, .ofNat b => Nat.beq a b
  | .negSucc a, .negSucc b => Nat.beq a b
  | _, _ => false
theorem ieq_ok (a b : Int) : ieq a b = (a == b) := by
  rw [Bool.eq_iff_iff]
  cases a <;> cases b <;> simp [ieq] <;> omega
def beqB : Bool → Bool → Bool
  | true, b => b
  | false, true => false
  | false, false => true
theorem beqB_ok (a b : Bool) : beqB a b = (a == b) := by cases a <;> cases b <;> rfl
mutual
def xeq (P : Program) : Nat → TypeId → XV → XV → Option Bool
  | 0, _, _, _ => none
  | d + 1, t, x, y => match P.underlying t, x, y with
    | some .bool, .bool a, .bool b => some (beqB a b)
    | some (.int _), .int k a, .int k' b => match keq k k' with
      | true => some (ieq a b)
      | false => none
    | some .string, .str l n, .str l' n' => some (Nat.beq l l' && Nat.beq n n')
    | some (.pointer _), .nilp, .nilp => some true
    | some (.pointer _), .nilp, .ptr _ _ => some false
    | some (.pointer _), .ptr _ _, .nilp => some false
    | some (.pointer e), .ptr b o, .ptr b' o' => match szOf P e, Nat.beq b b' with
      | some (_ + 1), true => some (Nat.beq o o')
      | _, _ => none
    | some (.interface _), .nili, .nili => some true
    | some (.interface _), .nili, .iface _ _ => some false
    | some (.interface _), .iface _ _, .nili => some false
    | some (.slice _), .nils, .nils => some true
    | some (.slice _), .sl .., .nils => some false
    | some (.slice _), .nils, .sl .. => some false
    | some (.map _ _), .nilm, .nilm => some true
    | some (.map _ _), .map _, .nilm => some false
    | some (.map _ _), .nilm, .map _ => some false
    | some (.func ..), .nilf, .nilf => some true
    | some (.func ..), .fn .., .nilf => some false
    | some (.func ..), .nilf, .fn .. => some false
    | some (.struct fs), .agg xs, .agg ys => match P.stoodInHeld t with
      | true => none
      | false => xeqs P d xs ys fs.toList
    | _, _, _ => none
def xeqs (P : Program) : Nat → List XV → List XV → List Field → Option Bool
  | _, _, _, [] => some true
  | 0, _, _, _ => none
  | d + 1, xs, ys, f :: fs => match decide (f.name = "_"), xpart P f.type xs f.offset, xpart P f.type ys f.offset with
    | false, some a, some b => match xeq P d f.type a b with
      | some true => xeqs P d xs ys fs
      | r => r
    | _, _, _ => none
end
mutual
theorem xeq_ok : ∀ {d : Nat} {t : TypeId} {x y : XV} {v u : Value} {r : Bool} {d' : Nat}, xeq P d t x y = some r → VR β x v → VR β y u → d ≤ d' → (Op.equalIn d' t v u).run P w = .ok r w
  | 0, t, x, y, v, u, r, d', h, _, _, _ => by cases h
  | d + 1, t, x, y, v, u, r, 0, h, _, _, hd => by omega
  | d + 1, t, x, y, v, u, r, d' + 1, h, hv, hu, hd => by
    unfold xeq at h
    split at h
    · rename_i a b hun
      cases h
      rw [VR] at hv hu
      subst hv; subst hu
      rw [beqB_ok]
      simp [Op.equalIn, run_und hun]
    · rename_i k0 k a k' b hun
      split at h
      · rename_i hk
        have hk := keq_ok hk
        subst hk
        cases h
        rw [VR] at hv hu
        subst hv; subst hu
        rw [ieq_ok]
        simp [Op.equalIn, run_und hun]
      · cases h
    · rename_i l n l' n' hun
      cases h
      obtain ⟨s, rfl, hs⟩ := hv
      obtain ⟨s', rfl, hs'⟩ := hu
      rw [← hs.eq_iff hs']
      exact run_equalIn_string w d' t s s' hun
    · rename_i e hun
      cases h
      rw [VR] at hv hu
      subst hv; subst hu
      simp [Op.equalIn, run_und hun]
    · rename_i e b o hun
      cases h
      rw [VR] at hv
      subst hv
      obtain ⟨bi, _, rfl⟩ := hu
      simp [Op.equalIn, run_und hun]
    · rename_i e b o hun
      cases h
      rw [VR] at hu
      subst hu
      obtain ⟨bi, _, rfl⟩ := hv
      simp [Op.equalIn, run_und hun]
    · rename_i e b o b' o' hun
      split at h
      · rename_i n hn hb
        have hb := beq_t hb
        subst hb
        cases h
        obtain ⟨bi, h1, rfl⟩ := hv
        obtain ⟨bi', h2, rfl⟩ := hu
        rw [h1] at h2
        cases h2
        have e1 : ((⟨bi.rb, bi.base + o, none⟩ : Addr) == ⟨bi.rb, bi.base + o', none⟩) = Nat.beq o o' := by
          rw [Bool.eq_iff_iff]
          simp
        have e2 : (sameAddr ⟨bi.rb, bi.base + o, none⟩ ⟨bi.rb, bi.base + o', none⟩).run P w = .ok (Nat.beq o o') w := by
          rw [← e1]
          simp [sameAddr]
        simp only [Op.equalIn, run_und hun, Sem.run_bind, Result.andThen_ok, run_size hn]
        rw [if_pos (by simp)]
        exact e2
      · cases h
    · rename_i hun
      cases h
      rw [VR] at hv hu
      subst hv; subst hu
      simp [Op.equalIn, run_und hun]
    · rename_i hun
      cases h
      rw [VR] at hv
      subst hv
      obtain ⟨u, rfl, _⟩ := hu
      simp [Op.equalIn, run_und hun]
    · rename_i hun
      cases h
      rw [VR] at hu
      subst hu
      obtain ⟨u, rfl, _⟩ := hv
      simp [Op.equalIn, run_und hun]
    · rename_i hun
      cases h
      rw [VR] at hv hu
      subst hv; subst hu
      simp [Op.equalIn, run_und hun]
    · rename_i hun
      cases h
      rw [VR] at hu
      subst hu
      obtain ⟨bi, _, x, c, rfl, _⟩ := hv
      simp [Op.equalIn, run_und hun]
    · rename_i hun
      cases h
      rw [VR] at hv
      subst hv
      obtain ⟨bi, _, x, c, rfl, _⟩ := hu
      simp [Op.equalIn, run_und hun]
    · rename_i hun
      cases h
      rw [VR] at hv hu
      subst hv; subst hu
      simp [Op.equalIn, run_und hun]
    · rename_i hun
      cases h
      rw [VR] at hu
      subst hu
      obtain ⟨bi, _, rfl⟩ := hv
      simp [Op.equalIn, run_und hun]
    · rename_i hun
      cases h
      rw [VR] at hv
      subst hv
      obtain ⟨bi, _, rfl⟩ := hu
      simp [Op.equalIn, run_und hun]
    · rename_i hun
      cases h
      rw [VR] at hv hu
      subst hv; subst hu
      simp [Op.equalIn, run_und hun]
    · rename_i hun
      cases h
      rw [VR] at hu
      subst hu
      obtain ⟨fs, cs, rfl, _⟩ := hv
      simp [Op.equalIn, run_und hun]
    · rename_i hun
      cases h
      rw [VR] at hv
      subst hv
      obtain ⟨fs, cs, rfl, _⟩ := hu
      simp [Op.equalIn, run_und hun]
    · rename_i fs xs ys hun
      split at h
      · cases h
      · rename_i hst
        obtain ⟨vs, rfl, hvs⟩ := hv
        obtain ⟨us, rfl, hus⟩ := hu
        have hf : P.fieldsOf t = fs := by simp [Program.fieldsOf, hun]
        rw [run_equalIn_struct w d' t vs us (by rw [hf]; exact hun) hst, hf]
        exact xeqs_ok h hvs hus (by omega)
    · cases h
theorem xeqs_ok : ∀ {d : Nat} {xs ys : List XV} {fs : List Field} {vs us : Array Value} {r : Bool} {d' : Nat}, xeqs P d xs ys fs = some r → VRs β xs vs.toList → VRs β ys us.toList → d ≤ d' → (Op.eqFields d' vs us fs).run P w = .ok r w
  | 0, xs, ys, [], vs, us, r, d', h, _, _, _ => by unfold xeqs at h; cases h; rfl
  | d + 1, xs, ys, [], vs, us, r, d', h, _, _, _ => by unfold xeqs at h; cases h; rfl
  | 0, xs, ys, f :: fs, vs, us, r, d', h, _, _, _ => by unfold xeqs at h; cases h
  | d + 1, xs, ys, f :: fs, vs, us, r, d', h, hv, hu, hd => by
    unfold xeqs at h
    split at h
    · rename_i a b hnm ha hb
      have hnm : f.name ≠ "_" := by simpa using hnm
      obtain ⟨v, k1, k2⟩ := xpart_ok (w := w) hv ha
      obtain ⟨u, k3, k4⟩ := xpart_ok (w := w) hu hb
      unfold Op.eqFields
      rw [if_pos hnm]
      simp only [Sem.run_bind, k1, k3, Result.andThen_ok]
      split at h
      · rename_i hq
        rw [xeq_ok hq k2 k4 (by omega : d ≤ d')]
        simp only [Result.andThen_ok, Bool.not_true, Bool.false_eq_true, if_false]
        exact xeqs_ok h hv hu (by omega)
      · rename_i hq
        cases r with
        | true => exact absurd h hq
        | false =>
          rw [xeq_ok h k2 k4 (by omega : d ≤ d')]
          rfl
    · cases h
end
end
end
end Go.Proofs.YtohcohbbmjhnfaaGreatDoor.X
