/-
Closed runs: operators, conversions, interfaces, the reading of maps. Condition: none.
-/
import Derived.Test.YtohcohbbmjhnfaaGreatDoorXF
import Derived.Laws.Bits64
import Derived.Laws.BitsLemmas
set_option linter.unusedVariables false
set_option linter.unusedSectionVars false
set_option linter.unusedSimpArgs false
namespace Go.Proofs.YtohcohbbmjhnfaaGreatDoor.X
open Go Go.RowKit
noncomputable section
variable [Tabs]
section
variable {P : Program} {B : Nat} {β : Ren} {h : Heap} {nx : Nat} {w : World}
/-! ### numbers -/
def inR (k : IntKind) (n : Int) : Bool :=
  match k, n with
  | .i64, .ofNat m => Nat.blt m 9223372036854775808
  | .i64, .negSucc m => Nat.blt m 9223372036854775808
  | .i32, .ofNat m => Nat.blt m 2147483648
  | .i32, .negSucc m => Nat.blt m 2147483648
  | .u64, .ofNat m => Nat.blt m 18446744073709551616
  | .u32, .ofNat m => Nat.blt m 4294967296
  | .u8, .ofNat m => Nat.blt m 256
  | _, _ => false
theorem inR_ok {k : IntKind} {n : Int} (h : inR k n = true) : k.wrap n = n := by
  unfold inR at h
  split at h
  · rw [IntKind.wrap_i64]; rw [blt_iff] at h; simp at h; simp only [Int.ofNat_eq_natCast]; omega
  · rw [IntKind.wrap_i64]; rw [blt_iff] at h; simp at h; omega
  · rw [IntKind.wrap_i32]; rw [blt_iff] at h; simp at h; simp only [Int.ofNat_eq_natCast]; omega
  · rw [IntKind.wrap_i32]; rw [blt_iff] at h; simp at h; omega
  · rw [IntKind.wrap_u64]; rw [blt_iff] at h; simp at h; simp only [Int.ofNat_eq_natCast]; omega
  · rw [IntKind.wrap_u32]; rw [blt_iff] at h; simp at h; simp only [Int.ofNat_eq_natCast]; omega
  · rw [IntKind.wrap_u8]; rw [blt_iff] at h; simp at h; simp only [Int.ofNat_eq_natCast]; omega
  · cases h
/-- A number, wrapped round. -/
def xw (k : IntKind) (n : Int) : Int :=
  match inR k n with
  | true => n
  | false => k.wrap n
theorem xw_ok (k : IntKind) (n : Int) : xw k n = k.wrap n := by
  unfold xw
  split
  · rename_i e; exact (inR_ok e).symm
  · rfl
def ilt : Int → Int → Bool
  | .ofNat a, .ofNat b => Nat.blt a b
  | .negSucc _, .ofNat _ => true
  | .ofNat _, .negSucc _ => false
  | .negSucc a, .negSucc b => Nat.blt b a
theorem ilt_ok (a b : Int) : ilt a b = decide (a < b) := by
  rw [Bool.eq_iff_iff]
  cases a <;> cases b <;> simp [ilt, blt_iff] <;> omega
/-- A number's bits. -/
def bitsOf (k : IntKind) (n : Int) : Nat :=
  match n with
  | .ofNat m => Nat.mod m (Nat.pow 2 k.bits)
  | n => (n % (2 ^ k.bits : Nat)).toNat
theorem bitsOf_ok (k : IntKind) (n : Int) : bitsOf k n = (BitVec.ofInt k.bits n).toNat := by
  rw [BitVec.toNat_ofInt]
  unfold bitsOf
  split
  · rename_i m
    show m % 2 ^ k.bits = ((m : Int) % ((2 ^ k.bits : Nat) : Int)).toNat
    rw [← Int.natCast_emod, Int.toNat_natCast]
  · rfl
def xbits (op : BinOp) (k : IntKind) (a b : Int) : Option Int :=
  match op with
  | .and => some (xw k (.ofNat (Nat.land (bitsOf k a) (bitsOf k b))))
  | .or => some (xw k (.ofNat (Nat.lor (bitsOf k a) (bitsOf k b))))
  | .xor => some (xw k (.ofNat (Nat.xor (bitsOf k a) (bitsOf k b))))
  | .andNot => some (xw k (.ofNat (Nat.land (bitsOf k a) (Nat.sub (Nat.sub (Nat.pow 2 k.bits) 1) (bitsOf k b)))))
  | _ => none
theorem xbits_ok {op : BinOp} {k : IntKind} {a b r : Int} (h : xbits op k a b = some r) (w : World) : (Op.intBits op k a b).run P w = .ok (.int k r) w := by
  unfold xbits at h
  split at h
  · cases h
    have : (bitsOf k a).land (bitsOf k b) = (BitVec.ofInt k.bits a &&& BitVec.ofInt k.bits b).toNat := by rw [bitsOf_ok, bitsOf_ok]; rfl
    rw [this, xw_ok]
    rfl
  · cases h
    have : (bitsOf k a).lor (bitsOf k b) = (BitVec.ofInt k.bits a ||| BitVec.ofInt k.bits b).toNat := by rw [bitsOf_ok, bitsOf_ok]; rfl
    rw [this, xw_ok]
    rfl
  · cases h
    have : (bitsOf k a).xor (bitsOf k b) = (BitVec.ofInt k.bits a ^^^ BitVec.ofInt k.bits b).toNat := by rw [bitsOf_ok, bitsOf_ok]; rfl
    rw [this, xw_ok]
    rfl
  · cases h
    have : (bitsOf k a).land (Nat.sub (Nat.sub (Nat.pow 2 k.bits) 1) (bitsOf k b)) = (BitVec.ofInt k.bits a &&& ~~~ BitVec.ofInt k.bits b).toNat := by
      rw [bitsOf_ok, bitsOf_ok, BitVec.toNat_and, BitVec.toNat_not]
      rfl
    rw [this, xw_ok]
    rfl
  · cases h
def xarith (op : BinOp) (k : IntKind) (a b : Int) : Option XV :=
  match op with
  | .add => some (.int k (xw k (a + b)))
  | .sub => some (.int k (xw k (a - b)))
  | .mul => some (.int k (xw k (a * b)))
  | .quo => match ieq b 0 with
    | true => none
    | false => some (.int k (xw k (a.tdiv b)))
  | .rem => match ieq b 0 with
    | true => none
    | false => some (.int k (a.tmod b))
  | .eql => some (.bool (ieq a b))
  | .neq => some (.bool (not (ieq a b)))
  | .lss => some (.bool (ilt a b))
  | .leq => some (.bool (not (ilt b a)))
  | .gtr => some (.bool (ilt b a))
  | .geq => some (.bool (not (ilt a b)))
  | op => match xbits op k a b with
    | some r => some (.int k r)
    | none => none
def xshift (op : BinOp) (k : IntKind) (a : Int) (b : Int) : Option XV :=
  match op, b with
  | .shl, .ofNat n => match Nat.ble n k.bits with
    | true => some (.int k (xw k (a * .ofNat (Nat.pow 2 n))))
    | false => none
  | .shr, .ofNat n => match Nat.ble n k.bits with
    | true => some (.int k (a.fdiv (.ofNat (Nat.pow 2 n))))
    | false => none
  | _, _ => none
def isShift : BinOp → Bool
  | .shl | .shr => true
  | _ => false
theorem ieq0 {b : Int} (h : ieq b 0 = false) : b ≠ 0 := by
  rw [ieq_ok] at h
  simpa using h
theorem xarith_ok {op : BinOp} {t : TypeId} {k : IntKind} {a b : Int} {y : XV} (hs : isShift op = false) (h : xarith op k a b = some y) : ∃ v, (binOp op t (.int k a) (.int k b)).run P w = .ok v w ∧ VR β y v := by
  have vi : ∀ (n m : Int), n = m → VR β (.int k n) (.int k m) := fun n m e => by rw [VR, e]
  have vb : ∀ (c d : Bool), c = d → VR β (.bool c) (.bool d) := fun c d e => by rw [VR, e]
  cases op with
  | shl => cases hs
  | shr => cases hs
  | add => cases h; exact ⟨.int k (k.wrap (a + b)), by simp [binOp, Op.intArith], vi _ _ (xw_ok _ _)⟩
  | sub => cases h; exact ⟨.int k (k.wrap (a - b)), by simp [binOp, Op.intArith], vi _ _ (xw_ok _ _)⟩
  | mul => cases h; exact ⟨.int k (k.wrap (a * b)), by simp [binOp, Op.intArith], vi _ _ (xw_ok _ _)⟩
  | quo =>
    simp only [xarith] at h
    split at h
    · cases h
    · rename_i e
      cases h
      exact ⟨.int k (k.wrap (a.tdiv b)), by simp [binOp, Op.intDiv, ieq0 e], vi _ _ (xw_ok _ _)⟩
  | rem =>
    simp only [xarith] at h
    split at h
    · cases h
    · rename_i e
      cases h
      exact ⟨.int k (a.tmod b), by simp [binOp, Op.intDiv, ieq0 e], vi _ _ rfl⟩
  | eql => cases h; exact ⟨.bool (a == b), by simp [binOp, Op.intCmp], vb _ _ (ieq_ok _ _)⟩
  | neq => cases h; exact ⟨.bool (a != b), by simp [binOp, Op.intCmp], vb _ _ (by rw [ieq_ok]; rfl)⟩
  | lss => cases h; exact ⟨.bool (decide (a < b)), by simp [binOp, Op.intCmp], vb _ _ (ilt_ok _ _)⟩
  | leq => cases h; exact ⟨.bool (decide (a ≤ b)), by simp [binOp, Op.intCmp], vb _ _ (by rw [ilt_ok, Bool.eq_iff_iff]; simp)⟩
  | gtr => cases h; exact ⟨.bool (decide (a > b)), by simp [binOp, Op.intCmp], vb _ _ (ilt_ok _ _)⟩
  | geq => cases h; exact ⟨.bool (decide (a ≥ b)), by simp [binOp, Op.intCmp], vb _ _ (by rw [ilt_ok, Bool.eq_iff_iff]; simp)⟩
  | and =>
    simp only [xarith] at h
    split at h
    · rename_i r hr
      cases h
      exact ⟨.int k r, by simp [binOp]; exact xbits_ok hr w, vi _ _ rfl⟩
    · cases h
  | or =>
    simp only [xarith] at h
    split at h
    · rename_i r hr
      cases h
      exact ⟨.int k r, by simp [binOp]; exact xbits_ok hr w, vi _ _ rfl⟩
    · cases h
  | xor =>
    simp only [xarith] at h
    split at h
    · rename_i r hr
      cases h
      exact ⟨.int k r, by simp [binOp]; exact xbits_ok hr w, vi _ _ rfl⟩
    · cases h
  | andNot =>
    simp only [xarith] at h
    split at h
    · rename_i r hr
      cases h
      exact ⟨.int k r, by simp [binOp]; exact xbits_ok hr w, vi _ _ rfl⟩
    · cases h
theorem xshift_ok {op : BinOp} {t : TypeId} {k k' : IntKind} {a b : Int} {y : XV} (h : xshift op k a b = some y) : ∃ v, (binOp op t (.int k a) (.int k' b)).run P w = .ok v w ∧ VR β y v := by
  unfold xshift at h
  split at h
  · rename_i n
    split at h
    · rename_i e
      have e := Nat.le_of_ble_eq_true e
      cases h
      refine ⟨.int k (k.wrap (a * 2 ^ n)), ?_, ?_⟩
      · have c : ¬ (Int.ofNat n < 0) := by simp
        have m : min (Int.ofNat n).toNat k.bits = n := by show min n k.bits = n; omega
        simp only [binOp, Op.shift, if_neg c, m, Sem.run_pure]
      · rw [VR, xw_ok]
        congr 2
    · cases h
  · rename_i n
    split at h
    · rename_i e
      have e := Nat.le_of_ble_eq_true e
      cases h
      refine ⟨.int k (a.fdiv (2 ^ n)), ?_, ?_⟩
      · have c : ¬ (Int.ofNat n < 0) := by simp
        have m : min (Int.ofNat n).toNat k.bits = n := by show min n k.bits = n; omega
        simp only [binOp, Op.shift, if_neg c, m, Sem.run_pure]
      · rw [VR]
        congr 1
    · cases h
  · cases h
def xstr (op : BinOp) (l n l' n' : Nat) : Option XV :=
  match op with
  | .add => match Nat.ble (Nat.add l l') 1000000 with
    | true => some (.str (Nat.add l l') (Nat.add (Nat.mul n (Nat.pow 256 l')) n'))
    | false => none
  | .eql => some (.bool (Nat.beq l l' && Nat.beq n n'))
  | .neq => some (.bool (not (Nat.beq l l' && Nat.beq n n')))
  | .lss => some (.bool (ltS l n l' n'))
  | .leq => some (.bool (ltS l n l' n' || (Nat.beq l l' && Nat.beq n n')))
  | .gtr => some (.bool (not (ltS l n l' n' || (Nat.beq l l' && Nat.beq n n'))))
  | .geq => some (.bool (not (ltS l n l' n')))
  | _ => none
theorem xstr_ok {op : BinOp} {t : TypeId} {s s' : ByteArray} {l n l' n' : Nat} {y : XV} (hs : StrR s l n) (hs' : StrR s' l' n') (h : xstr op l n l' n' = some y) : ∃ v, (binOp op t (.string s) (.string s')).run P w = .ok v w ∧ VR β y v := by
  have vb : ∀ (c d : Bool), d = c → VR β (.bool c) (.bool d) := fun c d e => by rw [VR, e]
  cases op with
  | add =>
    simp only [xstr] at h
    split at h
    · rename_i e
      have e : l + l' ≤ 1000000 := Nat.le_of_ble_eq_true e
      cases h
      refine ⟨.string (s ++ s'), ?_, _, rfl, hs.append hs'⟩
      have c : ¬ (((s.size + s'.size : Nat) : Int) > IntKind.i64.max) := by
        rw [hs.l, hs'.l]
        have : IntKind.i64.max = 9223372036854775807 := by decide
        rw [this]
        omega
      simp only [binOp, Op.stringOp, if_neg c, Sem.run_pure]
    · cases h
  | eql => cases h; exact ⟨.bool (s.toList == s'.toList), by simp [binOp, Op.stringOp], vb _ _ (hs.eq_iff hs')⟩
  | neq => cases h; exact ⟨.bool (!(s.toList == s'.toList)), by simp [binOp, Op.stringOp], vb _ _ (by rw [hs.eq_iff hs'])⟩
  | lss => cases h; exact ⟨.bool (Op.bytesLess s.toList s'.toList), by simp [binOp, Op.stringOp], vb _ _ (hs.lt hs')⟩
  | leq => cases h; exact ⟨.bool (Op.bytesLess s.toList s'.toList || s.toList == s'.toList), by simp [binOp, Op.stringOp], vb _ _ (by rw [hs.lt hs', hs.eq_iff hs'])⟩
  | gtr => cases h; exact ⟨.bool (!(Op.bytesLess s.toList s'.toList || s.toList == s'.toList)), by simp [binOp, Op.stringOp], vb _ _ (by rw [hs.lt hs', hs.eq_iff hs'])⟩
  | geq => cases h; exact ⟨.bool (!(Op.bytesLess s.toList s'.toList)), by simp [binOp, Op.stringOp], vb _ _ (by rw [hs.lt hs'])⟩
  | _ => cases h
def isConst : Operand → Bool
  | .const _ => true
  | _ => false
/-- May two values be compared without a question? -/
def guardOK (P : Program) (t : TypeId) (x y : Operand) (a b : XV) : Bool :=
  match a, b with
  | .nili, .nili => isConst x || isConst y
  | .agg _, .agg _ => not (P.eqGuardType P.depth t)
  | .un, _ => false
  | _, .un => false
  | _, _ => true
theorem guard_ok {op : BinOp} {t : TypeId} {x y : Operand} {a b : XV} {v u : Value} (h : guardOK P t x y a b = true) (hv : VR β a v) (hu : VR β b u) : (eqGuard op t x y v u).run P w = .ok () w := by
  have base : (∀ q : v = .nilIface, u ≠ .nilIface) → (∀ vs us, v = .agg vs → u ≠ .agg us) → (eqGuard op t x y v u).run P w = .ok () w := by
    intro h1 h2
    cases op <;> try rfl
    all_goals (cases v <;> cases u <;> first | rfl | exact absurd rfl (h1 rfl) | exact absurd rfl (h2 _ _ rfl))
  by_cases hn : v = .nilIface ∧ u = .nilIface
  · obtain ⟨rfl, rfl⟩ := hn
    have ha : a = .nili := by
      cases a <;> first | rfl | (cases h; done) | (exfalso; rw [VR] at hv; first | (cases hv; done) | (obtain ⟨_, q, _⟩ := hv; cases q; done) | (obtain ⟨_, _, q⟩ := hv; cases q; done) | (obtain ⟨_, _, _, _, q, _⟩ := hv; cases q; done) | (obtain ⟨_, _, q, _⟩ := hv; cases q; done))
    have hb : b = .nili := by
      subst ha
      cases b <;> first | rfl | (cases h; done) | (exfalso; rw [VR] at hu; first | (cases hu; done) | (obtain ⟨_, q, _⟩ := hu; cases q; done) | (obtain ⟨_, _, q⟩ := hu; cases q; done) | (obtain ⟨_, _, _, _, q, _⟩ := hu; cases q; done) | (obtain ⟨_, _, q, _⟩ := hu; cases q; done))
    subst ha; subst hb
    have hc : (isConst x || isConst y) = true := h
    cases op <;> try rfl
    all_goals (cases x <;> cases y <;> first | rfl | cases hc)
  · by_cases ha : (∃ vs, v = .agg vs) ∧ ∃ us, u = .agg us
    · obtain ⟨⟨vs, rfl⟩, us, rfl⟩ := ha
      have ha : ∃ xs, a = .agg xs := by
        cases a <;> first | exact ⟨_, rfl⟩ | (cases h; done) | (exfalso; rw [VR] at hv; first | (cases hv; done) | (obtain ⟨_, q, _⟩ := hv; cases q; done) | (obtain ⟨_, _, q⟩ := hv; cases q; done) | (obtain ⟨_, _, _, _, q, _⟩ := hv; cases q; done) | (obtain ⟨_, _, q, _⟩ := hv; cases q; done))
      obtain ⟨xs, rfl⟩ := ha
      have hb : ∃ ys, b = .agg ys := by
        cases b <;> first | exact ⟨_, rfl⟩ | (cases h; done) | (exfalso; rw [VR] at hu; first | (cases hu; done) | (obtain ⟨_, q, _⟩ := hu; cases q; done) | (obtain ⟨_, _, q⟩ := hu; cases q; done) | (obtain ⟨_, _, _, _, q, _⟩ := hu; cases q; done) | (obtain ⟨_, _, q, _⟩ := hu; cases q; done))
      obtain ⟨ys, rfl⟩ := hb
      have hg : P.eqGuardType P.depth t = false := by simpa [guardOK] using h
      exact run_eqGuard_agg w op t x y vs us hg
    · exact base (fun e1 e2 => hn ⟨e1, e2⟩) (fun vs us e1 e2 => ha ⟨⟨vs, e1⟩, us, e2⟩)
def xbin (P : Program) (op : BinOp) (t : TypeId) (x y : Operand) (a b : XV) : Option XV :=
  match a, b with
  | .int k m, .int k' n => match isShift op with
    | true => xshift op k m n
    | false => match keq k k' with
      | true => xarith op k m n
      | false => none
  | .str l n, .str l' n' => xstr op l n l' n'
  | .un, _ => none
  | _, .un => none
  | a, b => match guardOK P t x y a b with
    | true => match op with
      | .eql => match xeq P 20 t a b with
        | some r => some (.bool r)
        | none => none
      | .neq => match xeq P 20 t a b with
        | some r => some (.bool (not r))
        | none => none
      | _ => none
    | false => none
/-- Not two numbers, nor two texts. -/
theorem binOp_eq {t : TypeId} {v u : Value} (h1 : ∀ k a k' b, v = .int k a → u ≠ .int k' b) (h2 : ∀ k a k' b, v = .float k a → u ≠ .float k' b) (h3 : ∀ k a a' k' b b', v = .complex k a a' → u ≠ .complex k' b b') (h4 : ∀ s s', v = .string s → u ≠ .string s') :
    binOp .eql t v u = (do pure (.bool (← Op.equal t v u))) ∧ binOp .neq t v u = (do pure (.bool (!(← Op.equal t v u)))) := by
  cases v <;> cases u <;> first
    | exact ⟨rfl, rfl⟩
    | exact absurd rfl (h1 _ _ _ _ rfl)
    | exact absurd rfl (h2 _ _ _ _ rfl)
    | exact absurd rfl (h3 _ _ _ _ _ _ rfl)
    | exact absurd rfl (h4 _ _ rfl)
theorem VR.int_inv {x : XV} {k : IntKind} {n : Int} (h : VR β x (.int k n)) : x = .un ∨ x = .int k n := by
  cases x <;> first | exact .inl rfl | (rw [VR] at h; first | (cases h; done) | (right; cases h; rfl) | (obtain ⟨_, q, _⟩ := h; cases q; done) | (obtain ⟨_, _, q⟩ := h; cases q; done) | (obtain ⟨_, _, _, _, q, _⟩ := h; cases q; done) | (obtain ⟨_, _, q, _⟩ := h; cases q; done))
theorem VR.float_inv {x : XV} {k : FloatKind} {n : Nat} (h : VR β x (.float k n)) : x = .un := by
  cases x <;> first | rfl | (rw [VR] at h; first | (cases h; done) | (obtain ⟨_, q, _⟩ := h; cases q; done) | (obtain ⟨_, _, q⟩ := h; cases q; done) | (obtain ⟨_, _, _, _, q, _⟩ := h; cases q; done) | (obtain ⟨_, _, q, _⟩ := h; cases q; done))
theorem VR.complex_inv {x : XV} {k : FloatKind} {n m : Nat} (h : VR β x (.complex k n m)) : x = .un := by
  cases x <;> first | rfl | (rw [VR] at h; first | (cases h; done) | (obtain ⟨_, q, _⟩ := h; cases q; done) | (obtain ⟨_, _, q⟩ := h; cases q; done) | (obtain ⟨_, _, _, _, q, _⟩ := h; cases q; done) | (obtain ⟨_, _, q, _⟩ := h; cases q; done))
theorem VR.string_inv {x : XV} {s : ByteArray} (h : VR β x (.string s)) : x = .un ∨ ∃ l n, x = .str l n := by
  cases x <;> first | exact .inl rfl | exact .inr ⟨_, _, rfl⟩ | (rw [VR] at h; first | (cases h; done) | (obtain ⟨_, q, _⟩ := h; cases q; done) | (obtain ⟨_, _, q⟩ := h; cases q; done) | (obtain ⟨_, _, _, _, q, _⟩ := h; cases q; done) | (obtain ⟨_, _, q, _⟩ := h; cases q; done))
theorem xbin_ok {op : BinOp} {t : TypeId} {x y : Operand} {a b z : XV} {v u : Value} (hv : VR β a v) (hu : VR β b u) (hx : xbin P op t x y a b = some z) : RunV P w β (do eqGuard op t x y v u; binOp op t v u) z := by
  unfold xbin at hx
  split at hx
  · rename_i k m k' n
    rw [VR] at hv hu
    subst hv; subst hu
    have hg : (eqGuard op t x y (.int k m) (.int k' n)).run P w = .ok () w := guard_ok (β := β) (a := .int k m) (b := .int k' n) rfl rfl rfl
    split at hx
    · obtain ⟨v, h1, h2⟩ := xshift_ok (P := P) (w := w) (β := β) (t := t) (k' := k') hx
      exact ⟨v, by simp [hg, h1], h2⟩
    · rename_i hs
      split at hx
      · rename_i hk
        have hk := keq_ok hk
        subst hk
        obtain ⟨v, h1, h2⟩ := xarith_ok (P := P) (w := w) (β := β) (t := t) hs hx
        exact ⟨v, by simp [hg, h1], h2⟩
      · cases hx
  · rename_i l n l' n'
    have hg := guard_ok (P := P) (w := w) (op := op) (t := t) (x := x) (y := y) (a := .str l n) (b := .str l' n') rfl hv hu
    obtain ⟨s, rfl, hs⟩ := hv
    obtain ⟨s', rfl, hs'⟩ := hu
    obtain ⟨v, h1, h2⟩ := xstr_ok (P := P) (w := w) (β := β) (t := t) hs hs' hx
    exact ⟨v, by simp [hg, h1], h2⟩
  · cases hx
  · cases hx
  · rename_i n3 n4 n1 n2
    split at hx
    · rename_i hgd
      have hg := guard_ok (P := P) (w := w) (op := op) hgd hv hu
      have hb := binOp_eq (t := t) (v := v) (u := u)
        (fun k c k' d e1 e2 => by
          subst e1; subst e2
          rcases hv.int_inv with e | e
          · exact n3 e
          · rcases hu.int_inv with e' | e'
            · exact n4 e'
            · exact n1 _ _ _ _ e e')
        (fun k c k' d e1 e2 => by subst e1; exact n3 hv.float_inv)
        (fun k c c' k' d d' e1 e2 => by subst e1; exact n3 hv.complex_inv)
        (fun s s' e1 e2 => by
          subst e1; subst e2
          rcases hv.string_inv with e | ⟨_, _, e⟩
          · exact n3 e
          · rcases hu.string_inv with e' | ⟨_, _, e'⟩
            · exact n4 e'
            · exact n2 _ _ _ _ e e')
      split at hx
      · split at hx
        · rename_i r hr
          cases hx
          have hq := xeq_ok (w := w) hr hv hu (d' := Op.maxDepth) (by unfold Op.maxDepth; omega)
          refine ⟨.bool r, ?_, rfl⟩
          simp only [Sem.run_bind, hg, Result.andThen_ok, hb.1, Op.equal, hq, Sem.run_pure]
        · cases hx
      · split at hx
        · rename_i r hr
          cases hx
          have hq := xeq_ok (w := w) hr hv hu (d' := Op.maxDepth) (by unfold Op.maxDepth; omega)
          refine ⟨.bool (!r), ?_, rfl⟩
          simp only [Sem.run_bind, hg, Result.andThen_ok, hb.2, Op.equal, hq, Sem.run_pure]
        · cases hx
      · cases hx
    · cases hx
def xun (op : UnOp) (x : XV) : Option XV :=
  match op, x with
  | .not, .bool b => some (.bool (not b))
  | .neg, .int k n => some (.int k (xw k (0 - n)))
  | .xor, .int k n => match xbits .xor k (if k.signed then -1 else k.max) n with
    | some r => some (.int k r)
    | none => none
  | _, _ => none
theorem xun_ok {op : UnOp} {x y : XV} {v : Value} (hv : VR β x v) (hx : xun op x = some y) : RunV P w β (Op.unary op v) y := by
  unfold xun at hx
  split at hx
  · cases hx
    rw [VR] at hv; subst hv
    exact ⟨_, rfl, rfl⟩
  · cases hx
    rw [VR] at hv; subst hv
    exact ⟨_, rfl, by rw [VR, xw_ok]⟩
  · split at hx
    · rename_i r hr
      cases hx
      rw [VR] at hv; subst hv
      exact ⟨_, xbits_ok hr w, rfl⟩
    · cases hx
  · cases hx
end
end
end Go.Proofs.YtohcohbbmjhnfaaGreatDoor.X
