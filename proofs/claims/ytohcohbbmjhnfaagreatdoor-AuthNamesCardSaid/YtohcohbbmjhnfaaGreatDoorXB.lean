/-
Closed runs: abstract values and memory, and what they stand for. Condition: none.
-/
import Derived.Test.YtohcohbbmjhnfaaGreatDoorXA
set_option linter.unusedVariables false
set_option linter.unusedSectionVars false
set_option linter.unusedSimpArgs false
namespace Go.Proofs.YtohcohbbmjhnfaaGreatDoor.X
open Go Go.RowKit
noncomputable section

/-! ### abstract values; addresses are of an abstract memory -/
inductive XV where
  | un
  | int (k : IntKind) (n : Int)
  | bool (b : Bool)
  | str (l n : Nat)
  | nilp
  | ptr (b o : Nat)
  | nils
  | sl (b o len cap k : Nat) (ex : Bool)
  | nilm
  | map (b : Nat)
  | nilf
  | fn (f : Fn) (first caps : List XV)
  | nili
  | iface (t : TypeId) (v : XV)
  | agg (cs : List XV)
  | tup (cs : List XV)
/-- Where an abstract block lies: a block, the place of its first cell, how many cells the block has. -/
structure BI where
  rb : Nat
  base : Nat
  size : Nat
abbrev Ren := Nat → Option BI
/-- A slice: of rows of k cells; its capacity is told, or at least so much; all of its cells are in the block. -/
def SlR (bi : BI) (o len cap k : Nat) (ex : Bool) (v : Value) : Prop :=
  ∃ x c, v = .slice (some ⟨bi.rb, x, none⟩) len c ∧ cap ≤ c ∧ len ≤ cap ∧ (ex = true → c = cap) ∧ (c ≠ 0 → x = bi.base + o ∧ x + c * k ≤ bi.size)
mutual
def VR (β : Ren) : XV → Value → Prop
  | .un, _ => True
  | .int k n, v => v = .int k n
  | .bool b, v => v = .bool b
  | .str l n, v => ∃ s, v = .string s ∧ StrR s l n
  | .nilp, v => v = .pointer none
  | .ptr b o, v => ∃ bi, β b = some bi ∧ v = .pointer (some ⟨bi.rb, bi.base + o, none⟩)
  | .nils, v => v = .slice none 0 0
  | .sl b o len cap k ex, v => ∃ bi, β b = some bi ∧ SlR bi o len cap k ex v
  | .nilm, v => v = .map none
  | .map b, v => ∃ bi, β b = some bi ∧ v = .map (some bi.rb)
  | .nilf, v => v = .nilFunc
  | .fn f first caps, v => ∃ fs cs, v = .func f fs cs ∧ VRs β first fs.toList ∧ VRs β caps cs.toList
  | .nili, v => v = .nilIface
  | .iface t x, v => ∃ u, v = .iface t u ∧ VR β x u
  | .agg cs, v => ∃ vs, v = .agg vs ∧ VRs β cs vs.toList
  | .tup cs, v => ∃ vs, v = .tuple vs ∧ VRs β cs vs.toList
def VRs (β : Ren) : List XV → List Value → Prop
  | [], vs => vs = []
  | x :: xs, vs => ∃ u us, vs = u :: us ∧ VR β x u ∧ VRs β xs us
end
/-- More blocks have a place. -/
def Ext (β β' : Ren) : Prop := ∀ b bi, β b = some bi → β' b = some bi
theorem Ext.refl (β : Ren) : Ext β β := fun _ _ h => h
theorem Ext.trans {β β' β'' : Ren} (h : Ext β β') (h' : Ext β' β'') : Ext β β'' := fun b bi e => h' b bi (h b bi e)
mutual
theorem VR.mono {β β' : Ren} (h : Ext β β') : ∀ (x : XV) {v : Value}, VR β x v → VR β' x v
  | .un, _, _ => trivial
  | .int _ _, _, e => e
  | .bool _, _, e => e
  | .str _ _, _, e => e
  | .nilp, _, e => e
  | .ptr _ _, _, ⟨bi, h1, h2⟩ => ⟨bi, h _ _ h1, h2⟩
  | .nils, _, e => e
  | .sl .., _, ⟨bi, h1, h2⟩ => ⟨bi, h _ _ h1, h2⟩
  | .nilm, _, e => e
  | .map _, _, ⟨bi, h1, h2⟩ => ⟨bi, h _ _ h1, h2⟩
  | .nilf, _, e => e
  | .fn _ a b, _, ⟨fs, cs, h1, h2, h3⟩ => ⟨fs, cs, h1, VRs.mono h a h2, VRs.mono h b h3⟩
  | .nili, _, e => e
  | .iface _ x, _, ⟨u, h1, h2⟩ => ⟨u, h1, VR.mono h x h2⟩
  | .agg cs, _, ⟨vs, h1, h2⟩ => ⟨vs, h1, VRs.mono h cs h2⟩
  | .tup cs, _, ⟨vs, h1, h2⟩ => ⟨vs, h1, VRs.mono h cs h2⟩
theorem VRs.mono {β β' : Ren} (h : Ext β β') : ∀ (xs : List XV) {vs : List Value}, VRs β xs vs → VRs β' xs vs
  | [], _, e => e
  | x :: xs, _, ⟨u, us, h1, h2, h3⟩ => ⟨u, us, h1, VR.mono h x h2, VRs.mono h xs h3⟩
end
theorem VRs.nil {β : Ren} : VRs β [] [] := rfl
theorem VRs.cons {β : Ren} {x : XV} {xs : List XV} {v : Value} {vs : List Value} (h : VR β x v) (hs : VRs β xs vs) : VRs β (x :: xs) (v :: vs) := ⟨v, vs, rfl, h, hs⟩
theorem VRs.length {β : Ren} : ∀ {xs : List XV} {vs : List Value}, VRs β xs vs → vs.length = xs.length
  | [], _, h => by rw [show _ = [] from h]; rfl
  | x :: xs, _, ⟨u, us, h1, _, h3⟩ => by rw [h1]; simp [VRs.length h3]
theorem VRs.get {β : Ren} : ∀ {xs : List XV} {vs : List Value}, VRs β xs vs → ∀ {i : Nat} {x : XV}, xs[i]? = some x → ∃ v, vs[i]? = some v ∧ VR β x v
  | [], _, h, i, x, e => by simp at e
  | y :: xs, _, ⟨u, us, h1, h2, h3⟩, i, x, e => by
    subst h1
    cases i with
    | zero => simp at e; subst e; exact ⟨u, rfl, h2⟩
    | succ i => simpa using VRs.get h3 (i := i) (x := x) (by simpa using e)
theorem VRs.of_get {β : Ren} : ∀ {xs : List XV} {vs : List Value}, vs.length = xs.length → (∀ (i : Nat) (x : XV) (v : Value), xs[i]? = some x → vs[i]? = some v → VR β x v) → VRs β xs vs
  | [], vs, hl, _ => by cases vs with | nil => rfl | cons => simp at hl
  | x :: xs, [], hl, _ => by simp at hl
  | x :: xs, v :: vs, hl, h => .cons (h 0 x v rfl rfl) (VRs.of_get (by simpa using hl) (fun i y u hy hu => h (i + 1) y u (by simpa using hy) (by simpa using hu)))
theorem VRs.append {β : Ren} : ∀ {xs ys : List XV} {vs us : List Value}, VRs β xs vs → VRs β ys us → VRs β (xs ++ ys) (vs ++ us)
  | [], ys, vs, us, h, h' => by rw [show vs = [] from h]; exact h'
  | x :: xs, ys, _, us, ⟨v, vs, h1, h2, h3⟩, h' => by subst h1; exact .cons h2 (VRs.append h3 h')
theorem VRs.drop {β : Ren} : ∀ {xs : List XV} {vs : List Value}, VRs β xs vs → ∀ n, VRs β (xs.drop n) (vs.drop n)
  | [], vs, h, n => by rw [show vs = [] from h]; simp [VRs]
  | x :: xs, _, ⟨v, vs, h1, h2, h3⟩, 0 => by subst h1; exact .cons h2 h3
  | x :: xs, _, ⟨v, vs, h1, h2, h3⟩, n + 1 => by subst h1; exact VRs.drop h3 n
theorem VRs.take {β : Ren} : ∀ {xs : List XV} {vs : List Value}, VRs β xs vs → ∀ n, VRs β (xs.take n) (vs.take n)
  | [], vs, h, n => by rw [show vs = [] from h]; simp [VRs]
  | x :: xs, _, ⟨v, vs, h1, h2, h3⟩, 0 => rfl
  | x :: xs, _, ⟨v, vs, h1, h2, h3⟩, n + 1 => by subst h1; exact .cons h2 (VRs.take h3 n)
/-- A value of one cell. -/
def XV.one : XV → Bool
  | .un | .agg _ | .tup _ => false
  | _ => true
theorem VR.one {β : Ren} {x : XV} {v : Value} (h : VR β x v) (hx : x.one = true) : v.oneCell' = true := by
  cases x <;> first
    | cases hx; done
    | (rw [VR] at h; subst h; rfl)
    | (rw [VR] at h; obtain ⟨s, rfl, _⟩ := h; rfl)
    | (rw [VR] at h; obtain ⟨s, _, rfl⟩ := h; rfl)
    | (rw [VR] at h; obtain ⟨s, _, x, c, rfl, _⟩ := h; rfl)
    | (rw [VR] at h; obtain ⟨s, t, rfl, _⟩ := h; rfl)
def allOne : List XV → Bool
  | [] => true
  | x :: xs => match x.one with
    | true => allOne xs
    | false => false
theorem allOne_get : ∀ {xs : List XV}, allOne xs = true → ∀ {i : Nat} {x : XV}, xs[i]? = some x → x.one = true
  | [], _, i, x, e => by simp at e
  | y :: xs, h, i, x, e => by
    unfold allOne at h
    split at h
    · rename_i h1
      cases i with
      | zero => simp at e; subst e; exact h1
      | succ i => exact allOne_get h (i := i) (by simpa using e)
    · cases h
/-- The cells of a value, all of one cell. -/
def XV.cells : XV → Option (List XV)
  | .un => none
  | .tup _ => none
  | .agg cs => match allOne cs with
    | true => some cs
    | false => none
  | x => some [x]
theorem VR.cells {β : Ren} {x : XV} {v : Value} {cs : List XV} (h : VR β x v) (hc : x.cells = some cs) : VRs β cs v.cells.toList ∧ allOne cs = true := by
  cases x with
  | un => cases hc
  | tup _ => cases hc
  | agg ds =>
    change (match allOne ds with
      | true => some ds
      | false => none) = some cs at hc
    split at hc
    · rename_i h1
      cases hc
      obtain ⟨vs, rfl, h2⟩ := h
      exact ⟨h2, h1⟩
    · cases hc
  | _ =>
    have hcs := hc
    simp only [XV.cells, Option.some.injEq] at hcs
    subst hcs
    have h1 := VR.one h rfl
    have : v.cells.toList = [v] := by cases v <;> first | rfl | cases h1
    rw [this]
    exact ⟨.cons h .nil, rfl⟩

/-! ### constants -/
def ofV0 : Value → Option XV
  | .int k n => some (.int k n)
  | .bool b => some (.bool b)
  | .string s => some (.str s.size (sn s.data.toList))
  | .pointer none => some .nilp
  | .slice none 0 0 => some .nils
  | .map none => some .nilm
  | .nilFunc => some .nilf
  | .nilIface => some .nili
  | .func f ⟨[]⟩ ⟨[]⟩ => some (.fn f [] [])
  | _ => none
theorem ofV0_ok {β : Ren} {v : Value} {x : XV} (h : ofV0 v = some x) : VR β x v := by
  unfold ofV0 at h
  split at h <;> first
    | (cases h; first | rfl | exact ⟨_, rfl, StrR.of _⟩ | exact ⟨_, _, rfl, rfl, rfl⟩)
    | cases h
def ofVs : List Value → Option (List XV)
  | [] => some []
  | v :: vs => match ofV0 v, ofVs vs with
    | some x, some xs => some (x :: xs)
    | _, _ => none
theorem ofVs_ok {β : Ren} : ∀ {vs : List Value} {xs : List XV}, ofVs vs = some xs → VRs β xs vs
  | [], xs, h => by cases h; rfl
  | v :: vs, xs, h => by
    unfold ofVs at h
    split at h
    · rename_i x ys h1 h2
      cases h
      exact .cons (ofV0_ok h1) (ofVs_ok h2)
    · cases h
def ofV : Value → Option XV
  | .agg vs => (ofVs vs.toList).map .agg
  | .tuple vs => (ofVs vs.toList).map .tup
  | .iface t v => (ofV0 v).map (.iface t)
  | v => ofV0 v
theorem ofV_ok {β : Ren} {v : Value} {x : XV} (h : ofV v = some x) : VR β x v := by
  unfold ofV at h
  split at h
  · rename_i vs
    cases h1 : ofVs vs.toList with
    | none => rw [h1] at h; cases h
    | some xs => rw [h1] at h; cases h; exact ⟨vs, rfl, ofVs_ok h1⟩
  · rename_i vs
    cases h1 : ofVs vs.toList with
    | none => rw [h1] at h; cases h
    | some xs => rw [h1] at h; cases h; exact ⟨vs, rfl, ofVs_ok h1⟩
  · rename_i t v
    cases h1 : ofV0 v with
    | none => rw [h1] at h; cases h
    | some y => rw [h1] at h; cases h; exact ⟨v, rfl, ofV0_ok h1⟩
  · exact ofV0_ok h

/-! ### memory -/
structure AE where
  key : XV
  val : XV
  born : Nat
inductive AO where
  | dead
  | cells (t : Tr XV) (n : Nat) (e : TypeId) (wr ex : Bool)
  | map (es : List AE) (clk : Nat)
  | miter (m : Option Nat) (since : Nat) (hd : Option Nat) (seen : List Nat) (last : Nat)
  | siter (l n pos : Nat)
  | umap (es : List AE) (clk : Nat)
  | lmap (es : List AE) (clk : Nat)
  | uiter (m since : Nat) (hd : Option Nat) (seen : List Nat) (last : Nat)
abbrev Heap := Tr AO
def AO.wr : AO → Bool
  | .cells _ _ _ wr _ => wr
  | .dead => false
  | _ => true
/-- The entries of a map. -/
def ERs (β : Ren) : List AE → List MapEntry → Prop
  | [], es => es = []
  | x :: xs, es => ∃ e r, es = e :: r ∧ VR β x.key e.key ∧ VR β x.val e.val ∧ e.born = x.born ∧ ERs β xs r
theorem ERs.mono {β β' : Ren} (h : Ext β β') : ∀ {xs : List AE} {es : List MapEntry}, ERs β xs es → ERs β' xs es
  | [], _, e => e
  | x :: xs, _, ⟨e, r, h1, h2, h3, h4, h5⟩ => ⟨e, r, h1, VR.mono h _ h2, VR.mono h _ h3, h4, ERs.mono h h5⟩
theorem ERs.length {β : Ren} : ∀ {xs : List AE} {es : List MapEntry}, ERs β xs es → es.length = xs.length
  | [], _, h => by rw [show _ = [] from h]; rfl
  | x :: xs, _, ⟨e, r, h1, _, _, _, h3⟩ => by rw [h1]; simp [ERs.length h3]
/-! ### maps whose entries' order and numbers are not known -/
def AE.strip (e : AE) : AE := ⟨e.key, e.val, 0⟩
/-- The number that a label stands for. -/
def baseOf (β : Ren) (id : Nat) : Nat := match β id with
  | some bi => bi.base
  | none => 0
def AE.real (β : Ren) (e : AE) : AE := ⟨e.key, e.val, baseOf β e.born⟩
structure Borns (l : List MapEntry) (clk : Nat) : Prop where
  nd : (l.map (·.born)).Nodup
  lt : ∀ m, m ∈ l → m.born < clk
theorem baseOf_ext {β β' : Ren} (h : Ext β β') {id : Nat} (hs : (β id).isSome = true) : baseOf β' id = baseOf β id := by
  unfold baseOf
  cases q : β id with
  | none => rw [q] at hs; cases hs
  | some bi => rw [h id bi q]
theorem isSome_ext {β β' : Ren} (h : Ext β β') {id : Nat} (hs : (β id).isSome = true) : (β' id).isSome = true := by
  cases q : β id with
  | none => rw [q] at hs; cases hs
  | some bi => rw [h id bi q]; rfl
theorem real_ext {β β' : Ren} (h : Ext β β') {es : List AE} (hs : ∀ e, e ∈ es → (β e.born).isSome = true) : es.map (AE.real β') = es.map (AE.real β) :=
  List.map_congr_left (fun e he => by unfold AE.real; rw [baseOf_ext h (hs e he)])
/-- What a cell holds: a value of one cell. -/
structure CellR (β : Ren) (x : XV) (v : Value) : Prop where
  v : VR β x v
  one : x.one = true
def FrozenFree (fr : Nat × Nat) (n : Nat) : Prop := ∀ o, o < n → (decide (fr.1 ≤ o) && decide (o < fr.2)) = false
def BR (β : Ren) (w : World) (bi : BI) : AO → Prop
  | .dead => True
  | .cells t n e wr ex => ∃ c fr, w.heap[bi.rb]? = some (.cells c e fr) ∧ c.size = bi.size ∧ bi.base + n ≤ bi.size ∧ (∀ i, i < n → ∃ x v, t.get i = some x ∧ c[bi.base + i]? = some v ∧ CellR β x v) ∧ (wr = true → FrozenFree fr bi.size) ∧ (ex = true → bi.base = 0 ∧ bi.size = n)
  | .map es clk => ∃ arr, w.heap[bi.rb]? = some (.map arr clk) ∧ ERs β es arr.toList
  | .miter m since hd seen last => bi.base = 0 ∧ ∃ mr arr, w.heap[bi.rb]? = some (.mapIter mr since arr last) ∧ (∀ x, x ∈ arr ↔ x ∈ seen) ∧ (∀ s, hd = some s → arr.back? = some s) ∧ (match m with
    | none => mr = none
    | some b => ∃ bm, β b = some bm ∧ mr = some bm.rb)
  | .siter l n pos => bi.base = 0 ∧ ∃ s, w.heap[bi.rb]? = some (.stringIter s pos) ∧ StrR s l n
  | .umap es clk => ∃ arr es', w.heap[bi.rb]? = some (.map arr clk) ∧ (es'.map AE.strip).Perm es ∧ ERs β es' arr.toList ∧ Borns arr.toList clk
  | .lmap es clk => ∃ arr es', w.heap[bi.rb]? = some (.map arr clk) ∧ es'.Perm (es.map (AE.real β)) ∧ (∀ e, e ∈ es → (β e.born).isSome = true) ∧ ERs β es' arr.toList ∧ Borns arr.toList clk
  | .uiter m since hd seen last => bi.base = 0 ∧ ∃ arr bm, w.heap[bi.rb]? = some (.mapIter (some bm.rb) since arr last) ∧ β m = some bm ∧ (∀ e, e ∈ seen → (β e).isSome = true) ∧ (∀ x, x ∈ arr ↔ ∃ e, e ∈ seen ∧ baseOf β e = x) ∧ (∀ s, hd = some s → s ∈ seen ∧ arr.back? = some (baseOf β s))
theorem BR.mono {β β' : Ren} {w w' : World} {bi : BI} (h : Ext β β') (hw : w'.heap[bi.rb]? = w.heap[bi.rb]?) : ∀ {o : AO}, BR β w bi o → BR β' w' bi o
  | .dead, _ => trivial
  | .cells t n e wr ex, ⟨c, fr, h1, h2, h3, h4, h5⟩ => ⟨c, fr, hw.trans h1, h2, h3, fun i hi => let ⟨x, v, k1, k2, k3⟩ := h4 i hi; ⟨x, v, k1, k2, VR.mono h _ k3.v, k3.one⟩, h5⟩
  | .map es clk, ⟨arr, h1, h2⟩ => ⟨arr, hw.trans h1, h2.mono h⟩
  | .miter none _ _ _ _, ⟨h0, mr, arr, h1, h2⟩ => ⟨h0, mr, arr, hw.trans h1, h2⟩
  | .miter (some b) _ _ _ _, ⟨h0, mr, arr, h1, k1, k2, bm, h2, h3⟩ => ⟨h0, mr, arr, hw.trans h1, k1, k2, bm, h _ _ h2, h3⟩
  | .siter .., ⟨h0, s, h1, h2⟩ => ⟨h0, s, hw.trans h1, h2⟩
  | .umap es clk, ⟨arr, es', h1, h2, h3, h4⟩ => ⟨arr, es', hw.trans h1, h2, h3.mono h, h4⟩
  | .lmap es clk, ⟨arr, es', h1, h2, h3, h4, h5⟩ => ⟨arr, es', hw.trans h1, by rw [real_ext h h3]; exact h2, fun e he => isSome_ext h (h3 e he), h4.mono h, h5⟩
  | .uiter m since hd seen last, ⟨h0, arr, bm, h1, h2, h3, h4, h5⟩ => ⟨h0, arr, bm, hw.trans h1, h _ _ h2, fun e he => isSome_ext h (h3 e he),
      fun x => (h4 x).trans ⟨fun ⟨e, he, q⟩ => ⟨e, he, (baseOf_ext h (h3 e he)).trans q⟩, fun ⟨e, he, q⟩ => ⟨e, he, (baseOf_ext h (h3 e he)).symm.trans q⟩⟩,
      fun s hs => ⟨(h5 s hs).1, by rw [baseOf_ext h (h3 s (h5 s hs).1)]; exact (h5 s hs).2⟩⟩
/-- Is the block alive? -/
def AO.live : AO → Bool
  | .dead => false
  | _ => true
/-- What memory holds that lay there before. -/
class Tabs where
  tb : Nat → World → Prop
  st : ∀ {B : Nat} {w w' : World}, tb B w → Below B w w' → tb B w'
  up : ∀ {B B' : Nat} {w : World}, tb B w → B ≤ B' → tb B' w
variable [Tabs]
/-- The abstract memory stands for the world's. 'B': what lay there before. -/
structure HR (B : Nat) (β : Ren) (h : Heap) (nx : Nat) (w : World) : Prop where
  blk : ∀ b bi o, β b = some bi → h.get b = some o → BR β w bi o
  lt : ∀ b bi, β b = some bi → b < nx ∧ bi.rb < w.heap.size
  inj : ∀ b b' bi bi' o o', β b = some bi → β b' = some bi' → h.get b = some o → h.get b' = some o' → o.live = true → o'.live = true → bi.rb = bi'.rb → b = b'
  new : ∀ b bi o, β b = some bi → h.get b = some o → o.wr = true → B ≤ bi.rb
  tb : Tabs.tb B w
/-- A step of the run: what has a place keeps it; what had none and is not new has none; old blocks (below the floor) are as they were. -/
structure Go_ (B fl : Nat) (β : Ren) (h : Heap) (nx : Nat) (w : World) (β' : Ren) (h' : Heap) (nx' : Nat) (w' : World) : Prop where
  ext : Ext β β'
  none : ∀ b bi, β' b = some bi → β b = some bi ∨ nx ≤ b
  le : nx ≤ nx'
  hr : HR B β' h' nx' w'
  below : Below B w w'
  size : w.heap.size ≤ w'.heap.size
  floor : ∀ b, b < fl → h'.get b = h.get b
theorem Go_.refl {B fl : Nat} {β : Ren} {h : Heap} {nx : Nat} {w : World} (hr : HR B β h nx w) : Go_ B fl β h nx w β h nx w :=
  ⟨Ext.refl β, fun _ _ e => .inl e, Nat.le_refl _, hr, Below.refl _ _, Nat.le_refl _, fun _ _ => rfl⟩
theorem Go_.trans {B fl : Nat} {β β' β'' : Ren} {h h' h'' : Heap} {nx nx' nx'' : Nat} {w w' w'' : World} (g : Go_ B fl β h nx w β' h' nx' w') (g' : Go_ B fl β' h' nx' w' β'' h'' nx'' w'') : Go_ B fl β h nx w β'' h'' nx'' w'' :=
  ⟨g.ext.trans g'.ext, fun b bi e => (g'.none b bi e).elim (g.none b bi) (fun q => .inr (Nat.le_trans g.le q)), Nat.le_trans g.le g'.le, g'.hr, g.below.trans g'.below, Nat.le_trans g.size g'.size, fun b hb => (g'.floor b hb).trans (g.floor b hb)⟩
/-- A new block. -/
theorem HR.alloc {B fl : Nat} {β : Ren} {h : Heap} {nx : Nat} {w w' : World} (hr : HR B β h nx w) {id : Nat} (hid : β id = none) (hfl : fl ≤ id) (hB : B ≤ w.heap.size) {nx' : Nat} (hlt : id < nx') (hnx : nx ≤ nx') (hge : nx ≤ id ∨ True) {o : AO} {bi : BI} (hbi : bi.rb = w.heap.size)
    (hw : ∀ k, k < w.heap.size → w'.heap[k]? = w.heap[k]?) (hs : w.heap.size < w'.heap.size) (hbelow : Below B w w') (hβ : nx ≤ id)
    (hb : ∀ β', Ext β β' → β' id = some bi → BR β' w' bi o) :
    ∃ β', β' id = some bi ∧ Go_ B fl β h nx w β' (h.set id o) nx' w' := by
  let β' : Ren := fun b => if b = id then some bi else β b
  have h1 : β' id = some bi := if_pos rfl
  have h2 : ∀ b, b ≠ id → β' b = β b := fun b e => if_neg e
  have hext : Ext β β' := fun b bi' e => by
    have : b ≠ id := fun q => by rw [q, hid] at e; cases e
    rw [h2 b this]; exact e
  refine ⟨β', h1, hext, fun b bi' e => ?_, hnx, ⟨fun b bi' o' e1 e2 => ?_, fun b bi' e => ?_, fun b b' c c' o1 o2 e1 e2 e3 e4 l1 l2 er => ?_, fun b bi' o' e1 e2 e3 => ?_, Tabs.st hr.tb hbelow⟩, hbelow, by omega, fun b hb' => Tr.get_set_ne _ _ _ _ (by omega)⟩
  · by_cases q : b = id
    · subst q; exact .inr hβ
    · rw [h2 b q] at e; exact .inl e
  · rcases Tr.get_set e2 with ⟨rfl, rfl⟩ | ⟨q, e3⟩
    · rw [h1] at e1; cases e1; exact hb β' hext h1
    · rw [h2 b q] at e1
      exact (hr.blk b bi' o' e1 e3).mono hext (hw _ (hr.lt b bi' e1).2)
  · by_cases q : b = id
    · subst q; rw [h1] at e; cases e; exact ⟨hlt, by omega⟩
    · rw [h2 b q] at e
      have := hr.lt b bi' e
      exact ⟨by omega, by omega⟩
  · by_cases q : b = id
    · by_cases q' : b' = id
      · rw [q, q']
      · exfalso
        subst q
        rw [h1] at e1; cases e1
        rw [h2 b' q'] at e2
        have := (hr.lt b' c' e2).2
        omega
    · rw [h2 b q] at e1
      by_cases q' : b' = id
      · exfalso
        subst q'
        rw [h1] at e2; cases e2
        have := (hr.lt b c e1).2
        omega
      · rw [h2 b' q'] at e2
        rw [Tr.get_set_ne _ _ _ _ q] at e3
        rw [Tr.get_set_ne _ _ _ _ q'] at e4
        exact hr.inj b b' c c' o1 o2 e1 e2 e3 e4 l1 l2 er
  · by_cases q : b = id
    · subst q; rw [h1] at e1; cases e1; omega
    · rw [h2 b q] at e1
      rw [Tr.get_set_ne _ _ _ _ q] at e2
      exact hr.new b bi' o' e1 e2 e3
/-- A block changes. -/
theorem HR.upd {B fl : Nat} {β : Ren} {h : Heap} {nx : Nat} {w w' : World} (hr : HR B β h nx w) {b : Nat} {bi : BI} {o o' : AO} (hb : β b = some bi) (ho : h.get b = some o) (hlive : o.live = true) (hfl : fl ≤ b) (hwr : o'.wr = true → B ≤ bi.rb)
    (hw : ∀ k, k ≠ bi.rb → w'.heap[k]? = w.heap[k]?) (hs : w'.heap.size = w.heap.size) (hbelow : Below B w w') (hB : BR β w' bi o') :
    Go_ B fl β h nx w β (h.set b o') nx w' := by
  refine ⟨Ext.refl β, fun _ _ e => .inl e, Nat.le_refl _, ⟨fun b1 bi1 o1 e1 e2 => ?_, fun b1 bi1 e => by rw [hs]; exact hr.lt b1 bi1 e, fun b1 b2 c c' o1 o2 e1 e2 e3 e4 l1 l2 er => ?_, fun b1 bi1 o1 e1 e2 e3 => ?_, Tabs.st hr.tb hbelow⟩, hbelow, by omega, fun b1 h1 => Tr.get_set_ne _ _ _ _ (by omega)⟩
  · rcases Tr.get_set e2 with ⟨rfl, rfl⟩ | ⟨q, e3⟩
    · rw [hb] at e1; cases e1; exact hB
    · cases hl : o1.live with
      | false => cases o1 <;> first | exact trivial | cases hl
      | true =>
        refine (hr.blk b1 bi1 o1 e1 e3).mono (Ext.refl β) (hw _ fun er => q ?_)
        exact hr.inj b1 b bi1 bi o1 o e1 hb e3 ho hl hlive er
  · have key : ∀ b3 o3, (h.set b o').get b3 = some o3 → o3.live = true → ∃ o4, h.get b3 = some o4 ∧ o4.live = true := fun b3 o3 e l => by
      rcases Tr.get_set e with ⟨rfl, rfl⟩ | ⟨q, e3⟩
      · exact ⟨o, ho, hlive⟩
      · exact ⟨o3, e3, l⟩
    obtain ⟨p1, q1, r1⟩ := key _ _ e3 l1
    obtain ⟨p2, q2, r2⟩ := key _ _ e4 l2
    exact hr.inj b1 b2 c c' p1 p2 e1 e2 q1 q2 r1 r2 er
  · rcases Tr.get_set e2 with ⟨rfl, rfl⟩ | ⟨q, e4⟩
    · rw [hb] at e1; cases e1; exact hwr e3
    · exact hr.new b1 bi1 o1 e1 e4 e3
/-- A block dies, and one that lies in the same memory takes its place. -/
theorem HR.pass {B fl : Nat} {β : Ren} {h : Heap} {nx : Nat} {w w' : World} (hr : HR B β h nx w) {b : Nat} {bi bi' : BI} {o o' : AO} (hb : β b = some bi) (ho : h.get b = some o) (hwr : o.wr = true) (hlive : o.live = true) (hfl : fl ≤ b) (hfl' : fl ≤ nx) (hrb : bi'.rb = bi.rb)
    (hw : ∀ k, k ≠ bi.rb → w'.heap[k]? = w.heap[k]?) (hs : w'.heap.size = w.heap.size) (hbelow : Below B w w') (hB : ∀ β', Ext β β' → β' nx = some bi' → BR β' w' bi' o') :
    ∃ β', β' nx = some bi' ∧ Go_ B fl β h nx w β' ((h.set b .dead).set nx o') (nx + 1) w' := by
  let β' : Ren := fun x => if x = nx then some bi' else β x
  have h1 : β' nx = some bi' := if_pos rfl
  have h2 : ∀ x, x ≠ nx → β' x = β x := fun x e => if_neg e
  have hbn : b ≠ nx := fun e => by have := (hr.lt b bi hb).1; omega
  have hext : Ext β β' := fun x c e => by
    have : x ≠ nx := fun q => by have := (hr.lt x c e).1; omega
    rw [h2 x this]; exact e
  have hget : ∀ x c, x ≠ nx → ((h.set b .dead).set nx o').get x = some c → (x = b ∧ c = .dead) ∨ (x ≠ b ∧ h.get x = some c) := fun x c q e => by
    rw [Tr.get_set_ne _ _ _ _ q] at e
    exact Tr.get_set e
  refine ⟨β', h1, hext, fun x c e => ?_, by omega, ⟨fun x c ox e1 e2 => ?_, fun x c e => ?_, fun x y c c' o1 o2 e1 e2 e3 e4 l1 l2 er => ?_, fun x c ox e1 e2 e3 => ?_, Tabs.st hr.tb hbelow⟩, hbelow, by omega, fun x hx => ?_⟩
  · by_cases q : x = nx
    · subst q; exact .inr (Nat.le_refl _)
    · rw [h2 x q] at e; exact .inl e
  · by_cases q : x = nx
    · subst q
      rw [h1] at e1; cases e1
      rw [Tr.get_set_eq _ _ _ _ e2]
      exact hB β' hext h1
    · rw [h2 x q] at e1
      rcases hget x ox q e2 with ⟨rfl, rfl⟩ | ⟨q2, e3⟩
      · trivial
      · cases hl : ox.live with
        | false => cases ox <;> first | exact trivial | cases hl
        | true => exact (hr.blk x c ox e1 e3).mono hext (hw _ fun er => q2 (hr.inj x b c bi ox o e1 hb e3 ho hl hlive er))
  · by_cases q : x = nx
    · subst q
      rw [h1] at e; cases e
      have := (hr.lt b bi hb).2
      exact ⟨by omega, by rw [hrb]; omega⟩
    · rw [h2 x q] at e
      have := hr.lt x c e
      exact ⟨by omega, by omega⟩
  · have key : ∀ x c ox, x ≠ nx → β' x = some c → ((h.set b .dead).set nx o').get x = some ox → ox.live = true → x ≠ b ∧ β x = some c ∧ h.get x = some ox := fun x c ox q e e' l => by
      rw [h2 x q] at e
      rcases hget x ox q e' with ⟨rfl, rfl⟩ | ⟨q2, e3⟩
      · cases l
      · exact ⟨q2, e, e3⟩
    have no : ∀ x c ox, x ≠ nx → β' x = some c → ((h.set b .dead).set nx o').get x = some ox → ox.live = true → c.rb ≠ bi.rb := fun x c ox q e e' l er => by
      obtain ⟨k1, k2, k3⟩ := key x c ox q e e' l
      exact k1 (hr.inj x b c bi ox o k2 hb k3 ho l hlive er)
    by_cases q : x = nx
    · by_cases q' : y = nx
      · rw [q, q']
      · exfalso
        subst q
        rw [h1] at e1; cases e1
        exact no y c' o2 q' e2 e4 l2 (by rw [← er, hrb])
    · by_cases q' : y = nx
      · exfalso
        subst q'
        rw [h1] at e2; cases e2
        exact no x c o1 q e1 e3 l1 (by rw [er, hrb])
      · obtain ⟨_, k2, k3⟩ := key x c o1 q e1 e3 l1
        obtain ⟨_, k5, k6⟩ := key y c' o2 q' e2 e4 l2
        exact hr.inj x y c c' o1 o2 k2 k5 k3 k6 l1 l2 er
  · by_cases q : x = nx
    · subst q
      rw [h1] at e1; cases e1
      rw [hrb]
      exact hr.new b bi o hb ho hwr
    · rw [h2 x q] at e1
      rcases hget x ox q e2 with ⟨rfl, rfl⟩ | ⟨q2, e4⟩
      · cases e3
      · exact hr.new x c ox e1 e4 e3
  · rw [Tr.get_set_ne _ _ _ _ (by omega), Tr.get_set_ne _ _ _ _ (by omega)]
end
end Go.Proofs.YtohcohbbmjhnfaaGreatDoor.X
