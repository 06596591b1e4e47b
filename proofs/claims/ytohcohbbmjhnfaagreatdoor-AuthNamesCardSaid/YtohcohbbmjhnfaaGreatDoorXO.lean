/-
Closed runs: the operations that change memory, and calls. Condition: none.
-/
import Derived.Test.YtohcohbbmjhnfaaGreatDoorXN
import Derived.Test.YtohcohbbmjhnfaaGreatDoorXMc
import Derived.Lib.Bytealg
set_option linter.unusedVariables false
set_option linter.unusedSectionVars false
set_option linter.unusedSimpArgs false
namespace Go.Proofs.YtohcohbbmjhnfaaGreatDoor.X
open Go Go.RowKit
noncomputable section
variable [Tabs]
/-- Functions without a body. -/
inductive Ek where
  | same
  | indexByte
  | compare
  | count
def Ek.sem : Ek → Array Value → Sem Value
  | .same => Extern.AbiNoEscape.same
  | .indexByte => Extern.BytealgIndexByte.indexByte
  | .compare => Extern.BytealgCompare.compare
  | .count => Extern.BytealgCount.count
/-- The first place of a byte, from some place on. -/
def idxB (l n c : Nat) : Nat → Nat → Int
  | _, 0 => .negSucc 0
  | i, k + 1 => match Nat.beq (Nat.mod (Nat.div n (Nat.pow 256 (Nat.sub (Nat.sub l 1) i))) 256) c with
    | true => .ofNat i
    | false => idxB l n c (Nat.succ i) k
/-- How often a byte occurs. -/
def cntB (c : Nat) (l n : Nat) : Nat := Nat.rec (motive := fun _ => Nat → Nat) (fun _ => 0) (fun _ ih n => Nat.add (ih (Nat.div n 256)) (Bool.rec (motive := fun _ => Nat) 0 1 (Nat.beq (Nat.mod n 256) c))) l n
def cmpB (l n l' n' : Nat) : Int := match ltS l n l' n' with
  | true => .negSucc 0
  | false => match ltS l' n' l n with
    | true => .ofNat 1
    | false => .ofNat 0
def Ek.run : Ek → List XV → Option XV
  | .same, [x] => some x
  | .indexByte, [.str l n, .int .u8 (.ofNat c)] => match Nat.blt c 256 with
    | true => some (.int .i64 (idxB l n c 0 l))
    | false => none
  | .compare, [.str l n, .str l' n'] => some (.int .i64 (cmpB l n l' n'))
  | .count, [.str l n, .int .u8 (.ofNat c)] => match Nat.blt c 256 with
    | true => some (.int .i64 (.ofNat (cntB c l n)))
    | false => none
  | _, _ => none
def Callable (P : Program) (f : FuncId) : Prop := ∃ fn, P.funcs[f]? = some fn ∧ (fn.name == "runtime.NumGoroutine") = false ∧ fn.body.isSome = true
def ExtOK (P : Program) (ext : FuncId → Option Ek) : Prop := ∀ f k, ext f = some k → ∃ fn, P.funcs[f]? = some fn ∧ (fn.name == "runtime.NumGoroutine") = false ∧ fn.body.isNone = true ∧ Extern.findNext fn = none ∧ Extern.find fn = some k.sem
abbrev Outs := List (XV × Heap × Nat)
abbrev CallF := Nat → FuncId → List XV → Heap → Nat → Option Outs
def CallOK (P : Program) (call : CallF) : Prop :=
  ∀ {B fl : Nat} {f : FuncId} {xs : List XV} {h : Heap} {nx : Nat} {outs : Outs}, call fl f xs h nx = some outs → ∀ {β : Ren} {w : World} {vs : List Value}, HR B β h nx w → B ≤ w.heap.size → fl ≤ nx → VRs β xs vs →
    Callable P f ∧ Calls P f vs.toArray w fun e w' => ∃ x h' nx', (x, h', nx') ∈ outs ∧ ∃ v β', e = .returned v ∧ Go_ B fl β h nx w β' h' nx' w' ∧ VR β' x v
section
variable {P : Program} {B fl : Nat} {β : Ren} {h : Heap} {nx N : Nat} {w : World} {E : Env} {a : Act}
theorem idxB_ok {s : ByteArray} {l n c : Nat} (hs : StrR s l n) (hc : c < 256) : ∀ (k i : Nat), i + k = l → idxB l n c i k = (match ((List.range' i k).find? fun j => s[j]! == c.toUInt8) with
    | some j => (j : Int)
    | none => -1)
  | 0, i, _ => rfl
  | k + 1, i, hik => by
    have hi : i < s.size := by rw [hs.l]; omega
    have hb2 : s.data.toList[i]? = some s[i] := by
      rw [Array.getElem?_toList]
      exact getElem?_pos s.data i hi
    have hn := sn_get hb2
    rw [hs.n, hs.len] at hn
    have hg : s[i]! = s[i] := getElem!_pos s i hi
    have hcc : c.toUInt8.toNat = c := by
      show (UInt8.ofNat c).toNat = c
      rw [UInt8.toNat_ofNat']
      exact Nat.mod_eq_of_lt hc
    unfold idxB
    rw [List.range'_succ, List.find?_cons]
    have key : Nat.beq (Nat.mod (Nat.div n (Nat.pow 256 (Nat.sub (Nat.sub l 1) i))) 256) c = (s[i]! == c.toUInt8) := by
      rw [hg, Bool.eq_iff_iff]
      simp only [Nat.beq_eq, beq_iff_eq]
      constructor
      · intro e
        apply UInt8.toNat_inj.1
        rw [hcc, hn]
        exact e
      · intro e
        rw [e, hcc] at hn
        exact hn.symm
    rw [key]
    cases hq : (s[i]! == c.toUInt8) with
    | true => rfl
    | false =>
      simp only
      exact idxB_ok hs hc k (i + 1) (by omega)
theorem cntB_ok {c : Nat} (hc : c < 256) : ∀ (k : Nat) (l : List UInt8), l.length = k → cntB c k (sn l) = Lib.countByte l c.toUInt8
  | 0, l, h => by
    rw [List.eq_nil_of_length_eq_zero h]; rfl
  | k + 1, l, h => by
    obtain ⟨a, z, rfl⟩ : ∃ a z, l = a ++ [z] := by
      rcases List.eq_nil_or_concat l with q | ⟨a, z, q⟩
      · rw [q] at h; cases h
      · exact ⟨a, z, by rw [q]; simp⟩
    have hs : sn (a ++ [z]) = sn a * 256 + z.toNat := by
      rw [sn_append]
      simp [sn]
    have hlt : z.toNat < 256 := UInt8.toNat_lt _
    have e1 : Nat.div (sn (a ++ [z])) 256 = sn a := by
      show sn (a ++ [z]) / 256 = _
      rw [hs]; omega
    have e2 : Nat.mod (sn (a ++ [z])) 256 = z.toNat := by
      show sn (a ++ [z]) % 256 = _
      rw [hs]; omega
    show Nat.add (cntB c k (Nat.div (sn (a ++ [z])) 256)) (Bool.rec (motive := fun _ => Nat) 0 1 (Nat.beq (Nat.mod (sn (a ++ [z])) 256) c)) = _
    rw [e1, e2, cntB_ok hc k a (by simpa using h)]
    unfold Lib.countByte
    rw [List.count_append]
    show List.count c.toUInt8 a + _ = _
    congr 1
    have hcc : c.toUInt8.toNat = c := by
      show (UInt8.ofNat c).toNat = c
      rw [UInt8.toNat_ofNat']
      exact Nat.mod_eq_of_lt hc
    have key : Nat.beq z.toNat c = (z == c.toUInt8) := by
      rw [Bool.eq_iff_iff]
      simp only [Nat.beq_eq, beq_iff_eq]
      constructor
      · intro e; exact UInt8.toNat_inj.1 (by rw [hcc]; exact e)
      · intro e; rw [e, hcc]
    rw [key, List.count_singleton]
    cases (z == c.toUInt8) <;> rfl
theorem compareBytes_eq : ∀ (a b : List UInt8), Lib.compareBytes a b = if Op.bytesLess a b then -1 else if Op.bytesLess b a then 1 else 0
  | [], [] => rfl
  | [], _ :: _ => rfl
  | _ :: _, [] => rfl
  | x :: a, y :: b => by
    have ih := compareBytes_eq a b
    unfold Lib.compareBytes
    rw [ih]
    show _ = if (decide (x < y) || (x == y && Op.bytesLess a b)) = true then (-1 : Int) else if (decide (y < x) || (y == x && Op.bytesLess b a)) = true then 1 else 0
    by_cases h1 : x < y
    · have h2 : ¬ y < x := fun q => UInt8.lt_irrefl _ (UInt8.lt_trans h1 q)
      simp [h1]
    · by_cases h2 : y < x
      · have h3 : ¬ x = y := fun q => by subst q; exact UInt8.lt_irrefl _ h2
        simp [h1, h2, h3]
      · have h3 : x = y := UInt8.le_antisymm (UInt8.not_lt.1 h2) (UInt8.not_lt.1 h1)
        subst h3
        simp [UInt8.lt_irrefl]
theorem Ek.ok {k : Ek} {xs : List XV} {y : XV} {vs : List Value} (h : k.run xs = some y) (hv : VRs β xs vs) : RunV P w β (k.sem vs.toArray) y := by
  cases k with
  | same =>
    cases xs with
    | nil => cases h
    | cons x xs => cases xs with
      | cons => cases h
      | nil =>
        cases h
        obtain ⟨v, rfl, h1⟩ := vrs1 hv
        exact ⟨v, rfl, h1⟩
  | indexByte =>
    unfold Ek.run at h
    split at h
    · rename_i e; cases e
    · rename_i l n c e
      split at h
      · rename_i hc
        have hc : c < 256 := by simpa [blt_iff] using hc
        cases h
        obtain ⟨v, vs', rfl, ⟨s, rfl, hs⟩, h2⟩ := hv
        obtain ⟨u, rfl, h3⟩ := vrs1 h2
        rw [VR] at h3
        subst h3
        have hq := idxB_ok hs hc l 0 (by omega)
        refine ⟨.int .i64 (idxB l n c 0 l), ?_, rfl⟩
        rw [hq, ← hs.l, ← List.range_eq_range']
        have e1 : Extern.BytealgIndexByte.indexByte #[.string s, .int .u8 (c : Int)] = (match (List.range s.size).find? fun i => s[i]! == ((c : Int)).toNat.toUInt8 with
          | some i => pure (goInt i)
          | none => pure (goInt (-1))) := rfl
        show (Extern.BytealgIndexByte.indexByte #[.string s, .int .u8 (c : Int)]).run P w = _
        rw [e1, Int.toNat_natCast]
        cases (List.range s.size).find? fun i => s[i]! == c.toUInt8 <;> rfl
      · cases h
    · rename_i e; cases e
    · rename_i e; cases e
    · cases h
  | compare =>
    unfold Ek.run at h
    split at h
    · rename_i e; cases e
    · rename_i e; cases e
    · rename_i l n l' n' e
      cases h
      obtain ⟨v, vs', rfl, ⟨s, rfl, hs⟩, h2⟩ := hv
      obtain ⟨u, rfl, ⟨s', rfl, hs'⟩⟩ := vrs1 h2
      refine ⟨_, Lib.run_compareString s s' w, ?_⟩
      rw [compareBytes_eq]
      have e1 := hs.lt hs'
      have e2 := hs'.lt hs
      rw [ByteArray.toList_eq, ByteArray.toList_eq] at e1 e2
      rw [e1, e2]
      show Value.int .i64 _ = Value.int .i64 (cmpB l n l' n')
      unfold cmpB
      cases ltS l n l' n' with
      | true => rfl
      | false => cases ltS l' n' l n <;> rfl
    · rename_i e; cases e
    · cases h
  | count =>
    unfold Ek.run at h
    split at h
    · rename_i e; cases e
    · rename_i e; cases e
    · rename_i e; cases e
    · rename_i l n c e
      split at h
      · rename_i hc
        have hc : c < 256 := by simpa [blt_iff] using hc
        cases h
        obtain ⟨v, vs', rfl, ⟨s, rfl, hs⟩, h2⟩ := hv
        obtain ⟨u, rfl, h3⟩ := vrs1 h2
        rw [VR] at h3
        subst h3
        refine ⟨_, Lib.run_countString s (Int.ofNat c) w, ?_⟩
        have := cntB_ok hc l s.data.toList hs.len
        rw [hs.n] at this
        show Value.int .i64 _ = Value.int .i64 (Int.ofNat (cntB c l n))
        rw [this]
        rfl
      · cases h
    · cases h
def one1 (x : Option (XV × Heap)) (nx : Nat) : Option Outs :=
  match x with
  | some (x, h) => some [(x, h, nx)]
  | none => none
def oneU (h : Option Heap) (nx : Nat) : Option Outs :=
  match h with
  | some h => some [(.tup [], h, nx)]
  | none => none
def withN (nx : Nat) : List (XV × Heap) → Outs
  | [] => []
  | (x, h) :: r => (x, h, nx) :: withN nx r
theorem withN_mem {x : XV} {h' : Heap} : ∀ {l : List (XV × Heap)}, (x, h') ∈ l → (x, h', nx) ∈ withN nx l
  | (y, g) :: l, hm => by
    rcases List.mem_cons.1 hm with e | hm
    · cases e; exact List.mem_cons_self ..
    · exact List.mem_cons_of_mem _ (withN_mem hm)
/-- The method of a dynamic type. -/
def methX (P : Program) (h : Heap) (t : TypeId) (v : XV) (name : String) : Option (FuncId × XV) :=
  match P.info? t with
  | some i => match i.methods.find? (·.name == name) with
    | some m => match m.path.isEmpty, m.func, P.underlying t with
      | true, some (f, true), some (.pointer _) => some (f, v)
      | true, some (f, false), some (.pointer e) => match xload P h e v with
        | some y => some (f, y)
        | none => none
      | true, some (_, false), some _ => none
      | _, _, _ => none
    | none => none
  | none => none
def callX (P : Program) (ext : FuncId → Option Ek) (call : CallF) (fl : Nat) (f : FuncId) (xs : List XV) (h : Heap) (nx : Nat) : Option Outs :=
  match ext f with
  | some k => match k.run xs with
    | some y => some [(y, h, nx)]
    | none => none
  | none => call fl f xs h nx
def heavyX (P : Program) (ext : FuncId → Option Ek) (call : CallF) (fl : Nat) (E : Env) (h : Heap) (nx : Nat) (o : Oper) : Option Outs :=
  match o.op with
  | .store t x v => match opnd E x, opnd E v with
    | some x, some v => oneU (xstore P fl h t x v) nx
    | _, _ => none
  | .insert t m k x => match opnd E m, opnd E k, opnd E x with
    | some m, some k, some x => oneU (xmapUpdate P fl h t m k x) nx
    | _, _, _ => none
  | .mapUpdate t m k x => match opnd E m, opnd E k, opnd E x with
    | some m, some k, some x => oneU (xmapUpdate P fl h t m k x) nx
    | _, _, _ => none
  | .mapEntry t m k => match opnd E m, opnd E k with
    | some m, some k => one1 (xmapEntry P fl h t m k) nx
    | _, _ => none
  | .entryStore _ m s x => match opnd E m, opnd E s, opnd E x with
    | some m, some s, some x => oneU (xentryStore fl h m s x) nx
    | _, _, _ => none
  | .range t x => match opnd E x with
    | some x => match xrange P h nx t x with
      | some (y, ob) => some [(y, h.set nx ob, Nat.succ nx)]
      | none => match xrangeU P fl h nx t x with
        | some r => some [r]
        | none => none
    | none => none
  | .next x str => match opnd E x with
    | some x => match xnext fl h x str with
      | some l => some (withN nx l)
      | none => none
    | none => none
  | .call c => match opnds E c.args.toList with
    | none => none
    | some xs => match c.callee with
      | .builtin b => match b, xs, c.argTypes with
        | .append, [s, x], ⟨[t, u]⟩ => match xappend2 P fl h nx t u s x with
          | some r => some [r]
          | none => none
        | .copy, [d, s], ts => match ts[0]? with
          | some t => one1 (xcopy P fl h t d s) nx
          | none => none
        | .clear, [x], ts => match ts[0]? with
          | some t => oneU (xclear P fl h t x) nx
          | none => none
        | .delete, [m, k], ts => match ts[0]? with
          | some t => oneU (xdelete P fl h t m k) nx
          | none => none
        | .unsafeString, [p, n], ts => match ts[0]? with
          | some t => one1 (xunsafeString P fl h t p n) nx
          | none => none
        | _, _, _ => none
      | .value f => match opnd E f with
        | some (.fn (.func f) first caps) => callX P ext call fl f (first ++ (xs ++ caps)) h nx
        | _ => none
      | .invoke r name => match opnd E r with
        | some (.iface t v) => match methX P h t v name with
          | some (f, y) => callX P ext call fl f (y :: xs) h nx
          | none => none
        | _ => none
  | _ => none
variable {call : CallF} {ext : FuncId → Option Ek}
theorem wp_of_value {o : Oper} {K : Act → World → Prop} {Q : Exit → Act → World → Prop} {v : Value} {w' : World} (hrun : (execOp a.eval o).run P w = .ok (.value v) w') (hK : K (a.put o.dst v) w') : o.wp P a w K Q := by
  unfold Oper.wp
  rw [hrun]
  exact hK
theorem wp_of_skip {o : Oper} {K : Act → World → Prop} {Q : Exit → Act → World → Prop} {w' : World} (hrun : (execOp a.eval o).run P w = .ok .skip w') (hK : K (a.put o.dst undef) w') : o.wp P a w K Q := by
  unfold Oper.wp
  rw [hrun]
  exact hK
theorem undef_ok (β : Ren) : VR β (.tup []) undef := ⟨#[], rfl, rfl⟩
theorem run_callFunc {f : FuncId} {args : Array Value} (hc : Callable P f) (w : World) : (callFunc f args).run P w = .ok (.enter f args) w := by
  obtain ⟨fn, h1, h2, h3⟩ := hc
  have h4 : fn.body.isNone = false := by cases q : fn.body <;> simp_all
  simp only [callFunc, Sem.run_bind, run_program, Result.andThen_ok, h1, h2, Bool.false_eq_true, if_false, h4, Sem.run_pure]
theorem run_callExt {f : FuncId} {k : Ek} (hE : ExtOK P ext) (hf : ext f = some k) {args : Array Value} {v : Value} {w' : World} (hr : (k.sem args).run P w = .ok v w') : (callFunc f args).run P w = .ok (.value v) w' := by
  obtain ⟨fn, h1, h2, h3, h4, h5⟩ := hE f k hf
  simp only [callFunc, Sem.run_bind, run_program, Result.andThen_ok, h1, h2, Bool.false_eq_true, if_false, h3, if_true, run_mark, h4, h5, Sem.run_pure, hr]
/-- A call, whatever it is. -/
theorem callX_ok (hE : ExtOK P ext) (hcall : CallOK P call) (hr : HR B β h nx w) (hB : B ≤ w.heap.size) (hfl : fl ≤ nx) {f : FuncId} {xs : List XV} {vs : List Value} {outs : Outs} (hv : VRs β xs vs) (hx : callX P ext call fl f xs h nx = some outs)
    {o : Oper} {K : Act → World → Prop} {Q : Exit → Act → World → Prop} (hrun : (execOp a.eval o).run P w = (callFunc f vs.toArray).run P w)
    (hK : ∀ x h' nx' β' v w', (x, h', nx') ∈ outs → Go_ B fl β h nx w β' h' nx' w' → VR β' x v → K (a.put o.dst v) w') : o.wp P a w K Q := by
  unfold callX at hx
  split at hx
  · rename_i k hk
    split at hx
    · rename_i y hy
      cases hx
      obtain ⟨v, h1, h2⟩ := Ek.ok (P := P) (w := w) hy hv
      exact wp_of_value (hrun.trans (run_callExt hE hk h1)) (hK _ _ _ β v w (List.mem_cons_self ..) (Go_.refl hr) h2)
    · cases hx
  · obtain ⟨hc, hcalls⟩ := hcall hx hr hB hfl hv
    unfold Oper.wp
    rw [hrun, run_callFunc hc]
    show Calls P f vs.toArray w _
    refine hcalls.mono ?_
    rintro e w' ⟨x, h', nx', hm, v, β', rfl, hg, hvv⟩
    exact hK x h' nx' β' v w' hm hg hvv
theorem heavy_ok (hE : ExtOK P ext) (hcall : CallOK P call) (hr : HR B β h nx w) (he : EnvR β N E a) (hB : B ≤ w.heap.size) (hfl : fl ≤ nx) {o : Oper} {outs : Outs} (hx : heavyX P ext call fl E h nx o = some outs)
    {K : Act → World → Prop} {Q : Exit → Act → World → Prop} (hK : ∀ x h' nx' β' v w', (x, h', nx') ∈ outs → Go_ B fl β h nx w β' h' nx' w' → VR β' x v → K (a.put o.dst v) w') : o.wp P a w K Q := by
  have u1 : ∀ {s : Sem Unit} {hh : Option Heap}, oneU hh nx = some outs → (∀ h', hh = some h' → RunU P B fl β h nx w s h' nx) → (execOp a.eval o = (do s; pure .skip)) → o.wp P a w K Q := by
    intro s hh h1 h2 h3
    cases hh with
    | none => cases h1
    | some h' =>
      cases h1
      obtain ⟨w', β', q1, q2⟩ := h2 h' rfl
      exact wp_of_skip (w' := w') (by rw [h3]; simp [q1]) (hK _ _ _ β' undef w' (List.mem_cons_self ..) q2 (undef_ok β'))
  have v1 : ∀ {s : Sem Value} {x : XV} {h' : Heap} {nx' : Nat}, (x, h', nx') ∈ outs → RunS P B fl β h nx w s x h' nx' → ((execOp a.eval o).run P w = ((do pure (.value (← s)) : Sem Next)).run P w) → o.wp P a w K Q := by
    intro s x h' nx' hm ⟨v, w', β', q1, q2, q3⟩ h3
    exact wp_of_value (w' := w') (v := v) (by rw [h3]; simp [q1]) (hK _ _ _ β' v w' hm q2 q3)
  unfold heavyX at hx
  split at hx
  · rename_i t x v ho
    split at hx
    · rename_i x' v' hx' hv'
      exact u1 hx (fun h' e => xstore_ok hr (opnd_ok he hx') (opnd_ok he hv') e) (by simp only [execOp, ho])
    · cases hx
  · rename_i t m k x ho
    split at hx
    · rename_i m' k' x' hm' hk' hx'
      exact u1 hx (fun h' e => xmapUpdate_ok hr (opnd_ok he hm') (opnd_ok he hk') (opnd_ok he hx') e) (by simp only [execOp, ho])
    · cases hx
  · rename_i t m k x ho
    split at hx
    · rename_i m' k' x' hm' hk' hx'
      exact u1 hx (fun h' e => xmapUpdate_ok hr (opnd_ok he hm') (opnd_ok he hk') (opnd_ok he hx') e) (by simp only [execOp, ho])
    · cases hx
  · rename_i t m k ho
    split at hx
    · rename_i m' k' hm' hk'
      unfold one1 at hx
      split at hx
      · rename_i y h' hy
        cases hx
        exact v1 (List.mem_cons_self ..) (xmapEntry_ok hr (opnd_ok he hm') (opnd_ok he hk') hy) (by simp only [execOp, ho])
      · cases hx
    · cases hx
  · rename_i t m s x ho
    split at hx
    · rename_i m' s' x' hm' hs' hx'
      exact u1 hx (fun h' e => xentryStore_ok (t := t) hr (opnd_ok he hm') (opnd_ok he hs') (opnd_ok he hx') e) (by simp only [execOp, ho])
    · cases hx
  · rename_i t x ho
    split at hx
    · rename_i x' hx'
      split at hx
      · rename_i y ob hy
        cases hx
        obtain ⟨v, w', q1, ⟨bi, k1, k2, k3, k4, k5⟩⟩ := xrange_ok (P := P) hr (opnd_ok he hx') hy
        have hnone : β nx = none := by
          cases q : β nx with
          | none => rfl
          | some bi => have := (hr.lt nx bi q).1; omega
        obtain ⟨β', hid, hgo⟩ := hr.alloc (B := B) (fl := fl) (id := nx) (nx' := nx + 1) (o := ob) (bi := bi) hnone hfl hB (by omega) (by omega) (.inr trivial) k1 k2 k3 (k4.mono hB) (Nat.le_refl _) (fun β' hext hid => (k5 β' hext hid).1)
        exact wp_of_value (w' := w') (v := v) (by simp only [execOp, ho]; simp [q1]) (hK _ _ _ β' v w' (List.mem_cons_self ..) hgo (k5 β' hgo.ext hid).2)
      · split at hx
        · rename_i r hr'
          obtain ⟨y, h', nx'⟩ := r
          cases hx
          exact v1 (List.mem_cons_self ..) (xrangeU_ok hr hB (opnd_ok he hx') hr') (by simp only [execOp, ho])
        · cases hx
    · cases hx
  · rename_i x str ho
    split at hx
    · rename_i x' hx'
      split at hx
      · rename_i l hl
        cases hx
        obtain ⟨y, h', hm, hq⟩ := xnext_ok (P := P) (t := o.type) hr (opnd_ok he hx') hl
        exact v1 (withN_mem hm) hq (by simp only [execOp, ho])
      · cases hx
    · cases hx
  · rename_i c ho
    split at hx
    · cases hx
    · rename_i xs hxs
      have hargs := opnds_ok he hxs
      have hargs' : (c.args.map a.eval).toList = c.args.toList.map a.eval := by simp
      split at hx
      · rename_i b hc
        have hb : ∀ {s : Sem Value}, builtin b c.argTypes o.type (c.args.map fun | .const _ => true | _ => false) (c.args.map a.eval) = (do pure (.value (← s))) → (execOp a.eval o).run P w = ((do pure (.value (← s)) : Sem Next)).run P w := fun e => by
          simp only [execOp, ho, resolve, hc, Sem.run_bind, Sem.run_pure, Result.andThen_ok, invoke]
          exact (congrArg (fun q => Sem.run P q w) e).trans (by simp)
        split at hx
        · rename_i s x t u hts
          split at hx
          · rename_i r hr'
            obtain ⟨y, h', nx'⟩ := r
            cases hx
            obtain ⟨v1', vs', hvs, k1, k2⟩ := hargs
            obtain ⟨v2, rfl, k3⟩ := vrs1 k2
            have ha : c.args.map a.eval = #[v1', v2] := by apply Array.ext'; rw [hargs', hvs]
            exact v1 (List.mem_cons_self ..) (xappend2_ok (ty := o.type) hr hB k1 k3 hr') (hb (by rw [ha, hts]; rfl))
          · cases hx
        · rename_i d s ts
          split at hx
          · rename_i t hts
            unfold one1 at hx
            split at hx
            · rename_i y h' hy
              cases hx
              obtain ⟨v1', vs', hvs, k1, k2⟩ := hargs
              obtain ⟨v2, rfl, k3⟩ := vrs1 k2
              have ha : c.args.map a.eval = #[v1', v2] := by apply Array.ext'; rw [hargs', hvs]
              exact v1 (List.mem_cons_self ..) (xcopy_ok (ty := o.type) hr k1 k3 hy hts) (hb (by rw [ha]; rfl))
            · cases hx
          · cases hx
        · rename_i x ts
          split at hx
          · rename_i t hts
            unfold oneU at hx
            split at hx
            · rename_i h' hy
              cases hx
              obtain ⟨v2, hvs, k3⟩ := vrs1 hargs
              have ha : c.args.map a.eval = #[v2] := by apply Array.ext'; rw [hargs', hvs]
              exact v1 (List.mem_cons_self ..) (xclear_ok (ty := o.type) hr k3 hy hts) (hb (by rw [ha]; rfl))
            · cases hx
          · cases hx
        · rename_i m k ts
          split at hx
          · rename_i t hts
            unfold oneU at hx
            split at hx
            · rename_i h' hy
              cases hx
              obtain ⟨v1', vs', hvs, k1, k2⟩ := hargs
              obtain ⟨v2, rfl, k3⟩ := vrs1 k2
              have ha : c.args.map a.eval = #[v1', v2] := by apply Array.ext'; rw [hargs', hvs]
              exact v1 (List.mem_cons_self ..) (xdelete_ok (ty := o.type) hr k1 k3 hy hts) (hb (by rw [ha]; rfl))
            · cases hx
          · cases hx
        · rename_i m k ts
          split at hx
          · rename_i t hts
            unfold one1 at hx
            split at hx
            · rename_i y h' hy
              cases hx
              obtain ⟨v1', vs', hvs, k1, k2⟩ := hargs
              obtain ⟨v2, rfl, k3⟩ := vrs1 k2
              have ha : c.args.map a.eval = #[v1', v2] := by apply Array.ext'; rw [hargs', hvs]
              exact v1 (List.mem_cons_self ..) (xunsafeString_ok (ty := o.type) hr k1 k3 hy hts) (hb (by rw [ha]; rfl))
            · cases hx
          · cases hx
        · cases hx
      · rename_i f hc
        split at hx
        · rename_i g first caps hf
          obtain ⟨fs, cs, hfv, k1, k2⟩ := opnd_ok he hf
          refine callX_ok hE hcall hr hB hfl (vs := fs.toList ++ (c.args.toList.map a.eval ++ cs.toList)) (k1.append (hargs.append k2)) hx ?_ hK
          have e1 : (fs.toList ++ (c.args.toList.map a.eval ++ cs.toList)).toArray = fs ++ c.args.map a.eval ++ cs := by
            apply Array.ext'
            simp
          rw [e1]
          simp only [execOp, ho, resolve, hc, hfv, Deferred.ofValue, Sem.run_bind, Sem.run_pure, Result.andThen_ok, invoke]
        · cases hx
      · rename_i r name hc
        split at hx
        · rename_i t v hrv
          obtain ⟨u, hu, k1⟩ := opnd_ok he hrv
          split at hx
          · rename_i f y hm
            unfold methX at hm
            split at hm
            · rename_i i hi
              have hti : (typeInfo t).run P w = .ok i w := by simp [typeInfo, hi]
              split at hm
              · rename_i m hfind
                have hrecv : ∃ uy, VR β y uy ∧ (method (P.types.size + Made.depth) t u name).run P w = .ok (f, uy) w := by
                  have hfuel : ∃ n, P.types.size + Made.depth = n + 1 := ⟨P.types.size + 99, rfl⟩
                  obtain ⟨n, hn⟩ := hfuel
                  rw [hn]
                  split at hm
                  · rename_i g e hpath hfunc hun
                    cases hm
                    refine ⟨u, k1, ?_⟩
                    have hp : m.path.toList = [] := by simpa using hpath
                    simp only [method, Sem.run_bind, hti, Result.andThen_ok, hfind, hp, follow, Sem.run_pure, hfunc, receiverAt, run_und hun, Place.get]
                  · rename_i g e hpath hfunc hun
                    split at hm
                    · rename_i y' hy'
                      cases hm
                      obtain ⟨q, q1, q2⟩ := xload_ok (P := P) hr k1 hy'
                      refine ⟨q, q2, ?_⟩
                      have hp : m.path.toList = [] := by simpa using hpath
                      have hptr : ∃ ad, u = .pointer (some ad) := by
                        unfold xload at hy'
                        split at hy'
                        · obtain ⟨bi, _, rfl⟩ := k1; exact ⟨_, rfl⟩
                        · cases hy'
                      obtain ⟨ad, rfl⟩ := hptr
                      have q1' : (loadVar e ad).run P w = .ok q w := q1
                      have hw : ∀ s : String, Builtin.ssaWrapNilChk_ #[t] t #[.pointer (some ad), strVal "", strVal s] = pure (.pointer (some ad)) := fun s => rfl
                      simp only [method, Sem.run_bind, hti, Result.andThen_ok, hfind, hp, follow, Sem.run_pure, hfunc, receiverAt, run_und hun, Place.get, hpath, if_true, hw, asAddr, q1']
                    · cases hm
                  · cases hm
                  · cases hm
                obtain ⟨uy, hy1, hy2⟩ := hrecv
                refine callX_ok hE hcall hr hB hfl (vs := uy :: c.args.toList.map a.eval) (.cons hy1 hargs) hx ?_ hK
                have e1 : (uy :: c.args.toList.map a.eval).toArray = #[uy] ++ c.args.map a.eval := by
                  apply Array.ext'
                  simp
                rw [e1]
                have e0 : (#[Value.iface t u] ++ c.args.map a.eval)[0]? = some (.iface t u) := by rw [Array.getElem?_append_left (by simp)]; rfl
                have e2 : (#[Value.iface t u] ++ c.args.map a.eval).extract 1 (#[Value.iface t u] ++ c.args.map a.eval).size = c.args.map a.eval := by
                  apply Array.ext'
                  simp
                  exact List.take_of_length_le (by simp)
                simp only [execOp, ho, resolve, hc, hu, Sem.run_bind, Sem.run_pure, Result.andThen_ok, invoke, e0, e2, callMethod, run_program, hy2]
              · cases hm
            · cases hm
          · cases hx
        · cases hx
  · cases hx
end
end
end Go.Proofs.YtohcohbbmjhnfaaGreatDoor.X
