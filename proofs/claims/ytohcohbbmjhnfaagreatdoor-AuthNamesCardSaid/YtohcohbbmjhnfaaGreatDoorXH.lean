/-
Closed runs: conversions, interfaces, functions, iterators, the reading of maps, lengths. Condition: none.
-/
import Derived.Test.YtohcohbbmjhnfaaGreatDoorXG
import Derived.Laws.BytesArg
import Derived.Laws.IdiomStrings
set_option linter.unusedVariables false
set_option linter.unusedSectionVars false
set_option linter.unusedSimpArgs false
namespace Go.Proofs.YtohcohbbmjhnfaaGreatDoor.X
open Go Go.RowKit
noncomputable section
variable [Tabs]
section
variable {P : Program} {B : Nat} {β : Ren} {h : Heap} {nx : Nat} {w : World}
/-! ### conversions -/
/-- Bytes, as a string's number. -/
def bytesNum : List XV → Option Nat
  | [] => some 0
  | .int .u8 (.ofNat b) :: r => match bytesNum r, Nat.blt b 256 with
    | some n, true => some (Nat.add (Nat.mul b (Nat.pow 256 r.length)) n)
    | _, _ => none
  | _ => none
theorem bytesNum_ok : ∀ {xs : List XV} {us : List Value} {n : Nat}, bytesNum xs = some n → VRs β xs us → ∃ bs : List UInt8, us = bs.map (fun b => .int .u8 b.toNat) ∧ bs.length = xs.length ∧ sn bs = n
  | [], us, n, h, hv => by rw [show us = [] from hv]; cases h; exact ⟨[], rfl, rfl, rfl⟩
  | x :: xs, _, n, h, ⟨u, us, rfl, hu, hus⟩ => by
    unfold bytesNum at h
    split at h
    · rename_i e; cases e
    · rename_i b r e
      cases e
      split at h
      · rename_i m hm hb
        cases h
        have hb : b < 256 := by simpa [blt_iff] using hb
        obtain ⟨bs, h1, h2, h3⟩ := bytesNum_ok hm hus
        rw [VR] at hu
        refine ⟨UInt8.ofNat b :: bs, ?_, by simp [h2], ?_⟩
        · rw [hu, h1]
          have : (UInt8.ofNat b).toNat = b := by rw [UInt8.toNat_ofNat']; exact Nat.mod_eq_of_lt hb
          simp [this]
        · have : (UInt8.ofNat b).toNat = b := by rw [UInt8.toNat_ofNat']; exact Nat.mod_eq_of_lt hb
          show (UInt8.ofNat b).toNat * 256 ^ bs.length + sn bs = _
          rw [this, h3, h2]
          rfl
      · cases h
    · cases h
def xconv (P : Program) (h : Heap) (src dst : TypeId) (x : XV) : Option XV :=
  match P.underlying src, P.underlying dst, x with
  | some _, some (.int k), .int _ n => some (.int k (xw k n))
  | some _, some .string, .str l n => some (.str l n)
  | some (.slice e), some .string, .nils => match P.underlying e with
    | some (.int .u8) => some (.str 0 0)
    | _ => none
  | some (.slice e), some .string, .sl b o len _ k _ => match P.underlying e, Nat.beq k 1, rd h b o len with
    | some (.int .u8), true, some xs => match bytesNum xs with
      | some n => some (.str len n)
      | none => none
    | _, _, _ => none
  | some (.pointer t), some .unsafePointer, .nilp => some .nilp
  | some (.pointer t), some .unsafePointer, .ptr b o => match h.get b, szOf P t with
    | some (.cells _ n _ _ true), some (_ + 1) => match Nat.blt o n with
      | true => some (.ptr b o)
      | false => none
    | _, _ => none
  | some .unsafePointer, some (.pointer _), .nilp => some .nilp
  | some .unsafePointer, some (.pointer u), .ptr b o => match h.get b, szOf P u with
    | some (.cells _ n e _ true), some (_ + 1) => match liesAt P P.depth e (n / P.cellsOf e) o u 1 with
      | true => some (.ptr b o)
      | false => none
    | _, _ => none
  | some (.int _), some .string, .int _ n => some (.str (Utf8.encode n).size (sn (Utf8.encode n).data.toList))
  | _, _, _ => none
theorem shape_of {rb : Nat} {c : Array Value} {e : TypeId} {fr : Nat × Nat} (hw : w.heap[rb]? = some (.cells c e fr)) : w.shape? rb = some (e, c.size) := by simp [World.shape?, hw]
theorem seenAt_ok {rb o : Nat} {c : Array Value} {e : TypeId} {fr : Nat × Nat} (hw : w.heap[rb]? = some (.cells c e fr)) : (Conv.seenAt ⟨rb, o, none⟩).run P w = .ok ⟨rb, o, none⟩ w := by
  simp [Conv.seenAt, viewAt, shape_of hw]
theorem xconv_ok (hr : HR B β h nx w) {src dst : TypeId} {x y : XV} {v : Value} (hv : VR β x v) (hx : xconv P h src dst x = some y) : RunV P w β (convert src dst v) y := by
  unfold xconv at hx
  split at hx
  · rename_i d k k' n h1 h2
    cases hx
    rw [VR] at hv
    subst hv
    refine ⟨.int k (k.wrap n), ?_, by rw [VR, xw_ok]⟩
    simp [convert, run_und h1, run_und h2, Conv.intToInt]
  · rename_i d l n h1 h2
    cases hx
    obtain ⟨s, rfl, hs⟩ := hv
    refine ⟨.string s, ?_, s, rfl, hs⟩
    cases d <;> simp [convert, run_und h1, run_und h2]
  · rename_i e h1 h2
    split at hx
    · rename_i h3
      cases hx
      rw [VR] at hv
      subst hv
      refine ⟨.string .empty, ?_, _, rfl, ⟨rfl, rfl⟩⟩
      simp [convert, run_und h1, run_und h2, run_und h3, Conv.bytesToString]
    · cases hx
  · rename_i e b o len cap k ex h1 h2
    obtain ⟨bi, hbi, x, c, rfl, c1, c2, c3, c4⟩ := hv
    split at hx
    · rename_i xs h3 hk hrd
      have hk := beq_t hk
      subst hk
      split at hx
      · rename_i n hn
        cases hx
        obtain ⟨us, k1, k2, k3, k4, k5⟩ := rd_ok hr hbi hrd
        obtain ⟨bs, q1, q2, q3⟩ := bytesNum_ok hn k2
        have hl : bs.length = len := by rw [q2, k5]
        refine ⟨.string ⟨bs.toArray⟩, ?_, _, rfl, ?_⟩
        · rw [← hl]
          refine run_convert_bytes_back w src dst e _ c bs h1 h3 h2 (fun j hj => ?_)
          obtain ⟨d1, _⟩ := c4 (by omega)
          rw [add_none, d1]
          refine k4 j _ ?_
          rw [q1, List.getElem?_map, List.getElem?_eq_getElem hj]
          rfl
        · have := StrR.mk' bs
          rw [hl, q3] at this
          exact this
      · cases hx
    · cases hx
  · rename_i t h1 h2
    cases hx
    rw [VR] at hv
    subst hv
    refine ⟨_, ?_, rfl⟩
    simp [convert, run_und h1, run_und h2, Conv.unsafePointer]
  · rename_i t b o h1 h2
    split at hx
    · rename_i tt n e wr sz hg hs
      split at hx
      · rename_i hlt
        have hlt : o < n := by simpa [blt_iff] using hlt
        cases hx
        obtain ⟨bi, hbi, rfl⟩ := hv
        obtain ⟨c, fr, q1, q2, q3, q4, q5, q6⟩ := hr.blk b bi _ hbi hg
        obtain ⟨q7, q8⟩ := q6 rfl
        refine ⟨.pointer (some ⟨bi.rb, bi.base + o, none⟩), ?_, bi, hbi, rfl⟩
        have hge : ¬ (bi.base + o ≥ c.size) := by omega
        simp only [convert, run_und h1, run_und h2, Sem.run_bind, Result.andThen_ok, Conv.unsafePointer, seenAt_ok q1, run_size hs, cellsIn, run_shape, shape_of q1, Sem.run_pure]
        have hc : (decide (sz + 1 = 0) || (decide (bi.base + o ≥ c.size) && (none : Option Nat).isNone)) = false := by simp; omega
        simp [hge]
      · cases hx
    · cases hx
  · rename_i t h1 h2
    cases hx
    rw [VR] at hv
    subst hv
    refine ⟨_, ?_, rfl⟩
    simp [convert, run_und h1, run_und h2, Conv.unsafePointer]
  · rename_i u b o h1 h2
    split at hx
    · rename_i tt n e wr sz hg hs
      split at hx
      · rename_i hl
        cases hx
        obtain ⟨bi, hbi, rfl⟩ := hv
        obtain ⟨c, fr, q1, q2, q3, q4, q5, q6⟩ := hr.blk b bi _ hbi hg
        obtain ⟨q7, q8⟩ := q6 rfl
        refine ⟨.pointer (some ⟨bi.rb, bi.base + o, none⟩), ?_, bi, hbi, rfl⟩
        have hva : (variablesAt ⟨bi.rb, bi.base + o, none⟩ u 1).run P w = .ok true w := by
          simp only [variablesAt, Sem.run_bind, run_program, Result.andThen_ok, run_shape, shape_of q1, Sem.run_pure, q2, q8, q7, Nat.zero_add, hl]
        simp [convert, run_und h1, run_und h2, Conv.unsafePointer, seenAt_ok q1, run_size hs, hva]
      · cases hx
    · cases hx
  · rename_i k k' n h1 h2
    cases hx
    rw [VR] at hv
    subst hv
    refine ⟨.string (Utf8.encode n), ?_, _, rfl, StrR.of _⟩
    simp [convert, run_und h1, run_und h2, Conv.intToString]
  · cases hx
/-! ### interfaces, functions -/
def xmakeIface (P : Program) (t : TypeId) (x : XV) : Option XV :=
  match P.underlying t with
  | some (.interface _) => none
  | some _ => some (.iface t x)
  | none => none
theorem xmakeIface_ok {t : TypeId} {x y : XV} {v : Value} (hv : VR β x v) (hx : xmakeIface P t x = some y) : RunV P w β (Instr.makeInterface t v) y := by
  unfold xmakeIface at hx
  split at hx
  · cases hx
  · rename_i d hd hun
    cases hx
    refine ⟨.iface t v, ?_, v, rfl, hv⟩
    cases d <;> first | (exact absurd rfl (hd _)) | simp [Instr.makeInterface, run_und hun]
  · cases hx
def aHolds (ok : Bool) (y : XV) : Option XV :=
  match ok with
  | true => some (.tup [y, .bool true])
  | false => some y
def aFails (P : Program) (t : TypeId) (ok : Bool) : Option XV :=
  match ok, zeroOf P t with
  | true, some z => some (.tup [z, .bool false])
  | _, _ => none
def xassert (P : Program) (x : XV) (t : TypeId) (ok : Bool) : Option XV :=
  match P.underlying t, x with
  | some (.interface want), .iface d v => match P.info? d with
    | some i => match Instr.missingMethod want i.methods with
      | none => aHolds ok (.iface d v)
      | some _ => aFails P t ok
    | none => none
  | some (.interface _), .nili => aFails P t ok
  | some _, .iface d v => match Nat.beq d t with
    | true => aHolds ok v
    | false => aFails P t ok
  | some _, .nili => aFails P t ok
  | _, _ => none
theorem aHolds_ok {ok : Bool} {u y : XV} {c : Value} (hu : VR β u c) (h : aHolds ok u = some y) : ∃ r, (pure (if ok = true then Value.tuple #[c, Value.bool true] else c) : Sem Value).run P w = .ok r w ∧ VR β y r := by
  unfold aHolds at h
  split at h
  · cases h; exact ⟨_, rfl, _, rfl, .cons hu (.cons rfl .nil)⟩
  · cases h; exact ⟨_, rfl, hu⟩
theorem aFails_ok {t : TypeId} {ok : Bool} {y : XV} (h : aFails P t ok = some y) (i d : Option TypeId) (m : String) : ∃ r, (if ok = true then (do pure (Value.tuple #[← zeroValue t, .bool false])) else runtimePanic (.typeAssertion i d t m) : Sem Value).run P w = .ok r w ∧ VR β y r := by
  unfold aFails at h
  split at h
  · rename_i z hz
    cases h
    obtain ⟨z', k1, k2⟩ := run_zero hz
    exact ⟨.tuple #[z', .bool false], by simp [k2], _, rfl, .cons (ofV_ok k1) (.cons rfl .nil)⟩
  · cases h
theorem xassert_ok {x y : XV} {v : Value} {xt t : TypeId} {ok : Bool} (hv : VR β x v) (hx : xassert P x t ok = some y) : RunV P w β (Instr.typeAssert v xt t ok) y := by
  unfold xassert at hx
  split at hx
  · rename_i want d u hun
    obtain ⟨c, rfl, hc⟩ := hv
    split at hx
    · rename_i i hi
      have hti : (typeInfo d).run P w = .ok i w := by simp [typeInfo, hi]
      split at hx
      · rename_i hm
        obtain ⟨r, h1, h2⟩ := aHolds_ok (P := P) (w := w) (β := β) (u := .iface d u) (c := .iface d c) ⟨c, rfl, hc⟩ hx
        refine ⟨r, ?_, h2⟩
        rw [← h1]
        simp only [Instr.typeAssert, Sem.run_bind, run_und hun, Result.andThen_ok, hti, hm]
      · rename_i m hm
        obtain ⟨r, h1, h2⟩ := aFails_ok (w := w) (β := β) hx none (some d) m
        refine ⟨r, ?_, h2⟩
        rw [← h1]
        simp only [Instr.typeAssert, Sem.run_bind, run_und hun, Result.andThen_ok, hti, hm]
    · cases hx
  · rename_i want hun
    rw [VR] at hv
    subst hv
    obtain ⟨r, h1, h2⟩ := aFails_ok (w := w) (β := β) hx none none ""
    refine ⟨r, ?_, h2⟩
    rw [← h1]
    simp only [Instr.typeAssert, Sem.run_bind, run_und hun, Result.andThen_ok]
  · rename_i D d u hD hun
    obtain ⟨c, rfl, hc⟩ := hv
    have hno : ∀ ms, D ≠ .interface ms := fun ms e => hD ms e
    split at hx
    · rename_i e
      have e := beq_t e
      subst e
      obtain ⟨r, h1, h2⟩ := aHolds_ok (P := P) (w := w) (β := β) hc hx
      refine ⟨r, ?_, h2⟩
      rw [← h1]
      cases D <;> first | (exact absurd rfl (hno _)) | (simp only [Instr.typeAssert, Sem.run_bind, run_und hun, Result.andThen_ok, if_true])
    · rename_i e
      have e := beq_f e
      obtain ⟨r, h1, h2⟩ := aFails_ok (w := w) (β := β) hx (some xt) (some d) ""
      refine ⟨r, ?_, h2⟩
      rw [← h1]
      have e' : ¬ (d = t) := e
      cases D <;> first | (exact absurd rfl (hno _)) | (simp only [Instr.typeAssert, Sem.run_bind, run_und hun, Result.andThen_ok, if_neg e'])
  · rename_i D hD hun
    rw [VR] at hv
    subst hv
    have hno : ∀ ms, D ≠ .interface ms := fun ms e => hD ms e
    obtain ⟨r, h1, h2⟩ := aFails_ok (w := w) (β := β) hx (some xt) none ""
    refine ⟨r, ?_, h2⟩
    rw [← h1]
    cases D <;> first | (exact absurd rfl (hno _)) | (simp only [Instr.typeAssert, Sem.run_bind, run_und hun, Result.andThen_ok])
  · cases hx
/-! ### lengths -/
def xlen (P : Program) (h : Heap) (t : TypeId) (x : XV) : Option XV :=
  match P.underlying t, x with
  | some .string, .str l _ => some (.int .i64 (.ofNat l))
  | some (.slice _), .sl _ _ len _ _ _ => some (.int .i64 (.ofNat len))
  | some (.slice _), .nils => some (.int .i64 (.ofNat 0))
  | some (.map _ _), .nilm => some (.int .i64 (.ofNat 0))
  | some (.map _ _), .map b => match h.get b with
    | some (.map es _) => some (.int .i64 (.ofNat es.length))
    | some (.umap es _) => some (.int .i64 (.ofNat es.length))
    | some (.lmap es _) => some (.int .i64 (.ofNat es.length))
    | _ => none
  | some (.array n _), _ => some (.int .i64 (.ofNat n))
  | some (.pointer a), _ => match P.underlying a with
    | some (.array n _) => some (.int .i64 (.ofNat n))
    | _ => none
  | _, _ => none
theorem run_getObj {rb : Nat} {o : Obj} (hw : w.heap[rb]? = some o) (hn : ∀ c e fr, o ≠ .cells c e fr) : (getObj rb).run P w = .ok o w := by
  simp only [getObj, Sem.run, hw]
theorem xlen_ok (hr : HR B β h nx w) {t ty : TypeId} {ts : Array TypeId} {x y : XV} {v : Value} (hv : VR β x v) (hx : xlen P h t x = some y) (hts : ts[0]? = some t) : RunV P w β (Builtin.len_ ts ty #[v]) y := by
  unfold xlen at hx
  split at hx
  · rename_i l n hun
    cases hx
    obtain ⟨s, rfl, hs⟩ := hv
    exact ⟨.int .i64 s.size, by simp [Builtin.len_, hts, run_und hun, goInt], by rw [VR, hs.l]; rfl⟩
  · rename_i e b o len cap k ex hun
    cases hx
    obtain ⟨bi, _, x, c, rfl, _⟩ := hv
    exact ⟨.int .i64 len, by simp [Builtin.len_, hts, run_und hun, goInt], rfl⟩
  · rename_i e hun
    cases hx
    rw [VR] at hv
    subst hv
    exact ⟨.int .i64 0, by simp [Builtin.len_, hts, run_und hun, goInt], rfl⟩
  · rename_i a b hun
    cases hx
    rw [VR] at hv
    subst hv
    exact ⟨.int .i64 0, by simp [Builtin.len_, hts, run_und hun, goInt], rfl⟩
  · rename_i a b bb hun
    split at hx
    · rename_i es clk hg
      cases hx
      obtain ⟨bi, hbi, rfl⟩ := hv
      obtain ⟨arr, q1, q2⟩ := hr.blk bb bi _ hbi hg
      have hl := q2.length
      have hgo : (getObj bi.rb).run P w = .ok (.map arr clk) w := run_getObj q1 (fun _ _ _ e => by cases e)
      exact ⟨.int .i64 arr.size, by simp [Builtin.len_, hts, run_und hun, goInt, hgo], by rw [VR, ← hl]; simp⟩
    · rename_i es clk hg
      cases hx
      obtain ⟨bi, hbi, rfl⟩ := hv
      obtain ⟨arr, es', q1, q3, q2, _⟩ := hr.blk bb bi _ hbi hg
      have hl : arr.toList.length = es.length := by rw [q2.length, ← q3.length_eq]; simp
      have hgo : (getObj bi.rb).run P w = .ok (.map arr clk) w := run_getObj q1 (fun _ _ _ e => by cases e)
      exact ⟨.int .i64 arr.size, by simp [Builtin.len_, hts, run_und hun, goInt, hgo], by rw [VR, ← hl]; simp⟩
    · rename_i es clk hg
      cases hx
      obtain ⟨bi, hbi, rfl⟩ := hv
      obtain ⟨arr, es', q1, q3, _, q2, _⟩ := hr.blk bb bi _ hbi hg
      have hl : arr.toList.length = es.length := by rw [q2.length, q3.length_eq]; simp
      have hgo : (getObj bi.rb).run P w = .ok (.map arr clk) w := run_getObj q1 (fun _ _ _ e => by cases e)
      exact ⟨.int .i64 arr.size, by simp [Builtin.len_, hts, run_und hun, goInt, hgo], by rw [VR, ← hl]; simp⟩
    · cases hx
  · rename_i n e hun
    cases hx
    exact ⟨.int .i64 n, by simp [Builtin.len_, hts, run_und hun, goInt], rfl⟩
  · rename_i a hun
    split at hx
    · rename_i n e ha
      cases hx
      exact ⟨.int .i64 n, by simp [Builtin.len_, hts, run_und hun, run_und ha, goInt], rfl⟩
    · cases hx
  · cases hx
def xcap (P : Program) (t : TypeId) (x : XV) : Option XV :=
  match P.underlying t, x with
  | some (.slice _), .sl _ _ _ cap _ true => some (.int .i64 (.ofNat cap))
  | some (.slice _), .nils => some (.int .i64 (.ofNat 0))
  | _, _ => none
theorem xcap_ok {t ty : TypeId} {ts : Array TypeId} {x y : XV} {v : Value} (hv : VR β x v) (hx : xcap P t x = some y) (hts : ts[0]? = some t) : RunV P w β (Builtin.cap_ ts ty #[v]) y := by
  unfold xcap at hx
  split at hx
  · rename_i e b o len cap k hun
    cases hx
    obtain ⟨bi, _, x, c, rfl, _, _, c3, _⟩ := hv
    exact ⟨.int .i64 c, by simp [Builtin.cap_, hts, run_und hun, goInt], by rw [VR, c3 rfl]; rfl⟩
  · rename_i e hun
    cases hx
    rw [VR] at hv
    subst hv
    exact ⟨.int .i64 0, by simp [Builtin.cap_, hts, run_und hun, goInt], rfl⟩
  · cases hx
def xmm (mx : Bool) : XV → List XV → Option XV
  | x, [] => some x
  | .int k a, .int _ b :: r => xmm mx (.int k (match mx with
    | true => match ilt a b with | true => b | false => a
    | false => match ilt b a with | true => b | false => a)) r
  | _, _ => none
theorem xmax_ok : ∀ {xs : List XV} {x y : XV} {v : Value} {vs : List Value}, xmm true x xs = some y → VR β x v → VRs β xs vs → ∃ r, (vs.foldlM Builtin.max2 v).run P w = .ok r w ∧ VR β y r
  | [], x, y, v, vs, h, hv, hvs => by rw [show vs = [] from hvs]; unfold xmm at h; cases h; exact ⟨v, rfl, hv⟩
  | z :: xs, x, y, v, _, h, hv, ⟨u, us, rfl, hu, hus⟩ => by
    unfold xmm at h
    split at h
    · rename_i e; cases e
    · rename_i k a k' b r e
      cases e
      rw [VR] at hv hu
      subst hv; subst hu
      obtain ⟨r, h1, h2⟩ := xmax_ok (v := .int k (if b > a then b else a)) h (by
        rw [VR]
        simp only [ilt_ok]
        by_cases q : a < b
        · rw [decide_eq_true q, if_pos q]
        · rw [decide_eq_false q, if_neg q]) hus
      refine ⟨r, ?_, h2⟩
      rw [List.foldlM_cons, Sem.run_bind]
      exact h1
    · cases h
theorem xmin_ok : ∀ {xs : List XV} {x y : XV} {v : Value} {vs : List Value}, xmm false x xs = some y → VR β x v → VRs β xs vs → ∃ r, (vs.foldlM Builtin.min2 v).run P w = .ok r w ∧ VR β y r
  | [], x, y, v, vs, h, hv, hvs => by rw [show vs = [] from hvs]; unfold xmm at h; cases h; exact ⟨v, rfl, hv⟩
  | z :: xs, x, y, v, _, h, hv, ⟨u, us, rfl, hu, hus⟩ => by
    unfold xmm at h
    split at h
    · rename_i e; cases e
    · rename_i k a k' b r e
      cases e
      rw [VR] at hv hu
      subst hv; subst hu
      obtain ⟨r, h1, h2⟩ := xmin_ok (v := .int k (if b < a then b else a)) h (by
        rw [VR]
        simp only [ilt_ok]
        by_cases q : b < a
        · rw [decide_eq_true q, if_pos q]
        · rw [decide_eq_false q, if_neg q]) hus
      refine ⟨r, ?_, h2⟩
      rw [List.foldlM_cons, Sem.run_bind]
      exact h1
    · cases h
end
end
end Go.Proofs.YtohcohbbmjhnfaaGreatDoor.X
