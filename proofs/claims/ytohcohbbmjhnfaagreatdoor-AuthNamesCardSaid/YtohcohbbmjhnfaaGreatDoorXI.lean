/-
Closed runs: the reading of maps. Condition: none.
-/
import Derived.Test.YtohcohbbmjhnfaaGreatDoorXH
set_option linter.unusedVariables false
set_option linter.unusedSectionVars false
set_option linter.unusedSimpArgs false
namespace Go.Proofs.YtohcohbbmjhnfaaGreatDoor.X
open Go Go.RowKit
noncomputable section
variable [Tabs]
section
variable {P : Program} {B : Nat} {β : Ren} {h : Heap} {nx : Nat} {w : World}
/-! ### keys -/
mutual
def ckX (P : Program) : Nat → TypeId → XV → Bool
  | 0, _, _ => false
  | d + 1, t, x => match P.underlying t, x with
    | some (.struct fs), .agg cs => ckXs P d fs.toList cs
    | some (.struct _), _ => false
    | some (.interface _), _ => false
    | some (.array _ _), _ => false
    | some _, _ => true
    | none, _ => false
def ckXs (P : Program) : Nat → List Field → List XV → Bool
  | _, [], _ => true
  | 0, _, _ => false
  | d + 1, f :: fs, cs => match decide (f.name = "_"), xpart P f.type cs f.offset with
    | false, some y => match ckX P d f.type y with
      | true => ckXs P d fs cs
      | false => false
    | _, _ => false
end
def ckFs (e : Bool) (n : Nat) (vs : Array Value) : List Field → Sem Unit
  | [] => pure ()
  | f :: fs => if f.name ≠ "_" then do
      Instr.checkKey e n f.type (← part f.type vs f.offset)
      ckFs e n vs fs
    else ckFs e n vs fs
theorem run_ck_struct {e : Bool} {n : Nat} {t : TypeId} {vs : Array Value} {fs : Array Field} (hun : P.underlying t = some (.struct fs)) (w : World) : (Instr.checkKey e (n + 1) t (.agg vs)).run P w = (ckFs e n vs fs.toList).run P w := by
  simp only [Instr.checkKey, Sem.run_bind, run_und hun, Result.andThen_ok]
  rw [← Array.forIn_toList]
  generalize fs.toList = l
  clear hun
  induction l generalizing w with
  | nil => simp [ckFs]
  | cons f l ih =>
    simp only [List.forIn_cons, ckFs, Sem.run_bind, Sem.run_ite]
    split
    · generalize (part f.type vs f.offset).run P w = r1
      cases r1 with
      | ok a w1 =>
        simp only [Result.andThen_ok]
        generalize (Instr.checkKey e n f.type a).run P w1 = r2
        cases r2 with
        | ok b w2 =>
          simp only [Result.andThen_ok, Sem.run_pure]
          exact ih w2
        | halt x w2 => simp [Result.andThen]
      | halt x w1 => simp [Result.andThen]
    · simp only [Sem.run_pure, Result.andThen_ok]
      exact ih w
mutual
theorem ckX_ok : ∀ {d : Nat} {t : TypeId} {x : XV} {v : Value} {e : Bool} {d' : Nat}, ckX P d t x = true → VR β x v → d ≤ d' → (Instr.checkKey e d' t v).run P w = .ok () w
  | 0, t, x, v, e, d', h, _, _ => by cases h
  | d + 1, t, x, v, e, 0, h, _, hd => by omega
  | d + 1, t, x, v, e, d' + 1, h, hv, hd => by
    unfold ckX at h
    split at h
    · rename_i fs cs hun
      obtain ⟨vs, rfl, hvs⟩ := hv
      rw [run_ck_struct hun]
      exact ckXs_ok h hvs (by omega)
    · cases h
    · cases h
    · cases h
    · rename_i D n2 n1 n3 hun _
      simp only [Instr.checkKey, Sem.run_bind, run_und hun, Result.andThen_ok]
      cases D <;> first | exact absurd rfl (n1 _) | exact absurd rfl (n2 _) | exact absurd rfl (n3 _ _) | rfl
    · cases h
theorem ckXs_ok : ∀ {d : Nat} {fs : List Field} {cs : List XV} {vs : Array Value} {e : Bool} {d' : Nat}, ckXs P d fs cs = true → VRs β cs vs.toList → d ≤ d' → (ckFs e d' vs fs).run P w = .ok () w
  | 0, [], cs, vs, e, d', h, _, _ => rfl
  | d + 1, [], cs, vs, e, d', h, _, _ => rfl
  | 0, f :: fs, cs, vs, e, d', h, _, _ => by unfold ckXs at h; cases h
  | d + 1, f :: fs, cs, vs, e, d', h, hv, hd => by
    unfold ckXs at h
    split at h
    · rename_i y hnm hy
      have hnm : f.name ≠ "_" := by simpa using hnm
      obtain ⟨v, k1, k2⟩ := xpart_ok (w := w) hv hy
      split at h
      · rename_i hq
        unfold ckFs
        rw [if_pos hnm]
        simp only [Sem.run_bind, k1, Result.andThen_ok, ckX_ok hq k2 (by omega : d ≤ d')]
        exact ckXs_ok h hv (by omega)
      · cases h
    · cases h
end
/-- An entry is sought. -/
def findX (P : Program) (t : TypeId) (k : XV) : List AE → Nat → Option (Option (Nat × AE))
  | [], _ => some none
  | e :: es, i => match xeq P 20 t k e.key with
    | some true => some (some (i, e))
    | some false => findX P t k es (Nat.succ i)
    | none => none
def simpleD : TypeDesc → Bool
  | .int _ | .string | .bool => true
  | _ => false
def FoundR (β : Ren) (arr : List MapEntry) (i0 : Nat) : Option (Nat × AE) → Option (Nat × Value) → Prop
  | none, none => True
  | some (i, e), some (j, v) => i = j ∧ i0 ≤ i ∧ VR β e.val v ∧ ∃ m, arr[i - i0]? = some m ∧ m.val = v ∧ VR β e.key m.key ∧ m.born = e.born
  | _, _ => False
theorem sameNow_ok {d : Nat} {t : TypeId} {D : TypeDesc} {x y : XV} {v u : Value} {r : Bool} (hD : P.underlying t = some D) (hs : simpleD D = true) (h : xeq P d t x y = some r) (hv : VR β x v) (hu : VR β y u) : Instr.sameNow D v u = some r := by
  cases d with
  | zero => cases h
  | succ d =>
    unfold xeq at h
    rw [hD] at h
    cases D <;> first
      | (cases hs; done)
      | skip
    · cases x <;> first | (cases h; done) | skip
      cases y <;> first | (cases h; done) | skip
      rw [VR] at hv hu
      subst hv; subst hu
      cases h
      rw [beqB_ok]; rfl
    · cases x <;> first | (cases h; done) | skip
      cases y <;> first | (cases h; done) | skip
      simp only at h
      split at h
      · rename_i hk
        have hk := keq_ok hk
        subst hk
        rw [VR] at hv hu
        subst hv; subst hu
        cases h
        rw [ieq_ok]
        simp [Instr.sameNow]
      · cases h
    · cases x <;> first | (cases h; done) | skip
      cases y <;> first | (cases h; done) | skip
      cases h
      obtain ⟨s, rfl, hs⟩ := hv
      obtain ⟨s', rfl, hs'⟩ := hu
      rw [← hs.eq_iff hs', ← beq_toListBytes]
      rfl
theorem sameNow_none {D : TypeDesc} (hs : simpleD D = false) (v u : Value) : Instr.sameNow D v u = none := by
  cases D <;> first | (cases hs; done) | rfl
theorem findX_now {t : TypeId} {D : TypeDesc} {k : XV} {kv : Value} (hD : P.underlying t = some D) (hs : simpleD D = true) (hk : VR β k kv) : ∀ {es : List AE} {arr : List MapEntry} {i : Nat} {r : Option (Nat × AE)}, findX P t k es i = some r → ERs β es arr → ∃ q, Instr.findNow D kv arr i = some q ∧ FoundR β arr i r q
  | [], arr, i, r, h, he => by rw [show arr = [] from he]; cases h; exact ⟨none, rfl, trivial⟩
  | e :: es, _, i, r, h, ⟨m, arr, rfl, h1, h2, h3, h4⟩ => by
    unfold findX at h
    split at h
    · rename_i hq
      cases h
      refine ⟨some (i, m.val), ?_, rfl, Nat.le_refl _, h2, m, by simp, rfl, h1, h3⟩
      unfold Instr.findNow
      rw [sameNow_ok hD hs hq hk h1]
    · rename_i hq
      obtain ⟨q, k1, k2⟩ := findX_now hD hs hk h h4
      refine ⟨q, ?_, ?_⟩
      · unfold Instr.findNow
        rw [sameNow_ok hD hs hq hk h1]
        exact k1
      · cases r with
        | none => cases q with
          | none => trivial
          | some _ => exact k2.elim
        | some p => cases q with
          | none => exact k2.elim
          | some q =>
            obtain ⟨c1, c2, c3, m', c4, c5⟩ := k2
            refine ⟨c1, by omega, c3, m', ?_, c5⟩
            rw [show p.1 - i = (p.1 - (i + 1)) + 1 by omega]
            simpa using c4
    · cases h
theorem findX_ask {t : TypeId} {k : XV} {kv : Value} (hk : VR β k kv) : ∀ {es : List AE} {arr : List MapEntry} {i : Nat} {r : Option (Nat × AE)}, findX P t k es i = some r → ERs β es arr → ∃ q, (Instr.findAsking t kv arr i).run P w = .ok q w ∧ FoundR β arr i r q
  | [], arr, i, r, h, he => by rw [show arr = [] from he]; cases h; exact ⟨none, rfl, trivial⟩
  | e :: es, _, i, r, h, ⟨m, arr, rfl, h1, h2, h3, h4⟩ => by
    unfold findX at h
    split at h
    · rename_i hq
      cases h
      refine ⟨some (i, m.val), ?_, rfl, Nat.le_refl _, h2, m, by simp, rfl, h1, h3⟩
      unfold Instr.findAsking
      simp only [Sem.run_bind, Op.equal, xeq_ok hq hk h1 (show 20 ≤ Op.maxDepth by unfold Op.maxDepth; omega), Result.andThen_ok, if_true, Sem.run_pure]
    · rename_i hq
      obtain ⟨q, k1, k2⟩ := findX_ask hk h h4
      refine ⟨q, ?_, ?_⟩
      · unfold Instr.findAsking
        simp only [Sem.run_bind, Op.equal, xeq_ok hq hk h1 (show 20 ≤ Op.maxDepth by unfold Op.maxDepth; omega), Result.andThen_ok, Bool.false_eq_true, if_false]
        exact k1
      · cases r with
        | none => cases q with
          | none => trivial
          | some _ => exact k2.elim
        | some p => cases q with
          | none => exact k2.elim
          | some q =>
            obtain ⟨c1, c2, c3, m', c4, c5⟩ := k2
            refine ⟨c1, by omega, c3, m', ?_, c5⟩
            rw [show p.1 - i = (p.1 - (i + 1)) + 1 by omega]
            simpa using c4
    · cases h
theorem findKey_ok {t : TypeId} {k : XV} {kv : Value} (hk : VR β k kv) {es : List AE} {arr : List MapEntry} {r : Option (Nat × AE)} (hx : findX P t k es 0 = some r) (he : ERs β es arr) {D : TypeDesc} (hD : P.underlying t = some D) : ∃ q, (Instr.findKey t kv arr).run P w = .ok q w ∧ FoundR β arr 0 r q := by
  unfold Instr.findKey
  simp only [Sem.run_bind, run_und hD, Result.andThen_ok]
  cases hs : simpleD D with
  | true =>
    obtain ⟨q, h1, h2⟩ := findX_now hD hs hk hx he
    rw [h1]
    exact ⟨q, rfl, h2⟩
  | false =>
    cases arr with
    | nil =>
      cases es with
      | nil => cases hx; exact ⟨none, rfl, trivial⟩
      | cons e es => obtain ⟨_, _, q, _⟩ := he; cases q
    | cons m arr =>
      have : Instr.findNow D kv (m :: arr) 0 = none := by
        unfold Instr.findNow
        rw [sameNow_none hs]
      rw [this]
      exact findX_ask hk hx he
def okX (ok b : Bool) (x : XV) : XV :=
  match ok with
  | true => .tup [x, .bool b]
  | false => x
theorem okX_ok {ok b : Bool} {x : XV} {v : Value} (hv : VR β x v) : VR β (okX ok b x) (if ok = true then .tuple #[v, .bool b] else v) := by
  cases ok with
  | true => exact ⟨_, rfl, .cons hv (.cons rfl .nil)⟩
  | false => exact hv
def lookX (P : Program) (t : TypeId) (k : XV) (ok : Bool) (es : List AE) : Option XV :=
  match P.underlying t with
  | some (.map kt vt) => match P.underlying kt, ckX P 20 kt k, findX P kt k es 0, zeroOf P vt with
    | some _, true, some (some (_, e)), _ => some (okX ok true e.val)
    | some _, true, some none, some z => some (okX ok false z)
    | _, _, _, _ => none
  | _ => none
/-- An entry is sought, in whatever order. -/
def findU (P : Program) (t : TypeId) (k : XV) : List AE → Option (Option AE)
  | [] => some none
  | e :: es => match xeq P 20 t k e.key, findU P t k es with
    | some true, some none => some (some e)
    | some false, some r => some r
    | _, _ => none
theorem findU_none {t : TypeId} {k : XV} : ∀ {es : List AE}, findU P t k es = some none → ∀ e, e ∈ es → xeq P 20 t k e.key = some false
  | [], _, e, he => by simp at he
  | x :: es, h, e, he => by
    unfold findU at h
    split at h
    · cases h
    · rename_i r q1 q2
      cases h
      rcases List.mem_cons.1 he with rfl | he
      · exact q1
      · exact findU_none q2 e he
    · cases h
theorem findU_some {t : TypeId} {k : XV} {e : AE} : ∀ {es : List AE}, findU P t k es = some (some e) → ∃ l1 l2, es = l1 ++ e :: l2 ∧ xeq P 20 t k e.key = some true ∧ ∀ x, x ∈ l1 ++ l2 → xeq P 20 t k x.key = some false
  | [], h => by cases h
  | x :: es, h => by
    unfold findU at h
    split at h
    · rename_i q1 q2
      cases h
      exact ⟨[], es, rfl, q1, fun y hy => findU_none q2 y hy⟩
    · rename_i r q1 q2
      cases h
      obtain ⟨l1, l2, h1, h2, h3⟩ := findU_some q2
      refine ⟨x :: l1, l2, by rw [h1]; rfl, h2, fun y hy => ?_⟩
      rcases List.mem_cons.1 hy with rfl | hy
      · exact q1
      · exact h3 y hy
    · cases h
theorem findX_none {t : TypeId} {k : XV} : ∀ {es : List AE} {i : Nat}, (∀ e, e ∈ es → xeq P 20 t k e.key = some false) → findX P t k es i = some none
  | [], i, _ => rfl
  | e :: es, i, h => by
    unfold findX
    rw [h e (List.mem_cons_self ..)]
    exact findX_none (fun x hx => h x (List.mem_cons_of_mem _ hx))
theorem findX_at {t : TypeId} {k : XV} {e : AE} {l2 : List AE} (he : xeq P 20 t k e.key = some true) : ∀ {l1 : List AE} {i : Nat}, (∀ x, x ∈ l1 → xeq P 20 t k x.key = some false) → findX P t k (l1 ++ e :: l2) i = some (some (i + l1.length, e))
  | [], i, _ => by
    show findX P t k (e :: l2) i = _
    unfold findX
    rw [he]
    rfl
  | x :: l1, i, h => by
    show findX P t k (x :: (l1 ++ e :: l2)) i = _
    unfold findX
    rw [h x (List.mem_cons_self ..)]
    show findX P t k (l1 ++ e :: l2) (i + 1) = _
    rw [findX_at he (fun y hy => h y (List.mem_cons_of_mem _ hy))]
    congr 3
    simp; omega
/-- The same, in the order that there is. -/
theorem findU_any {t : TypeId} {k : XV} {es es' : List AE} (hp : (es'.map AE.strip).Perm es) {r : Option AE} (h : findU P t k es = some r) : match r with
    | none => findX P t k es' 0 = some none
    | some e => ∃ i e', findX P t k es' 0 = some (some (i, e')) ∧ e'.strip = e := by
  have hmem : ∀ e', e' ∈ es' → e'.strip ∈ es := fun e' he => hp.mem_iff.1 (List.mem_map_of_mem he)
  cases r with
  | none => exact findX_none (fun e' he => findU_none h e'.strip (hmem e' he))
  | some e =>
    obtain ⟨l1, l2, h1, h2, h3⟩ := findU_some h
    have he : e ∈ es'.map AE.strip := hp.mem_iff.2 (by rw [h1]; simp)
    obtain ⟨e', he', hs⟩ := List.mem_map.1 he
    obtain ⟨m1, m2, hm⟩ := List.append_of_mem he'
    have hperm : ((m1 ++ m2).map AE.strip).Perm (l1 ++ l2) := by
      have q : (e :: (m1 ++ m2).map AE.strip).Perm (e :: (l1 ++ l2)) := by
        have a1 : (e :: (m1 ++ m2).map AE.strip).Perm (es'.map AE.strip) := by
          rw [hm, List.map_append, List.map_append, List.map_cons, hs]
          exact List.perm_middle.symm
        have a2 : es.Perm (e :: (l1 ++ l2)) := by rw [h1]; exact List.perm_middle
        exact (a1.trans hp).trans a2
      exact q.cons_inv
    have hkey : xeq P 20 t k e'.key = some true := by
      have : e'.key = e.key := by rw [← hs]; rfl
      rw [this]; exact h2
    refine ⟨0 + m1.length, e', ?_, hs⟩
    rw [hm]
    refine findX_at hkey (fun x hx => ?_)
    have hx' : x.strip ∈ l1 ++ l2 := hperm.mem_iff.1 (List.mem_map_of_mem (List.mem_append_left _ hx))
    exact h3 x.strip hx'
def lookU (P : Program) (t : TypeId) (k : XV) (ok : Bool) (es : List AE) : Option XV :=
  match P.underlying t with
  | some (.map kt vt) => match P.underlying kt, ckX P 20 kt k, findU P kt k es, zeroOf P vt with
    | some _, true, some (some e), _ => some (okX ok true e.val)
    | some _, true, some none, some z => some (okX ok false z)
    | _, _, _, _ => none
  | _ => none
theorem lookU_any {t : TypeId} {k y : XV} {ok : Bool} {es es' : List AE} (hp : (es'.map AE.strip).Perm es) (h : lookU P t k ok es = some y) : lookX P t k ok es' = some y := by
  unfold lookU at h
  unfold lookX
  split at h
  · rename_i kt vt ht
    split at h
    · rename_i D e q1 q2 q3
      cases h
      obtain ⟨i, e', h1, h2⟩ := findU_any hp q3
      rw [q1, q2, h1]
      simp only
      rw [← h2]; rfl
    · rename_i D z q1 q2 q3 q4
      cases h
      have := findU_any hp q3
      simp only at this
      rw [q1, q2, this, q4]
    · cases h
  · cases h
theorem strip_real {β : Ren} {es es' : List AE} (hp : es'.Perm (es.map (AE.real β))) : (es'.map AE.strip).Perm (es.map AE.strip) := by
  have := hp.map AE.strip
  rw [List.map_map] at this
  exact this
def xlookup (P : Program) (h : Heap) (t : TypeId) (x k : XV) (ok : Bool) : Option XV :=
  match x with
  | .nilm => lookX P t k ok []
  | .map b => match h.get b with
    | some (.map es _) => lookX P t k ok es
    | some (.umap es _) => lookU P t k ok es
    | some (.lmap es _) => lookU P t k ok (es.map AE.strip)
    | _ => none
  | _ => none
theorem lookX_ok {t : TypeId} {k y : XV} {kv v : Value} {ok : Bool} (hk : VR β k kv) {es : List AE} {arr : Array MapEntry} (he : ERs β es arr.toList) (hy : lookX P t k ok es = some y)
    (hv : (v = .map none ∧ arr = #[]) ∨ ∃ rb clk, v = .map (some rb) ∧ (getObj rb).run P w = .ok (.map arr clk) w) : RunV P w β (Instr.lookup t v kv ok) y := by
  unfold lookX at hy
  split at hy
  · rename_i kt vt hun
    have fin : ∀ {D u b}, P.underlying kt = some D → (Instr.checkKey arr.isEmpty 10000 kt kv).run P w = .ok () w → ((do
        let (v, o) ← match ← Instr.findKey kt kv arr.toList with
          | some (_, v) => pure (v, true)
          | none => pure (← zeroValue vt, false)
        pure (if ok then .tuple #[v, .bool o] else v) : Sem Value)).run P w = .ok (if ok = true then .tuple #[u, .bool b] else u) w → (Instr.lookup t v kv ok).run P w = .ok (if ok = true then .tuple #[u, .bool b] else u) w := by
      intro D u b hD h1 h2
      rw [← h2]
      rcases hv with ⟨rfl, rfl⟩ | ⟨rb, clk, rfl, hg⟩
      · simp only [Instr.lookup, Sem.run_bind, run_und hun, Result.andThen_ok, Sem.run_pure, h1]
        rfl
      · simp only [Instr.lookup, Sem.run_bind, run_und hun, Result.andThen_ok, Sem.run_pure, hg, h1]
        rfl
    split at hy
    · rename_i D i e hD hc hf
      cases hy
      obtain ⟨q, h1, h2⟩ := findKey_ok (w := w) hk hf he hD
      cases q with
      | none => exact h2.elim
      | some p =>
        obtain ⟨c1, c2, c3, _⟩ := h2
        refine ⟨_, fin (u := p.2) (b := true) hD (ckX_ok hc hk (by omega)) ?_, okX_ok c3⟩
        simp only [Sem.run_bind, h1, Result.andThen_ok, Sem.run_pure]
    · rename_i D z hD hc hf hz
      cases hy
      obtain ⟨q, h1, h2⟩ := findKey_ok (w := w) hk hf he hD
      obtain ⟨z', k1, k2⟩ := run_zero hz
      cases q with
      | some p => exact h2.elim
      | none =>
        refine ⟨_, fin (u := z') (b := false) hD (ckX_ok hc hk (by omega)) ?_, okX_ok (ofV_ok k1)⟩
        simp only [Sem.run_bind, h1, Result.andThen_ok, Sem.run_pure, k2]
    · cases hy
  · cases hy
theorem xlookup_ok (hr : HR B β h nx w) {t : TypeId} {x k y : XV} {v kv : Value} {ok : Bool} (hv : VR β x v) (hk : VR β k kv) (hx : xlookup P h t x k ok = some y) : RunV P w β (Instr.lookup t v kv ok) y := by
  unfold xlookup at hx
  split at hx
  · rw [VR] at hv
    subst hv
    exact lookX_ok (es := []) (arr := #[]) hk (show _ = _ from rfl) hx (.inl ⟨rfl, rfl⟩)
  · rename_i b
    split at hx
    · rename_i es clk hg
      obtain ⟨bi, hbi, rfl⟩ := hv
      obtain ⟨arr, q1, q2⟩ := hr.blk b bi _ hbi hg
      exact lookX_ok hk q2 hx (.inr ⟨bi.rb, clk, rfl, run_getObj q1 (fun _ _ _ e => by cases e)⟩)
    · rename_i es clk hg
      obtain ⟨bi, hbi, rfl⟩ := hv
      obtain ⟨arr, es', q1, q3, q2, _⟩ := hr.blk b bi _ hbi hg
      exact lookX_ok hk q2 (lookU_any q3 hx) (.inr ⟨bi.rb, clk, rfl, run_getObj q1 (fun _ _ _ e => by cases e)⟩)
    · rename_i es clk hg
      obtain ⟨bi, hbi, rfl⟩ := hv
      obtain ⟨arr, es', q1, q3, _, q2, _⟩ := hr.blk b bi _ hbi hg
      exact lookX_ok hk q2 (lookU_any (strip_real q3) hx) (.inr ⟨bi.rb, clk, rfl, run_getObj q1 (fun _ _ _ e => by cases e)⟩)
    · cases hx
  · cases hx
def xrange (P : Program) (h : Heap) (id : Nat) (t : TypeId) (x : XV) : Option (XV × AO) :=
  match P.underlying t, x with
  | some .string, .str l n => some (.ptr id 0, .siter l n 0)
  | some (.map _ _), .nilm => some (.ptr id 0, .miter none 0 none [] 0)
  | some (.map _ _), .map b => match h.get b with
    | some (.map _ clk) => some (.ptr id 0, .miter (some b) clk none [] clk)
    | _ => none
  | _, _ => none
theorem newIt_ok {id : Nat} {s : Sem Value} {o : Obj} {ob : AO} (hrun : s.run P w = .ok (.pointer (some ⟨w.heap.size, 0, none⟩)) { w with heap := w.heap.push o }) (hb : ∀ β' (w' : World) bi, Ext β β' → w'.heap[bi.rb]? = some o → bi.base = 0 → BR β' w' bi ob) :
    RunA P w β id s (.ptr id 0) ob :=
  ⟨_, _, hrun, ⟨⟨w.heap.size, 0, 0⟩, rfl, fun k hk => push_ne w _ hk, by simp, push_below w _, fun β' hext hid => ⟨hb β' _ _ hext (push_at w o) rfl, ⟨_, hid, rfl⟩⟩⟩⟩
theorem xrange_ok (hr : HR B β h nx w) {id : Nat} {t : TypeId} {x y : XV} {v : Value} {ob : AO} (hv : VR β x v) (hx : xrange P h id t x = some (y, ob)) : RunA P w β id (Instr.range t v) y ob := by
  unfold xrange at hx
  split at hx
  · rename_i l n hun
    cases hx
    obtain ⟨s, rfl, hs⟩ := hv
    exact newIt_ok (o := .stringIter s 0) (by simp [Instr.range, run_und hun]) (fun β' w' bi _ q q0 => ⟨q0, s, q, hs⟩)
  · rename_i a b hun
    cases hx
    rw [VR] at hv
    subst hv
    exact newIt_ok (o := .mapIter none 0 #[] 0) (by simp [Instr.range, run_und hun]) (fun β' w' bi _ q q0 => ⟨q0, none, #[], q, (by simp), (fun _ e => by cases e), rfl⟩)
  · rename_i a b bb hun
    split at hx
    · rename_i es clk hg
      cases hx
      obtain ⟨bi, hbi, rfl⟩ := hv
      obtain ⟨arr, q1, q2⟩ := hr.blk bb bi _ hbi hg
      have hgo : (getObj bi.rb).run P w = .ok (.map arr clk) w := run_getObj q1 (fun _ _ _ e => by cases e)
      exact newIt_ok (o := .mapIter (some bi.rb) clk #[] clk) (by simp [Instr.range, run_und hun, hgo]) (fun β' w' bj hext q q0 => ⟨q0, some bi.rb, #[], q, (by simp), (fun _ e => by cases e), bi, hext _ _ hbi, rfl⟩)
    · cases hx
  · cases hx
end
end
end Go.Proofs.YtohcohbbmjhnfaaGreatDoor.X
