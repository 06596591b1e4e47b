/-
Closed runs: maps that change, iterators that step, bytes of strings. Condition: none.
-/
import Derived.Test.YtohcohbbmjhnfaaGreatDoorXK
set_option linter.unusedVariables false
set_option linter.unusedSectionVars false
set_option linter.unusedSimpArgs false
namespace Go.Proofs.YtohcohbbmjhnfaaGreatDoor.X
open Go Go.RowKit
noncomputable section
variable [Tabs]
section
variable {P : Program} {B fl : Nat} {β : Ren} {h : Heap} {nx : Nat} {w : World}
/-! ### maps -/
mutual
/-- The same key, cell by cell. -/
def sameX : XV → XV → Bool
  | .bool a, .bool b => beqB a b
  | .int j a, .int k b => keq j k && ieq a b
  | .str l n, .str l' n' => Nat.beq l l' && Nat.beq n n'
  | .agg as, .agg bs => sameXs as bs
  | _, _ => false
def sameXs : List XV → List XV → Bool
  | [], [] => true
  | .bool a :: as, .bool b :: bs => beqB a b && sameXs as bs
  | .int j a :: as, .int k b :: bs => (keq j k && ieq a b) && sameXs as bs
  | .str l n :: as, .str l' n' :: bs => (Nat.beq l l' && Nat.beq n n') && sameXs as bs
  | _, _ => false
end
theorem kk_eq {j k : IntKind} (h : keq j k = true) : (j == k) = true := by rw [keq_ok h]; simp
theorem sameXs_ok {d : Nat} : ∀ {as bs : List XV} {vs us : List Value}, sameXs as bs = true → VRs β as vs → VRs β bs us → vs.length = us.length ∧ (vs.zip us).all (fun (x, y) => Instr.sameBits d x y) = true
  | [], [], vs, us, _, h1, h2 => by rw [show vs = [] from h1, show us = [] from h2]; exact ⟨rfl, rfl⟩
  | [], _ :: _, _, _, h, _, _ => by cases h
  | a :: as, [], _, _, h, _, _ => by cases a <;> cases h
  | a :: as, b :: bs, _, _, h, ⟨v, vs, rfl, hv, hvs⟩, ⟨u, us, rfl, hu, hus⟩ => by
    have key : Instr.sameBits d v u = true ∧ sameXs as bs = true := by
      cases a <;> cases b <;> first | (cases h; done) | skip
      · rw [sameXs, Bool.and_eq_true, Bool.and_eq_true, ieq_ok] at h
        rw [VR] at hv hu
        subst hv; subst hu
        refine ⟨?_, h.2⟩
        cases d <;> simp [Instr.sameBits, keq_ok h.1.1] <;> simpa using h.1.2
      · rw [sameXs, Bool.and_eq_true, beqB_ok] at h
        rw [VR] at hv hu
        subst hv; subst hu
        refine ⟨?_, h.2⟩
        cases d <;> simpa [Instr.sameBits] using h.1
      · rw [sameXs, Bool.and_eq_true] at h
        obtain ⟨s, rfl, hs⟩ := hv
        obtain ⟨s', rfl, hs'⟩ := hu
        rw [← hs.eq_iff hs', ← beq_toListBytes] at h
        refine ⟨?_, h.2⟩
        cases d <;> exact h.1
    obtain ⟨k1, k2⟩ := sameXs_ok (d := d) key.2 hvs hus
    exact ⟨by simp [k1], by simp [key.1, k2]⟩
theorem sameX_ok {d : Nat} {a b : XV} {v u : Value} (h : sameX a b = true) (hv : VR β a v) (hu : VR β b u) : Instr.sameBits (d + 1) v u = true := by
  cases a <;> cases b <;> first | (cases h; done) | skip
  · rw [sameX, Bool.and_eq_true, ieq_ok] at h
    rw [VR] at hv hu
    subst hv; subst hu
    simp [Instr.sameBits, keq_ok h.1] <;> simpa using h.2
  · rw [sameX, beqB_ok] at h
    rw [VR] at hv hu
    subst hv; subst hu
    simpa [Instr.sameBits] using h
  · obtain ⟨s, rfl, hs⟩ := hv
    obtain ⟨s', rfl, hs'⟩ := hu
    rw [sameX, ← hs.eq_iff hs', ← beq_toListBytes] at h
    exact h
  · obtain ⟨vs, rfl, hvs⟩ := hv
    obtain ⟨us, rfl, hus⟩ := hu
    rw [sameX] at h
    obtain ⟨k1, k2⟩ := sameXs_ok (d := d) h hvs hus
    have : vs.size = us.size := by simpa using k1
    simp [Instr.sameBits, this]
    simpa using k2
def setE : List AE → Nat → AE → List AE
  | [], _, _ => []
  | _ :: es, 0, x => x :: es
  | e :: es, n + 1, x => e :: setE es n x
def addE : List AE → AE → List AE
  | [], x => [x]
  | e :: es, x => e :: addE es x
theorem addE_app : ∀ (es : List AE) (x : AE), addE es x = es ++ [x]
  | [], x => rfl
  | e :: es, x => congrArg (List.cons e) (addE_app es x)
theorem addE_ok : ∀ {es : List AE} {l : List MapEntry} {x : AE} {m : MapEntry}, ERs β es l → VR β x.key m.key → VR β x.val m.val → m.born = x.born → ERs β (addE es x) (l ++ [m])
  | [], l, x, m, h, h1, h2, h3 => by rw [show l = [] from h]; exact ⟨m, [], rfl, h1, h2, h3, rfl⟩
  | e :: es, _, x, m, ⟨m', l, rfl, k1, k2, k3, k4⟩, h1, h2, h3 => ⟨m', l ++ [m], rfl, k1, k2, k3, addE_ok k4 h1 h2 h3⟩
theorem setE_ok : ∀ {es : List AE} {l : List MapEntry} {x : AE} {i : Nat} {f : MapEntry → MapEntry}, ERs β es l → (∀ m, l[i]? = some m → VR β x.key (f m).key ∧ VR β x.val (f m).val ∧ (f m).born = x.born) → ERs β (setE es i x) (l.modify i f)
  | [], l, x, i, f, h, _ => by rw [show l = [] from h]; simp [setE, ERs]
  | e :: es, _, x, 0, f, ⟨m', l, rfl, k1, k2, k3, k4⟩, hf => by
    obtain ⟨h1, h2, h3⟩ := hf m' rfl
    exact ⟨f m', l, by simp, h1, h2, h3, k4⟩
  | e :: es, _, x, i + 1, f, ⟨m', l, rfl, k1, k2, k3, k4⟩, hf => ⟨m', l.modify i f, by simp, k1, k2, k3, setE_ok k4 (fun m hm => hf m (by simpa using hm))⟩
theorem modify_list (arr : Array MapEntry) (i : Nat) (f : MapEntry → MapEntry) : (arr.modify i f).toList = arr.toList.modify i f := by
  simp
/-- A map's entry is set. -/
def updE (P : Program) (t : TypeId) (es : List AE) (clk : Nat) (k x : XV) : Option (List AE × Nat) :=
  match P.underlying t with
  | some (.map kt _) => match P.underlying kt, ckX P 20 kt k, findX P kt k es 0 with
    | some _, true, some (some (i, e)) => match sameX e.key k with
      | true => some (setE es i ⟨k, x, e.born⟩, clk)
      | false => none
    | some _, true, some none => some (addE es ⟨k, x, clk⟩, Nat.succ clk)
    | _, _, _ => none
  | _ => none
/-- Keys in some order. -/
def leX : XV → XV → Bool
  | .str l n, .str l' n' => match Nat.beq l l' with
    | true => Nat.ble n n'
    | false => Nat.ble l l'
  | _, _ => false
def insE (x : AE) : List AE → List AE
  | [] => [x]
  | e :: es => match leX x.key e.key with
    | true => x :: e :: es
    | false => e :: insE x es
theorem insE_perm (x : AE) : ∀ es : List AE, (insE x es).Perm (x :: es)
  | [] => List.Perm.refl _
  | e :: es => by
    unfold insE
    split
    · exact List.Perm.refl _
    · exact ((insE_perm x es).cons e).trans (List.Perm.swap x e es)
def sortE : List AE → List AE
  | [] => []
  | e :: es => insE e (sortE es)
theorem sortE_perm : ∀ es : List AE, (sortE es).Perm es
  | [] => List.Perm.refl _
  | e :: es => (insE_perm e _).trans ((sortE_perm es).cons e)
/-- A new entry, of a map whose order is not known. -/
def addU (P : Program) (t : TypeId) (es : List AE) (clk : Nat) (k x : XV) : Option (List AE × Nat) :=
  match P.underlying t with
  | some (.map kt _) => match P.underlying kt, ckX P 20 kt k, findU P kt k es with
    | some _, true, some none => some (insE ⟨k, x, 0⟩ es, Nat.succ clk)
    | _, _, _ => none
  | _ => none
def xmapUpdate (P : Program) (fl : Nat) (h : Heap) (t : TypeId) (m k x : XV) : Option Heap :=
  match m with
  | .map b => match h.get b, Nat.ble fl b with
    | some (.map es clk), true => match updE P t es clk k x with
      | some (es', clk') => some (h.set b (.map es' clk'))
      | none => none
    | some (.umap es clk), true => match addU P t es clk k x with
      | some (es', clk') => some (h.set b (.umap es' clk'))
      | none => none
    | _, _ => none
  | _ => none
theorem xmapUpdate_ok (hr : HR B β h nx w) {t : TypeId} {m k x : XV} {mv kv xv : Value} {h' : Heap} (hm : VR β m mv) (hk : VR β k kv) (hxv : VR β x xv) (hx : xmapUpdate P fl h t m k x = some h') : RunU P B fl β h nx w (Instr.mapUpdate t mv kv xv) h' nx := by
  unfold xmapUpdate at hx
  split at hx
  · rename_i b
    split at hx
    · rename_i es clk hg hfl
      have hfl := Nat.le_of_ble_eq_true hfl
      obtain ⟨bi, hb, rfl⟩ := hm
      obtain ⟨arr, q1, q2⟩ := hr.blk b bi _ hb hg
      have hgo : (getObj bi.rb).run P w = .ok (.map arr clk) w := run_getObj q1 (fun _ _ _ e => by cases e)
      split at hx
      · rename_i es' clk' hu
        cases hx
        unfold updE at hu
        split at hu
        · rename_i kt vt ht
          split at hu
          · rename_i D i e hD hc hf
            obtain ⟨q, h1, h2⟩ := findKey_ok (w := w) hk hf q2 hD
            cases q with
            | none => exact h2.elim
            | some p =>
              obtain ⟨c1, c2, c3, mm, c4, c5, c6, c7⟩ := h2
              rw [Nat.sub_zero] at c4
              split at hu
              · rename_i hsame
                cases hu
                have hkeep : ∀ w : World, (Instr.keyThatStays (((arr[p.1]?).map (·.key)).getD kv) kv).run P w = .ok kv w := fun w => by
                  have : arr[p.1]? = some mm := by rw [← c1]; simpa using c4
                  rw [this]
                  have hsb := sameX_ok (d := 9999) hsame c6 hk
                  show (Instr.keyThatStays mm.key kv).run P w = _
                  unfold Instr.keyThatStays
                  rw [hsb]
                  rfl
                obtain ⟨s1, s2⟩ := setObj_ok (P := P) (fl := fl) (o' := .map (arr.modify p.1 fun e => { e with key := kv, val := xv }) clk) (ob' := .map (setE es i ⟨k, x, e.born⟩) clk) hr hb hg rfl rfl hfl q1 (fun _ _ _ e => by cases e) (fun w' h1 => by
                  refine ⟨_, h1, ?_⟩
                  rw [modify_list, ← c1]
                  refine setE_ok q2 (fun m' hm' => ?_)
                  have : m' = mm := by rw [c4] at hm'; cases hm'; rfl
                  subst this
                  exact ⟨hk, hxv, c7⟩)
                refine ⟨_, β, ?_, s2⟩
                simp only [Instr.mapUpdate, Sem.run_bind, run_und ht, Result.andThen_ok, hgo, ckX_ok hc hk (show 20 ≤ 10000 by omega), h1, hkeep]
                exact s1
              · cases hu
          · rename_i D hD hc hf
            obtain ⟨q, h1, h2⟩ := findKey_ok (w := w) hk hf q2 hD
            cases q with
            | some p => exact h2.elim
            | none =>
              cases hu
              obtain ⟨s1, s2⟩ := setObj_ok (P := P) (fl := fl) (o' := .map (arr.push { key := kv, val := xv, born := clk }) (clk + 1)) (ob' := .map (addE es ⟨k, x, clk⟩) (clk + 1)) hr hb hg rfl rfl hfl q1 (fun _ _ _ e => by cases e) (fun w' h1 => by
                refine ⟨_, h1, ?_⟩
                rw [Array.toList_push]
                exact addE_ok q2 hk hxv rfl)
              refine ⟨_, β, ?_, s2⟩
              simp only [Instr.mapUpdate, Sem.run_bind, run_und ht, Result.andThen_ok, hgo, ckX_ok hc hk (show 20 ≤ 10000 by omega), h1]
              exact s1
          · cases hu
        · cases hu
      · cases hx
    · rename_i es clk hg hfl
      have hfl := Nat.le_of_ble_eq_true hfl
      obtain ⟨bi, hb, rfl⟩ := hm
      obtain ⟨arr, es0, q1, qp, q2, qb⟩ := hr.blk b bi _ hb hg
      have hgo : (getObj bi.rb).run P w = .ok (.map arr clk) w := run_getObj q1 (fun _ _ _ e => by cases e)
      split at hx
      · rename_i es' clk' hu
        cases hx
        unfold addU at hu
        split at hu
        · rename_i kt vt ht
          split at hu
          · rename_i D hD hc hf
            have hf' := findU_any qp hf
            simp only at hf'
            obtain ⟨q, h1, h2⟩ := findKey_ok (w := w) hk hf' q2 hD
            cases q with
            | some p => exact h2.elim
            | none =>
              cases hu
              obtain ⟨s1, s2⟩ := setObj_ok (P := P) (fl := fl) (o' := .map (arr.push { key := kv, val := xv, born := clk }) (clk + 1)) (ob' := .umap (insE ⟨k, x, 0⟩ es) (clk + 1)) hr hb hg rfl rfl hfl q1 (fun _ _ _ e => by cases e) (fun w' h1 => by
                refine ⟨_, addE es0 ⟨k, x, clk⟩, h1, ?_, ?_, ?_⟩
                · refine List.Perm.trans ?_ (insE_perm _ _).symm
                  rw [addE_app, List.map_append]
                  refine List.perm_append_comm.trans ?_
                  exact qp.cons _
                · rw [Array.toList_push]
                  exact addE_ok q2 hk hxv rfl
                · rw [Array.toList_push]
                  refine ⟨?_, fun m hm => ?_⟩
                  · rw [List.map_append, List.nodup_append]
                    refine ⟨qb.nd, by simp, fun a ha b hb => ?_⟩
                    obtain ⟨m, hm, rfl⟩ := List.mem_map.1 ha
                    have := qb.lt m hm
                    simp at hb
                    omega
                  · rcases List.mem_append.1 hm with hm | hm
                    · have := qb.lt m hm; omega
                    · simp at hm; subst hm; show clk < clk + 1; omega)
              refine ⟨_, β, ?_, s2⟩
              simp only [Instr.mapUpdate, Sem.run_bind, run_und ht, Result.andThen_ok, hgo, ckX_ok hc hk (show 20 ≤ 10000 by omega), h1]
              exact s1
          · cases hu
        · cases hu
      · cases hx
    · cases hx
  · cases hx
/-- An entry that is changed in place: its value, its number. -/
def xmapEntry (P : Program) (fl : Nat) (h : Heap) (t : TypeId) (m k : XV) : Option (XV × Heap) :=
  match m with
  | .map b => match h.get b, Nat.ble fl b, P.underlying t with
    | some (.map es clk), true, some (.map kt vt) => match P.underlying kt, ckX P 20 kt k, findX P kt k es 0, zeroOf P vt with
      | some _, true, some (some (i, e)), _ => match sameX e.key k with
        | true => some (.tup [e.val, .int .i64 (.ofNat e.born)], h.set b (.map (setE es i ⟨k, e.val, e.born⟩) clk))
        | false => none
      | some _, true, some none, some z => some (.tup [z, .int .i64 (.ofNat clk)], h.set b (.map (addE es ⟨k, z, clk⟩) (Nat.succ clk)))
      | _, _, _, _ => none
    | _, _, _ => none
  | _ => none
theorem xmapEntry_ok (hr : HR B β h nx w) {t : TypeId} {m k y : XV} {mv kv : Value} {h' : Heap} (hm : VR β m mv) (hk : VR β k kv) (hx : xmapEntry P fl h t m k = some (y, h')) : RunS P B fl β h nx w (Instr.mapEntry t mv kv) y h' nx := by
  unfold xmapEntry at hx
  split at hx
  · rename_i b
    split at hx
    · rename_i es clk kt vt hg hfl ht
      have hfl := Nat.le_of_ble_eq_true hfl
      obtain ⟨bi, hb, rfl⟩ := hm
      obtain ⟨arr, q1, q2⟩ := hr.blk b bi _ hb hg
      have hgo : (getObj bi.rb).run P w = .ok (.map arr clk) w := run_getObj q1 (fun _ _ _ e => by cases e)
      split at hx
      · rename_i D i e hD hc hf
        obtain ⟨q, h1, h2⟩ := findKey_ok (w := w) hk hf q2 hD
        cases q with
        | none => exact h2.elim
        | some p =>
          obtain ⟨c1, c2, c3, mm, c4, c5, c6, c7⟩ := h2
          rw [Nat.sub_zero] at c4
          split at hx
          · rename_i hsame
            cases hx
            have hat : arr[p.1]? = some mm := by rw [← c1]; simpa using c4
            have hkeep : ∀ w : World, (Instr.keyThatStays (((arr[p.1]?).map (·.key)).getD kv) kv).run P w = .ok kv w := fun w => by
              rw [hat]
              have hsb := sameX_ok (d := 9999) hsame c6 hk
              show (Instr.keyThatStays mm.key kv).run P w = _
              unfold Instr.keyThatStays
              rw [hsb]
              rfl
            obtain ⟨s1, s2⟩ := setObj_ok (P := P) (fl := fl) (o' := .map (arr.modify p.1 fun e => { e with key := kv }) clk) (ob' := .map (setE es i ⟨k, e.val, e.born⟩) clk) hr hb hg rfl rfl hfl q1 (fun _ _ _ e => by cases e) (fun w' h1 => by
              refine ⟨_, h1, ?_⟩
              rw [modify_list, ← c1]
              refine setE_ok q2 (fun m' hm' => ?_)
              have : m' = mm := by rw [c4] at hm'; cases hm'; rfl
              subst this
              exact ⟨hk, by rw [← c5] at c3; exact c3, c7⟩)
            refine ⟨.tuple #[p.2, goInt (((arr[p.1]?).map (·.born)).getD 0)], _, β, ?_, s2, _, rfl, .cons c3 (.cons ?_ .nil)⟩
            · simp only [Instr.mapEntry, Sem.run_bind, run_und ht, Result.andThen_ok, hgo, ckX_ok hc hk (show 20 ≤ 10000 by omega), h1, hkeep, s1, Sem.run_pure]
            · rw [VR, hat]
              show goInt (mm.born : Int) = _
              rw [c7]
              rfl
          · cases hx
      · rename_i D z hD hc hf hz
        obtain ⟨q, h1, h2⟩ := findKey_ok (w := w) hk hf q2 hD
        obtain ⟨z', k1, k2⟩ := run_zero hz
        cases q with
        | some p => exact h2.elim
        | none =>
          cases hx
          obtain ⟨s1, s2⟩ := setObj_ok (P := P) (fl := fl) (o' := .map (arr.push { key := kv, val := z', born := clk }) (clk + 1)) (ob' := .map (addE es ⟨k, z, clk⟩) (clk + 1)) hr hb hg rfl rfl hfl q1 (fun _ _ _ e => by cases e) (fun w' h1 => by
            refine ⟨_, h1, ?_⟩
            rw [Array.toList_push]
            exact addE_ok q2 hk (ofV_ok k1) rfl)
          refine ⟨.tuple #[z', goInt clk], _, β, ?_, s2, _, rfl, .cons (ofV_ok k1) (.cons rfl .nil)⟩
          simp only [Instr.mapEntry, Sem.run_bind, run_und ht, Result.andThen_ok, hgo, ckX_ok hc hk (show 20 ≤ 10000 by omega), h1, k2, s1, Sem.run_pure]
      · cases hx
    · cases hx
  · cases hx
/-- The place of the entry of a number. -/
def bornAt : List AE → Nat → Nat → Option (Nat × AE)
  | [], _, _ => none
  | e :: es, s, i => match Nat.beq e.born s with
    | true => some (i, e)
    | false => bornAt es s (Nat.succ i)
theorem bornAt_ok : ∀ {es : List AE} {l : List MapEntry} {s i j : Nat} {e : AE}, bornAt es s i = some (j, e) → ERs β es l → i ≤ j ∧ l.findIdx? (fun m => (m.born : Int) == (s : Int)) = some (j - i) ∧ l.find? (fun m => m.born == s) = l[j - i]? ∧ ∃ m, l[j - i]? = some m ∧ VR β e.key m.key ∧ VR β e.val m.val ∧ m.born = e.born
  | [], l, s, i, j, e, h, _ => by cases h
  | x :: es, _, s, i, j, e, h, ⟨m, l, rfl, k1, k2, k3, k4⟩ => by
    unfold bornAt at h
    split at h
    · rename_i hb
      have hb := beq_t hb
      cases h
      have hs : m.born = s := by rw [k3, hb]
      refine ⟨Nat.le_refl _, ?_, ?_, m, by simp, k1, k2, k3⟩
      · simp [List.findIdx?_cons, hs]
      · simp [List.find?_cons, hs]
    · rename_i hb
      have hb := beq_f hb
      obtain ⟨h1, h2, h3, m', h4, h5⟩ := bornAt_ok h k4
      have hs : ¬ m.born = s := by rw [k3]; exact hb
      have hj : j - i = (j - (i + 1)) + 1 := by omega
      refine ⟨by omega, ?_, ?_, m', by rw [hj]; simpa using h4, h5⟩
      · rw [hj, List.findIdx?_cons]
        have : ((m.born : Int) == (s : Int)) = false := by simp; omega
        rw [this]
        simp [h2]
      · rw [hj, List.find?_cons]
        have : (m.born == s) = false := by simp [hs]
        rw [this]
        simp [h3]
def xentryStore (fl : Nat) (h : Heap) (m s x : XV) : Option Heap :=
  match m, xnat s with
  | .map b, some s => match h.get b, Nat.ble fl b with
    | some (.map es clk), true => match bornAt es s 0 with
      | some (i, e) => some (h.set b (.map (setE es i ⟨e.key, x, e.born⟩) clk))
      | none => none
    | _, _ => none
  | _, _ => none
theorem xentryStore_ok (hr : HR B β h nx w) {t : TypeId} {m s x : XV} {mv sv xv : Value} {h' : Heap} (hm : VR β m mv) (hs : VR β s sv) (hxv : VR β x xv) (hx : xentryStore fl h m s x = some h') : RunU P B fl β h nx w (Instr.entryStore t mv sv xv) h' nx := by
  unfold xentryStore at hx
  split at hx
  · rename_i b n hn
    split at hx
    · rename_i es clk hg hfl
      have hfl := Nat.le_of_ble_eq_true hfl
      obtain ⟨bi, hb, rfl⟩ := hm
      obtain ⟨arr, q1, q2⟩ := hr.blk b bi _ hb hg
      obtain ⟨kk, rfl⟩ := xnat_ok hn hs
      have hgo : (getObj bi.rb).run P w = .ok (.map arr clk) w := run_getObj q1 (fun _ _ _ e => by cases e)
      split at hx
      · rename_i i e hbn
        cases hx
        obtain ⟨_, h2, _, mm, h4, h5, h6, h7⟩ := bornAt_ok hbn q2
        rw [Nat.sub_zero] at h2 h4
        have h2' : arr.findIdx? (fun e => (e.born : Int) == (n : Int)) = some i := by rw [← h2]; cases arr; simp
        obtain ⟨s1, s2⟩ := setObj_ok (P := P) (fl := fl) (o' := .map (arr.modify i fun e => { e with val := xv }) clk) (ob' := .map (setE es i ⟨e.key, x, e.born⟩) clk) hr hb hg rfl rfl hfl q1 (fun _ _ _ e => by cases e) (fun w' h1 => by
          refine ⟨_, h1, ?_⟩
          rw [modify_list]
          refine setE_ok q2 (fun m' hm' => ?_)
          have : m' = mm := by rw [h4] at hm'; cases hm'; rfl
          subst this
          exact ⟨h5, hxv, h7⟩)
        refine ⟨_, β, ?_, s2⟩
        simp only [Instr.entryStore, Sem.run_bind, Sem.run_pure, Result.andThen_ok, hgo, asInt, asIntOf, h2']
        exact s1
      · cases hx
    · cases hx
  · cases hx
def delE : List AE → Nat → List AE
  | [], _ => []
  | _ :: es, 0 => es
  | e :: es, n + 1 => e :: delE es n
theorem delE_ok : ∀ {es : List AE} {l : List MapEntry} {i : Nat}, ERs β es l → ERs β (delE es i) (l.eraseIdx i)
  | [], l, i, h => by rw [show l = [] from h]; simp [delE, ERs]
  | e :: es, _, 0, ⟨m, l, rfl, _, _, _, k4⟩ => by simpa [delE] using k4
  | e :: es, _, i + 1, ⟨m, l, rfl, k1, k2, k3, k4⟩ => ⟨m, l.eraseIdx i, by simp, k1, k2, k3, delE_ok k4⟩
def xdelete (P : Program) (fl : Nat) (h : Heap) (t : TypeId) (m k : XV) : Option Heap :=
  match m with
  | .map b => match h.get b, Nat.ble fl b, P.underlying t with
    | some (.map es clk), true, some (.map kt _) => match P.underlying kt, ckX P 20 kt k, findX P kt k es 0 with
      | some _, true, some (some (i, _)) => some (h.set b (.map (delE es i) clk))
      | some _, true, some none => some (h.set b (.map es clk))
      | _, _, _ => none
    | _, _, _ => none
  | _ => none
theorem xdelete_ok (hr : HR B β h nx w) {t ty : TypeId} {ts : Array TypeId} {m k : XV} {mv kv : Value} {h' : Heap} (hm : VR β m mv) (hk : VR β k kv) (hx : xdelete P fl h t m k = some h') (hts : ts[0]? = some t) : RunS P B fl β h nx w (Builtin.delete_ ts ty #[mv, kv]) (.tup []) h' nx := by
  unfold xdelete at hx
  split at hx
  · rename_i b
    split at hx
    · rename_i es clk kt vt hg hfl ht
      have hfl := Nat.le_of_ble_eq_true hfl
      obtain ⟨bi, hb, rfl⟩ := hm
      obtain ⟨arr, q1, q2⟩ := hr.blk b bi _ hb hg
      have hgo : (getObj bi.rb).run P w = .ok (.map arr clk) w := run_getObj q1 (fun _ _ _ e => by cases e)
      split at hx
      · rename_i D i e hD hc hf
        obtain ⟨q, h1, h2⟩ := findKey_ok (w := w) hk hf q2 hD
        cases q with
        | none => exact h2.elim
        | some p =>
          obtain ⟨c1, c2, c3, _⟩ := h2
          cases hx
          obtain ⟨s1, s2⟩ := setObj_ok (P := P) (fl := fl) (o' := .map (arr.eraseIdxIfInBounds p.1) clk) (ob' := .map (delE es i) clk) hr hb hg rfl rfl hfl q1 (fun _ _ _ e => by cases e) (fun w' h1 => by
            refine ⟨_, h1, ?_⟩
            rw [Array.toList_eraseIdxIfInBounds, ← c1]
            exact delE_ok q2)
          refine ⟨.tuple #[], _, β, ?_, s2, _, rfl, rfl⟩
          simp [Builtin.delete_, hts, run_und ht, hgo, ckX_ok hc hk (show 20 ≤ 10000 by omega), h1, s1]
      · rename_i D hD hc hf
        obtain ⟨q, h1, h2⟩ := findKey_ok (w := w) hk hf q2 hD
        cases q with
        | some p => exact h2.elim
        | none =>
          cases hx
          obtain ⟨s1, s2⟩ := setObj_ok (P := P) (fl := fl) (o' := .map arr clk) (ob' := .map es clk) hr hb hg rfl rfl hfl q1 (fun _ _ _ e => by cases e) (fun w' h1 => ⟨_, h1, q2⟩)
          refine ⟨.tuple #[], _, β, ?_, s2, _, rfl, rfl⟩
          simp [Builtin.delete_, hts, run_und ht, hgo, ckX_ok hc hk (show 20 ≤ 10000 by omega), h1, s1]
      · cases hx
    · cases hx
  · cases hx
end
end
end Go.Proofs.YtohcohbbmjhnfaaGreatDoor.X
