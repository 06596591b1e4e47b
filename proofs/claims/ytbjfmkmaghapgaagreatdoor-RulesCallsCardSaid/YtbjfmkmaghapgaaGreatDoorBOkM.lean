/-
The logic of pure values, continued: maps and iterators. Condition: none.
-/
import Derived.Test.YtbjfmkmaghapgaaGreatDoorBOk6
import Derived.Maps.RangeRun
set_option linter.unusedVariables false
set_option linter.unusedSimpArgs false
set_option linter.unnecessarySimpa false
namespace Go.Proofs.YtbjfmkmaghapgaaGreatDoor.B
open Go.RowKit
open Go.MapKept (IsKey)
open Go.ChangeMaps (setBlock)

/-! ### keys -/
def litV : PV → Value
  | .lit v => v
  | _ => undef
def keyV : PV → Value
  | .agg cs => .agg (cs.map litV).toArray
  | p => litV p
section
variable {P : Program} {τ : Tau} {w : World} {S : Nat → Nat → Prop}
theorem litShape_some {d : TypeDesc} {p : PV} (h : litShape d p = true) : ∃ v, p = .lit v ∧ IsKey d v ∧ v.oneCell' = true ∧ ∀ n, Instr.sameBits n v v = true := by
  unfold litShape at h
  split at h
  · rename_i k k' n
    have : k = k' := by simpa using h
    subst this
    exact ⟨_, rfl, rfl, rfl, fun m => by cases m <;> simp [Instr.sameBits]⟩
  · rename_i s
    refine ⟨_, rfl, trivial, rfl, fun m => ?_⟩
    have : (s == s) = true := by show (s.data == s.data) = true; simp
    cases m <;> simp [Instr.sameBits, this]
  · exact ⟨_, rfl, trivial, rfl, fun m => by cases m <;> simp [Instr.sameBits]⟩
  · cases h
theorem fields_shape : ∀ (fs : List Field) (o : Nat) {cs : List PV}, fieldsShape τ fs o cs = true → ∀ c, c ∈ cs → ∃ d, litShape d c = true
  | [], o, [], _, c, hc => by simp at hc
  | [], o, _ :: _, h, _, _ => by simp [fieldsShape] at h
  | _ :: _, o, [], h, _, _ => by simp [fieldsShape] at h
  | f :: fs, o, c :: cs, h, c', hc => by
    unfold fieldsShape at h
    split at h
    · cases h
    · split at h
      · split at h
        · rename_i ti ht
          rw [Bool.and_eq_true] at h
          rcases List.mem_cons.1 hc with rfl | hc
          · exact ⟨_, h.1⟩
          · exact fields_shape fs (o + 1) h.2 c' hc
        · cases h
      · cases h
/-- A key is what it looks like. -/
theorem key_val {t : TypeId} {p : PV} {v : Value} (h : keyShape τ t p = true) (hr : RepP S w v p) : v = keyV p := by
  unfold keyShape at h
  split at h
  · rename_i ti ht
    split at h
    · rename_i fs hd
      split at h
      · rename_i cs
        rw [Bool.and_eq_true] at h
        obtain ⟨vs, rfl, h1, _, h3⟩ := rep_agg hr
        show Value.agg vs = .agg _
        congr 1
        refine Array.ext (by simpa using h1) (fun i hi hi' => ?_)
        have hc : i < cs.length := by omega
        obtain ⟨d, hl⟩ := fields_shape fs.toList 0 h.2 cs[i] (List.getElem_mem hc)
        obtain ⟨u, hu, _⟩ := litShape_some hl
        have := h3 i vs[i] cs[i] (Array.getElem?_eq_getElem hi) (List.getElem?_eq_getElem hc)
        rw [hu] at this
        rw [(rep_lit this).1]
        simp [hu, litV]
      · cases h
    · obtain ⟨u, rfl, _⟩ := litShape_some h
      exact (rep_lit hr).1
  · cases h
theorem key_inj {t : TypeId} {p q : PV} (hp : keyShape τ t p = true) (hq : keyShape τ t q = true) (e : keyV p = keyV q) : p = q := by
  unfold keyShape at hp hq
  split at hp
  · rename_i ti ht
    simp only [ht] at hq
    split at hp
    · rename_i fs hd
      simp only [hd] at hq
      split at hp
      · rename_i cs
        split at hq
        · rename_i ds
          rw [Bool.and_eq_true] at hp hq
          have e' : (cs.map litV) = ds.map litV := by
            have : Value.agg (cs.map litV).toArray = .agg (ds.map litV).toArray := e
            simpa using this
          have hl : cs.length = ds.length := by simpa using congrArg List.length e'
          congr 1
          refine List.ext_getElem hl (fun i h1 h2 => ?_)
          obtain ⟨_, k1⟩ := fields_shape fs.toList 0 hp.2 cs[i] (List.getElem_mem h1)
          obtain ⟨_, k2⟩ := fields_shape fs.toList 0 hq.2 ds[i] (List.getElem_mem h2)
          obtain ⟨u, hu, _⟩ := litShape_some k1
          obtain ⟨v, hv, _⟩ := litShape_some k2
          have := congrArg (fun l : List Value => l[i]?) e'
          simp only [List.getElem?_map, List.getElem?_eq_getElem h1, List.getElem?_eq_getElem h2, Option.map_some, Option.some.injEq] at this
          rw [hu, hv] at this ⊢
          have this' : u = v := this
          rw [this']
        · cases hq
      · cases hp
    · split at hq
      · rename_i hno _ fs hd; exact (hno fs hd).elim
      · obtain ⟨u, rfl, _⟩ := litShape_some hp
        obtain ⟨v, rfl, _⟩ := litShape_some hq
        have : u = v := e
        rw [this]
  · cases hp
theorem eqLit_shape (td : TypeDesc) (c d : PV) (h1 : litShape td c = true) (h2 : litShape td d = true) : ∃ q, eqLit td c d = some q ∧ (q () = true ↔ c = d) := by
  unfold litShape at h1
  split at h1
  · rename_i k k' a
    have hk : k = k' := by simpa using h1
    subst hk
    cases d with
    | lit u =>
      cases u with
      | int k2 b =>
        have hk : k = k2 := by simpa [litShape] using h2
        subst hk
        exact ⟨fun _ => decide (a = b), by simp [eqLit], by simp⟩
      | _ => simp [litShape] at h2
    | _ => simp [litShape] at h2
  · rename_i a
    cases d with
    | lit u =>
      cases u with
      | string b => exact ⟨fun _ => decide (a = b), by simp [eqLit], by simp⟩
      | _ => simp [litShape] at h2
    | _ => simp [litShape] at h2
  · rename_i a
    cases d with
    | lit u =>
      cases u with
      | bool b => exact ⟨fun _ => decide (a = b), by simp [eqLit], by simp⟩
      | _ => simp [litShape] at h2
    | _ => simp [litShape] at h2
  · cases h1
theorem fields_eq (fs : List Field) : ∀ (o : Nat) {as bs : List PV}, fieldsShape τ fs o (as.drop o) = true → fieldsShape τ fs o (bs.drop o) = true → ∃ q, eqFs τ fs as bs = some q ∧ (q () = true ↔ as.drop o = bs.drop o) := by
  induction fs with
  | nil =>
    intro o as bs ha hb
    refine ⟨fun _ => true, rfl, ?_⟩
    cases h1 : as.drop o with
    | nil =>
      cases h2 : bs.drop o with
      | nil => simp
      | cons => rw [h2] at hb; simp [fieldsShape] at hb
    | cons => rw [h1] at ha; simp [fieldsShape] at ha
  | cons f fs ih =>
    intro o as bs ha hb
    cases h1 : as.drop o with
    | nil => rw [h1] at ha; simp [fieldsShape] at ha
    | cons c cs =>
      cases h2 : bs.drop o with
      | nil => rw [h2] at hb; simp [fieldsShape] at hb
      | cons d ds =>
        rw [h1] at ha
        rw [h2] at hb
        unfold fieldsShape at ha hb
        split at ha
        · cases ha
        · rename_i hname
          rw [if_neg hname] at hb
          split at ha
          · rename_i hoff
            rw [if_pos hoff] at hb
            split at ha
            · rename_i ti ht
              simp only [ht] at hb
              rw [Bool.and_eq_true] at ha hb
              have e1 : as.drop (o + 1) = cs := by rw [← List.drop_drop, h1]; rfl
              have e2 : bs.drop (o + 1) = ds := by rw [← List.drop_drop, h2]; rfl
              have g1 : as[o]? = some c := by have := congrArg (fun l : List PV => l[0]?) h1; simpa [List.getElem?_drop] using this
              have g2 : bs[o]? = some d := by have := congrArg (fun l : List PV => l[0]?) h2; simpa [List.getElem?_drop] using this
              obtain ⟨q, k1, k2⟩ := ih (o + 1) (by rw [e1]; exact ha.2) (by rw [e2]; exact hb.2)
              have hq' := eqLit_shape ti.desc c d ha.1 hb.1
              obtain ⟨q', j1, j2⟩ := hq'
              refine ⟨fun _ => q' () && q (), ?_, ?_⟩
              · unfold eqFs
                rw [if_neg hname, hoff]
                simp only [ht, g1, g2, k1, j1]
              · rw [Bool.and_eq_true, j2, k2, e1, e2, List.cons.injEq]
            · cases ha
          · cases ha
/-- The keys of a map's entries. -/
def KeyR (S : Nat → Nat → Prop) (w : World) (arr : List MapEntry) (ks : List PV) : Prop := arr.length = ks.length ∧ ∀ (i : Nat) e k, arr[i]? = some e → ks[i]? = some k → RepP S w e.key k
open Classical in
theorem find_asking (hτ : TauOK P τ) {kt : TypeId} {ti : TI} {fs : Array Field} (ht : τ kt = some ti) (hd : ti.desc = .struct fs) {key : PV} (hk : keyShape τ kt key = true) : ∀ (arr : List MapEntry) (ks : List PV) (i : Nat), KeyR S w arr ks → (∀ k, k ∈ ks → keyShape τ kt k = true) →
    ((Instr.findAsking kt (keyV key) arr i).run P w = .ok none w ∧ ∀ k, k ∈ ks → k ≠ key) ∨ ∃ j e, (Instr.findAsking kt (keyV key) arr i).run P w = .ok (some (i + j, e.val)) w ∧ arr[j]? = some e ∧ ks[j]? = some key
  | [], [], i, _, _ => .inl ⟨rfl, fun k hk => by simp at hk⟩
  | [], _ :: _, i, h, _ => by have := h.1; simp at this
  | _ :: _, [], i, h, _ => by have := h.1; simp at this
  | e :: arr, k :: ks, i, h, hs => by
    have hk' := hs k (List.mem_cons_self ..)
    have hv : e.key = keyV k := key_val hk' (h.2 0 e k rfl rfl)
    have heq : (Op.equal kt (keyV key) e.key).run P w = .ok (decide (key = k)) w := by
      have hu := hτ.u _ _ ht
      rw [hd] at hu
      have a1 := hk
      have a2 := hk'
      unfold keyShape at a1 a2
      simp only [ht, hd] at a1 a2
      split at a1
      · rename_i cs
        split at a2
        · rename_i ds
          rw [Bool.and_eq_true] at a1 a2
          obtain ⟨q, q1, q2⟩ := fields_eq fs.toList 0 (as := cs) (bs := ds) (by simpa using a1.2) (by simpa using a2.2)
          obtain ⟨g1, g2⟩ := hτ.e _ _ ht a1.1
          have hF : P.fieldsOf kt = fs := by simp [Program.fieldsOf, hu]
          have rep : ∀ (cs : List PV), fieldsShape τ fs.toList 0 cs = true → ∀ (i : Nat) (v : Value) (x : PV), (cs.map litV).toArray[i]? = some v → cs[i]? = some x → RepP S w v x := fun cs hcs i v x hv hx => by
            obtain ⟨_, hl⟩ := fields_shape fs.toList 0 hcs x (List.mem_of_getElem? hx)
            obtain ⟨u, hu, _, h1, _⟩ := litShape_some hl
            rw [List.getElem?_toArray, List.getElem?_map, hx] at hv
            simp [hu, litV] at hv
            subst hv
            rw [hu]
            exact .lit _ h1
          rw [hv]
          show (Op.equalIn 10000 kt (.agg _) (.agg _)).run P w = _
          rw [run_equalIn_agg w 9999 kt _ _ (by rw [hF]; exact hu) g1, hF]
          rw [eqFs_run (S := S) (w := w) hτ (as := cs) (bs := ds) (by simp) (by simp) (rep cs a1.2) (rep ds a2.2) 9998 w _ q1]
          congr 1
          rw [Bool.eq_iff_iff, q2]
          simp
        · cases a2
      · cases a1
    by_cases he : key = k
    · subst he
      refine .inr ⟨0, e, ?_, rfl, rfl⟩
      simp [Instr.findAsking, heq]
    · rw [decide_eq_false he] at heq
      rcases find_asking hτ ht hd hk arr ks (i + 1) ⟨by have := h.1; simpa using this, fun j e' k' h1 h2 => h.2 (j + 1) e' k' (by simpa using h1) (by simpa using h2)⟩ (fun x hx => hs x (List.mem_cons_of_mem _ hx)) with ⟨h1, h2⟩ | ⟨j, e', h1, h2, h3⟩
      · refine .inl ⟨by simp [Instr.findAsking, heq, h1], fun x hx => ?_⟩
        rcases List.mem_cons.1 hx with rfl | hx
        · exact fun q => he q.symm
        · exact h2 x hx
      · exact .inr ⟨j + 1, e', by simp [Instr.findAsking, heq, h1, Nat.add_assoc, Nat.add_comm 1 j], by simpa using h2, by simpa using h3⟩
theorem find_key (hτ : TauOK P τ) {kt : TypeId} {key : PV} {k : Value} (hk : keyShape τ kt key = true) (hr : RepP S w k key) {arr : List MapEntry} {ks : List PV} (hE : KeyR S w arr ks) (hs : ∀ k, k ∈ ks → keyShape τ kt k = true) :
    ((Instr.findKey kt k arr).run P w = .ok none w ∧ ∀ k, k ∈ ks → k ≠ key) ∨ ∃ j e, (Instr.findKey kt k arr).run P w = .ok (some (j, e.val)) w ∧ arr[j]? = some e ∧ ks[j]? = some key ∧ e.key = k := by
  have hkv := key_val hk hr
  have hval : ∀ {j : Nat} {e : MapEntry} {q : PV}, arr[j]? = some e → ks[j]? = some q → e.key = keyV q := fun h1 h2 => key_val (hs _ (List.mem_of_getElem? h2)) (hE.2 _ _ _ h1 h2)
  have hmem : ∀ e, e ∈ arr → ∃ q, q ∈ ks ∧ e.key = keyV q := fun e he => by
    obtain ⟨j, hj, rfl⟩ := List.mem_iff_getElem.1 he
    have hj' : j < ks.length := by rw [← hE.1]; exact hj
    exact ⟨ks[j], List.getElem_mem hj', hval (List.getElem?_eq_getElem hj) (List.getElem?_eq_getElem hj')⟩
  cases ht : τ kt with
  | none => unfold keyShape at hk; simp [ht] at hk
  | some ti =>
    have hu := hτ.u _ _ ht
    by_cases hstruct : ∃ fs, ti.desc = .struct fs
    · obtain ⟨fs, hd⟩ := hstruct
      rw [hd] at hu
      rw [hkv]
      have q := find_asking hτ ht hd hk arr ks 0 hE hs
      have hfk : (Instr.findKey kt (keyV key) arr).run P w = (Instr.findAsking kt (keyV key) arr 0).run P w := by
        cases arr with
        | nil => simp [Instr.findKey, run_underlying hu, Instr.findNow, Instr.findAsking]
        | cons e arr => simp [Instr.findKey, run_underlying hu, Instr.findNow, Instr.sameNow]
      rw [hfk]
      rcases q with q | ⟨j, e, h1, h2, h3⟩
      · exact .inl q
      · exact .inr ⟨j, e, by simpa using h1, h2, h3, hval h2 h3⟩
    · have shp : ∀ q, keyShape τ kt q = true → IsKey ti.desc (keyV q) := fun q hq => by
        unfold keyShape at hq
        simp only [ht] at hq
        split at hq
        · rename_i fs hd; exact absurd ⟨fs, hd⟩ hstruct
        · obtain ⟨u, rfl, h1, _⟩ := litShape_some hq
          exact h1
      rcases Go.MapKept.findNow_spec (d := ti.desc) (k := k) (by rw [hkv]; exact shp _ hk) arr 0 (fun x hx => by
        obtain ⟨q, hq1, hq2⟩ := hmem x hx
        rw [hq2]; exact shp q (hs q hq1)) with ⟨h1, h2⟩ | ⟨j, e, h1, h2, h3⟩
      · refine .inl ⟨Go.MapKept.run_findKey hu h1, fun q hq e => ?_⟩
        subst e
        obtain ⟨j, hj, hje⟩ := List.mem_iff_getElem.1 hq
        have hj' : j < arr.length := by rw [hE.1]; exact hj
        have hv := hval (List.getElem?_eq_getElem hj') (by rw [List.getElem?_eq_getElem hj, hje])
        exact h2 _ (List.getElem_mem hj') (hv.trans hkv.symm)
      · have hj' : j < ks.length := by rw [← hE.1]; exact (List.getElem?_eq_some_iff.1 h2).1
        have hg := List.getElem?_eq_getElem hj'
        have hv := hval h2 hg
        have : ks[j] = key := key_inj (hs _ (List.getElem_mem hj')) hk (by rw [← hv, h3, hkv])
        exact .inr ⟨j, e, by simpa using Go.MapKept.run_findKey hu h1, h2, by rw [hg, this], h3⟩
theorem run_forIn_fields {w' : World} (body : Field → Sem (ForInStep PUnit)) : ∀ (l : List Field), (∀ f, f ∈ l → (body f).run P w' = .ok (.yield PUnit.unit) w') → (forIn l PUnit.unit (fun f _ => body f) : Sem PUnit).run P w' = .ok PUnit.unit w'
  | [], _ => by simp
  | f :: l, h => by
    rw [List.forIn_cons]
    simp only [Sem.run_bind, h f (List.mem_cons_self ..), Result.andThen_ok]
    exact run_forIn_fields body l (fun g hg => h g (List.mem_cons_of_mem _ hg))
theorem check_key (hτ : TauOK P τ) {kt : TypeId} {key : PV} {k : Value} (hk : keyShape τ kt key = true) (hr : RepP S w k key) (em : Bool) : (Instr.checkKey em 10000 kt k).run P w = .ok () w := by
  have hkv := key_val hk hr
  cases ht : τ kt with
  | none => unfold keyShape at hk; simp [ht] at hk
  | some ti =>
    have hu := hτ.u _ _ ht
    unfold keyShape at hk
    simp only [ht] at hk
    split at hk
    · rename_i fs hd
      rw [hd] at hu
      split at hk
      · rename_i cs
        rw [Bool.and_eq_true] at hk
        obtain ⟨vs, rfl, h1, _, h3⟩ := rep_agg hr
        unfold Instr.checkKey
        simp only [Sem.run_bind, run_underlying hu, Result.andThen_ok]
        have hall : ∀ (l : List Field) (o : Nat), fieldsShape τ l o (cs.drop o) = true → ∀ f, f ∈ l → ((if f.name = "_" then pure (ForInStep.yield PUnit.unit) else (do let x ← part f.type vs f.offset; (fun a => ForInStep.yield PUnit.unit) <$> Instr.checkKey em 9999 f.type x) : Sem (ForInStep PUnit))).run P w = .ok (.yield PUnit.unit) w := by
          intro l
          induction l with
          | nil => intro o _ f hf; simp at hf
          | cons g l ih =>
            intro o hsh f hf
            cases hcd : cs.drop o with
            | nil => rw [hcd] at hsh; simp [fieldsShape] at hsh
            | cons c cs' =>
              rw [hcd] at hsh
              unfold fieldsShape at hsh
              split at hsh
              · cases hsh
              · rename_i hname
                split at hsh
                · rename_i hoff
                  split at hsh
                  · rename_i tf htf
                    rw [Bool.and_eq_true] at hsh
                    rcases List.mem_cons.1 hf with rfl | hf
                    · have hco : cs[o]? = some c := by have := congrArg (fun l : List PV => l[0]?) hcd; simpa [List.getElem?_drop] using this
                      obtain ⟨u, rfl, hik, h1c, _⟩ := litShape_some hsh.1
                      have hlt : o < vs.size := by rw [h1]; exact (List.getElem?_eq_some_iff.1 hco).1
                      have hrv := h3 o _ _ (Array.getElem?_eq_getElem hlt) hco
                      have hvo : vs[o]? = some u := by rw [Array.getElem?_eq_getElem hlt, (rep_lit hrv).1]
                      have hag : isAggD tf.desc = false := by cases hq : tf.desc <;> rw [hq] at hik <;> first | rfl | cases u <;> exact hik.elim
                      have hvo' : vs[f.offset]? = some u := by rw [hoff]; exact hvo
                      rw [if_neg hname]
                      simp only [Sem.run_bind, Sem.run_map, part_one hτ htf hag hvo', Result.andThen_ok, Go.MapKept.run_checkKey (hτ.u _ _ htf) hik em 9998]
                    · have e1 : cs.drop (o + 1) = cs' := by rw [← List.drop_drop, hcd]; rfl
                      exact ih (o + 1) (by rw [e1]; exact hsh.2) f hf
                  · cases hsh
                · cases hsh
        have := run_forIn_fields (P := P) (w' := w) _ fs.toList (hall fs.toList 0 (by simpa using hk.2))
        simp [← Array.forIn_toList, this]
      · cases hk
    · obtain ⟨u, rfl, h1, _⟩ := litShape_some hk
      rw [hkv]
      exact Go.MapKept.run_checkKey hu h1 em 9999
end
end Go.Proofs.YtbjfmkmaghapgaaGreatDoor.B
