/-
Closed runs: iterators that step; bytes that a string shares; bytes of a string. Condition: none.
-/
import Derived.Test.YtohcohbbmjhnfaaGreatDoorXL
import Derived.Lib.UnsafeStr
import Derived.Laws.RangeString
set_option linter.unusedVariables false
set_option linter.unusedSectionVars false
set_option linter.unusedSimpArgs false
namespace Go.Proofs.YtohcohbbmjhnfaaGreatDoor.X
open Go Go.RowKit
noncomputable section
variable [Tabs]
section
variable {P : Program} {B fl : Nat} {β : Ren} {h : Heap} {nx : Nat} {w : World}
def memN : Nat → List Nat → Bool
  | _, [] => false
  | n, m :: r => match Nat.beq n m with
    | true => true
    | false => memN n r
theorem memN_ok (n : Nat) : ∀ l, memN n l = l.contains n
  | [] => rfl
  | m :: r => by
    unfold memN
    split
    · rename_i e; rw [beq_t e]; simp
    · rename_i e
      have e := beq_f e
      rw [memN_ok n r]
      simp [e]
def leftE : List AE → List Nat → List AE
  | [], _ => []
  | e :: es, seen => match memN e.born seen with
    | true => leftE es seen
    | false => e :: leftE es seen
theorem leftE_ok {seen : List Nat} : ∀ {es : List AE} {l : List MapEntry}, ERs β es l → ERs β (leftE es seen) (l.filter fun m => !seen.contains m.born)
  | [], l, h => by rw [show l = [] from h]; rfl
  | e :: es, _, ⟨m, l, rfl, k1, k2, k3, k4⟩ => by
    unfold leftE
    rw [memN_ok]
    split
    · rename_i hc
      rw [List.filter_cons_of_neg (by rw [k3, hc]; simp)]
      exact leftE_ok k4
    · rename_i hc
      rw [List.filter_cons_of_pos (by rw [k3, hc]; rfl)]
      exact ⟨m, _, rfl, k1, k2, k3, leftE_ok k4⟩
def oldE : List AE → Nat → Bool
  | [], _ => true
  | e :: es, n => match Nat.blt e.born n with
    | true => oldE es n
    | false => false
theorem oldE_ok : ∀ {es : List AE} {l : List MapEntry} {n : Nat}, oldE es n = true → ERs β es l → ∀ m, m ∈ l → m.born < n
  | [], l, n, _, h => by rw [show l = [] from h]; intro m hm; simp at hm
  | e :: es, _, n, ho, ⟨m, l, rfl, k1, k2, k3, k4⟩ => by
    unfold oldE at ho
    split at ho
    · rename_i hb
      have hb : e.born < n := by simpa [blt_iff] using hb
      intro m' hm'
      rcases List.mem_cons.1 hm' with rfl | hm'
      · rw [k3]; exact hb
      · exact oldE_ok ho k4 m' hm'
    · cases ho
theorem ERs.at {l : List MapEntry} : ∀ {es : List AE}, ERs β es l → ∀ {i : Nat} {m : MapEntry}, l[i]? = some m → ∃ e, es[i]? = some e ∧ VR β e.key m.key ∧ VR β e.val m.val ∧ m.born = e.born := by
  induction l with
  | nil => intro es h i m hm; simp at hm
  | cons m0 l ih =>
    intro es h i m hm
    cases es with
    | nil => cases (show m0 :: l = [] from h)
    | cons e es =>
      obtain ⟨m', l', hq, k1, k2, k3, k4⟩ := h
      cases hq
      cases i with
      | zero => simp at hm; subst hm; exact ⟨e, rfl, k1, k2, k3⟩
      | succ i => simpa using ih k4 (i := i) (by simpa using hm)
/-! ### maps whose order is not known: iterators -/
def insN (a : Nat) : List Nat → List Nat
  | [] => [a]
  | b :: r => match Nat.ble a b with
    | true => a :: b :: r
    | false => b :: insN a r
theorem insN_mem {x a : Nat} : ∀ {l : List Nat}, x ∈ insN a l ↔ x = a ∨ x ∈ l
  | [] => by simp [insN]
  | b :: r => by
    have ih := @insN_mem x a r
    unfold insN
    split
    · simp
    · rw [List.mem_cons, ih, List.mem_cons]
      constructor
      · rintro (h | h | h)
        · exact .inr (.inl h)
        · exact .inl h
        · exact .inr (.inr h)
      · rintro (h | h | h)
        · exact .inr (.inl h)
        · exact .inl h
        · exact .inr (.inr h)
theorem mem_leftE {seen : List Nat} {e : AE} : ∀ {es : List AE}, e ∈ leftE es seen ↔ e ∈ es ∧ e.born ∉ seen
  | [] => by simp [leftE]
  | x :: es => by
    have ih := @mem_leftE seen e es
    unfold leftE
    rw [memN_ok]
    split
    · rename_i hc
      have hc : x.born ∈ seen := by simpa using hc
      rw [ih, List.mem_cons]
      constructor
      · exact fun h => ⟨.inr h.1, h.2⟩
      · rintro ⟨rfl | h, h2⟩
        · exact absurd hc h2
        · exact ⟨h, h2⟩
    · rename_i hc
      have hc : x.born ∉ seen := by simpa using hc
      rw [List.mem_cons, ih, List.mem_cons]
      constructor
      · rintro (rfl | h)
        · exact ⟨.inl rfl, hc⟩
        · exact ⟨.inr h.1, h.2⟩
      · rintro ⟨rfl | h, h2⟩
        · exact .inl rfl
        · exact .inr ⟨h, h2⟩
def allLab (es : List AE) : List Nat → Bool
  | [] => true
  | s :: r => match memN s (es.map (·.born)) with
    | true => allLab es r
    | false => false
theorem allLab_ok {es : List AE} : ∀ {l : List Nat}, allLab es l = true → ∀ s, s ∈ l → ∃ e, e ∈ es ∧ e.born = s
  | [], _, s, h => by simp at h
  | x :: r, h, s, hs => by
    unfold allLab at h
    split at h
    · rename_i q
      rw [memN_ok] at q
      have q : x ∈ es.map (·.born) := by simpa using q
      rcases List.mem_cons.1 hs with rfl | hs
      · exact List.mem_map.1 q
      · exact allLab_ok h s hs
    · cases h
theorem ERs.born {l : List MapEntry} : ∀ {es : List AE}, ERs β es l → l.map (·.born) = es.map (·.born) := by
  induction l with
  | nil => intro es h; cases es with
    | nil => rfl
    | cons e es => obtain ⟨_, _, q, _⟩ := h; cases q
  | cons m l ih =>
    intro es h
    cases es with
    | nil => cases (show m :: l = [] from h)
    | cons e es =>
      obtain ⟨m', l', hq, k1, k2, k3, k4⟩ := h
      cases hq
      rw [List.map_cons, List.map_cons, ih k4, k3]
/-- An entry that is there, by its label. -/
theorem lab_at {es es' : List AE} {l : List MapEntry} (hp : es'.Perm (es.map (AE.real β))) (hr : ERs β es' l) {e : AE} (he : e ∈ es) : ∃ m, m ∈ l ∧ VR β e.key m.key ∧ VR β e.val m.val ∧ m.born = baseOf β e.born := by
  have h1 : AE.real β e ∈ es' := hp.mem_iff.2 (List.mem_map_of_mem he)
  obtain ⟨i, hi⟩ := List.mem_iff_getElem?.1 h1
  have hlt := (List.getElem?_eq_some_iff.1 hi).1
  have hl : i < l.length := by rw [hr.length]; exact hlt
  obtain ⟨e2, k0, k1, k2, k3⟩ := hr.at (List.getElem?_eq_getElem hl)
  rw [hi] at k0
  cases k0
  exact ⟨l[i], List.getElem_mem hl, k1, k2, k3⟩
theorem lab_of {es es' : List AE} {l : List MapEntry} (hp : es'.Perm (es.map (AE.real β))) (hr : ERs β es' l) {m : MapEntry} (hm : m ∈ l) : ∃ e, e ∈ es ∧ VR β e.key m.key ∧ VR β e.val m.val ∧ m.born = baseOf β e.born := by
  obtain ⟨i, hi⟩ := List.mem_iff_getElem?.1 hm
  obtain ⟨e2, k0, k1, k2, k3⟩ := hr.at hi
  have h1 : e2 ∈ es.map (AE.real β) := hp.mem_iff.1 (List.mem_of_getElem? k0)
  obtain ⟨e, he, rfl⟩ := List.mem_map.1 h1
  exact ⟨e, he, k1, k2, k3⟩
theorem lab_inj {es es' : List AE} {l : List MapEntry} {clk : Nat} (hp : es'.Perm (es.map (AE.real β))) (hr : ERs β es' l) (hb : Borns l clk) {e1 e2 : AE} (h1 : e1 ∈ es) (h2 : e2 ∈ es) (hq : baseOf β e1.born = baseOf β e2.born) : e1 = e2 := by
  have hn : (es.map (fun e => baseOf β e.born)).Nodup := by
    have q := hb.nd
    rw [hr.born] at q
    have q2 := (hp.map (·.born)).nodup_iff.1 q
    rw [List.map_map] at q2
    exact q2
  obtain ⟨i, hi⟩ := List.mem_iff_getElem?.1 h1
  obtain ⟨j, hj⟩ := List.mem_iff_getElem?.1 h2
  obtain ⟨hi1, hi2⟩ := List.getElem?_eq_some_iff.1 hi
  obtain ⟨hj1, hj2⟩ := List.getElem?_eq_some_iff.1 hj
  have : i = j := by
    refine (List.getElem_inj (h₀ := by simpa using hi1) (h₁ := by simpa using hj1) hn).1 ?_
    rw [List.getElem_map, List.getElem_map, hi2, hj2]
    exact hq
  subst this
  rw [← hi2, ← hj2]
theorem find_born {m : MapEntry} : ∀ {l : List MapEntry}, (l.map (·.born)).Nodup → m ∈ l → l.find? (fun x => x.born == m.born) = some m
  | [], _, h => by simp at h
  | x :: l, hn, h => by
    rw [List.map_cons, List.nodup_cons] at hn
    rw [List.find?_cons]
    rcases List.mem_cons.1 h with rfl | h
    · simp
    · have : (x.born == m.born) = false := by
        rw [beq_eq_false_iff_ne]
        intro q
        exact hn.1 (by rw [q]; exact List.mem_map_of_mem h)
      rw [this]
      exact find_born hn.2 h
def nextsU (h : Heap) (b m since : Nat) (seen : List Nat) (clk : Nat) : List AE → List (XV × Heap)
  | [] => []
  | e :: es => (.tup [.bool true, e.key, e.val], h.set b (.uiter m since (some e.born) (insN e.born seen) clk)) :: nextsU h b m since seen clk es
theorem nextsU_mem {b m since clk : Nat} {seen : List Nat} {e : AE} : ∀ {es : List AE}, e ∈ es → (XV.tup [.bool true, e.key, e.val], h.set b (.uiter m since (some e.born) (insN e.born seen) clk)) ∈ nextsU h b m since seen clk es
  | x :: es, hm => by
    rcases List.mem_cons.1 hm with rfl | hm
    · exact List.mem_cons_self ..
    · exact List.mem_cons_of_mem _ (nextsU_mem hm)
/-- The steps that may be taken. -/
def nextsE (h : Heap) (b m : Nat) (since : Nat) (seen : List Nat) (clk : Nat) : List AE → List (XV × Heap)
  | [] => []
  | e :: es => (.tup [.bool true, e.key, e.val], h.set b (.miter (some m) since (some e.born) (e.born :: seen) clk)) :: nextsE h b m since seen clk es
theorem nextsE_mem {b m since clk : Nat} {seen : List Nat} {e : AE} : ∀ {es : List AE}, e ∈ es → (XV.tup [.bool true, e.key, e.val], h.set b (.miter (some m) since (some e.born) (e.born :: seen) clk)) ∈ nextsE h b m since seen clk es
  | x :: es, hm => by
    rcases List.mem_cons.1 hm with rfl | hm
    · exact List.mem_cons_self ..
    · exact List.mem_cons_of_mem _ (nextsE_mem hm)
def xnext (fl : Nat) (h : Heap) (it : XV) (str : Bool) : Option (List (XV × Heap)) :=
  match it with
  | .ptr b 0 => match h.get b, str, Nat.ble fl b with
    | some (.siter l n pos), true, true => match Nat.blt pos l with
      | true => match Nat.blt (Nat.mod (Nat.div n (Nat.pow 256 (Nat.sub (Nat.sub l 1) pos))) 256) 128 with
        | true => some [(.tup [.bool true, .int .i64 (.ofNat pos), .int .i32 (.ofNat (Nat.mod (Nat.div n (Nat.pow 256 (Nat.sub (Nat.sub l 1) pos))) 256))], h.set b (.siter l n (Nat.succ pos)))]
        | false => none
      | false => some [(.tup [.bool false], h)]
    | some (.miter none _ _ _ _), false, _ => some [(.tup [.bool false], h)]
    | some (.miter (some m) since _ seen last), false, true => match h.get m with
      | some (.map es clk) => match oldE es since, Nat.ble since last with
        | true, true => match leftE es seen with
          | [] => some [(.tup [.bool false], h)]
          | e :: r => some (nextsE h b m since seen clk (e :: r))
        | _, _ => none
      | _ => none
    | some (.uiter m since _ seen last), false, true => match h.get m with
      | some (.lmap es clk) => match Nat.beq since clk, Nat.ble since last, allLab es seen with
        | true, true, true => match leftE es seen with
          | [] => some [(.tup [.bool false], h)]
          | e :: r => some (nextsU h b m since seen clk (e :: r))
        | _, _, _ => none
      | _ => none
    | _, _, _ => none
  | _ => none
/-- One of some outcomes. -/
def RunL (P : Program) (B fl : Nat) (β : Ren) (h : Heap) (nx : Nat) (w : World) (s : Sem Value) (outs : List (XV × Heap)) : Prop :=
  ∃ x h', (x, h') ∈ outs ∧ RunS P B fl β h nx w s x h' nx
theorem drawn_go {β' : Ren} {h' : Heap} {nx' n : Nat} {w' : World} (g : Go_ B fl β h nx { w with drawn := n } β' h' nx' w') : Go_ B fl β h nx w β' h' nx' w' :=
  ⟨g.ext, g.none, g.le, g.hr, ⟨g.below.os, g.below.tape, g.below.output, g.below.size, g.below.block⟩, g.size, g.floor⟩
theorem hr_drawn (hr : HR B β h nx w) (n : Nat) : HR B β h nx { w with drawn := n } :=
  ⟨fun b bi o h1 h2 => (hr.blk b bi o h1 h2).mono (Ext.refl β) rfl, hr.lt, hr.inj, hr.new, Tabs.st hr.tb ⟨rfl, rfl, rfl, Nat.le_refl _, fun _ _ => rfl⟩⟩
theorem xnext_ok (hr : HR B β h nx w) {it : XV} {v : Value} {str : Bool} {t : TypeId} {outs : List (XV × Heap)} (hv : VR β it v) (hx : xnext fl h it str = some outs) : RunL P B fl β h nx w (Instr.next v str t) outs := by
  unfold xnext at hx
  split at hx
  · rename_i b
    obtain ⟨bi, hb, rfl⟩ := hv
    split at hx
    · rename_i l n pos hg hfl
      have hfl := Nat.le_of_ble_eq_true hfl
      obtain ⟨q0, s, q1, q2⟩ := hr.blk b bi _ hb hg
      have hgo : (getObj bi.rb).run P w = .ok (.stringIter s pos) w := run_getObj q1 (fun _ _ _ e => by cases e)
      split at hx
      · rename_i hlt
        have hlt : pos < l := by simpa [blt_iff] using hlt
        have hsz : pos < s.size := by rw [q2.l]; exact hlt
        split at hx
        · rename_i hasc
          cases hx
          have hb2 : s.data.toList[pos]? = some s[pos] := by
            rw [Array.getElem?_toList]
            exact getElem?_pos s.data pos hsz
          have hn := sn_get hb2
          rw [q2.n, q2.len] at hn
          have ha : (s[pos]'hsz).toNat < 128 := by
            rw [hn]
            rw [blt_iff] at hasc
            exact of_decide_eq_true hasc
          have hdec := decode_ascii s pos hsz ha
          obtain ⟨s1, s2⟩ := setObj_ok (P := P) (fl := fl) (o' := .stringIter s (pos + 1)) (ob' := .siter l n (pos + 1)) hr hb hg rfl rfl hfl q1 (fun _ _ _ e => by cases e) (fun w' h1 => ⟨q0, s, h1, q2⟩)
          refine ⟨_, _, List.mem_cons_self .., .tuple #[.bool true, goInt pos, .int .i32 (s[pos]'hsz).toNat], _, β, ?_, s2, _, rfl, .cons rfl (.cons rfl (.cons ?_ .nil))⟩
          · simp only [Instr.next, q0, Nat.zero_add, Sem.run_bind, hgo, Result.andThen_ok, hsz, if_true, hdec, s1, Sem.run_pure]
          · rw [VR, hn]; rfl
        · cases hx
      · rename_i hlt
        have hlt : ¬ pos < l := by simpa [blt_iff] using hlt
        cases hx
        have hsz : ¬ pos < s.size := by rw [q2.l]; exact hlt
        refine ⟨_, _, List.mem_cons_self .., .tuple #[.bool false], w, β, ?_, Go_.refl hr, _, rfl, .cons rfl .nil⟩
        simp only [Instr.next, q0, Nat.zero_add, Sem.run_bind, hgo, Result.andThen_ok, hsz, if_false, Sem.run_pure]
    · rename_i since hd seen last hg
      cases hx
      obtain ⟨q0, mr, sa, q1, _, _, q2⟩ := hr.blk b bi _ hb hg
      have q2 : mr = none := q2
      subst q2
      have hgo : (getObj bi.rb).run P w = .ok (.mapIter none since sa last) w := run_getObj q1 (fun _ _ _ e => by cases e)
      refine ⟨_, _, List.mem_cons_self .., .tuple #[.bool false], w, β, ?_, Go_.refl hr, _, rfl, .cons rfl .nil⟩
      simp only [Instr.next, q0, Nat.zero_add, Sem.run_bind, hgo, Result.andThen_ok, Sem.run_pure]
    · rename_i m since hd seen last hg hfl
      have hfl := Nat.le_of_ble_eq_true hfl
      obtain ⟨q0, mr, sa, q1, qs, _, bm, q2, q3⟩ := hr.blk b bi _ hb hg
      subst q3
      have hgo : (getObj bi.rb).run P w = .ok (.mapIter (some bm.rb) since sa last) w := run_getObj q1 (fun _ _ _ e => by cases e)
      split at hx
      · rename_i es clk hgm
        obtain ⟨arr, p1, p2⟩ := hr.blk m bm _ q2 hgm
        have hgm' : (getObj bm.rb).run P w = .ok (.map arr clk) w := run_getObj p1 (fun _ _ _ e => by cases e)
        split at hx
        · rename_i hold hsl
          have hsl := Nat.le_of_ble_eq_true hsl
          have ho := oldE_ok hold p2
          have hno : (!sa.isEmpty && !arr.isEmpty && arr.all (·.born ≥ last)) = false := by
            cases hq : arr.isEmpty with
            | true => simp
            | false =>
              have : arr.all (fun m => decide (m.born ≥ last)) = false := by
                rw [← Bool.not_eq_true, Array.all_eq_true]
                intro hall
                have hpos : 0 < arr.size := by
                  cases hz : arr.size with
                  | zero => simp [Array.isEmpty, hz] at hq
                  | succ k => omega
                have h1 := hall 0 hpos
                have h2 := ho arr[0] (by simp)
                simp at h1
                omega
              rw [this, Bool.and_false]
          have hleft := leftE_ok (seen := seen) p2
          have hcon : ∀ m : MapEntry, sa.contains m.born = seen.contains m.born := fun m => by
            rw [Bool.eq_iff_iff]
            simp only [Array.contains_iff_mem, List.contains_iff_mem]
            exact qs _
          have e1 : arr.filter (fun e => !sa.contains e.born) = (arr.toList.filter fun m => !seen.contains m.born).toArray := by
            apply Array.ext'
            rw [Array.toList_filter]
            congr 1
            funext m
            rw [hcon]
          generalize hL : (arr.toList.filter fun m => !seen.contains m.born) = L at hleft e1
          have hLold : ∀ m, m ∈ L → m.born < since := fun m hm => ho m (by rw [← hL] at hm; exact (List.mem_filter.1 hm).1)
          have e2 : (L.toArray).filter (fun m => decide (m.born < since)) = L.toArray := by
            apply Array.ext'
            rw [Array.toList_filter]
            exact List.filter_eq_self.2 (fun m hm => by simpa using hLold m hm)
          have e3 : (L.toArray).filter (fun m => decide (m.born ≥ since)) = #[] := by
            apply Array.ext'
            rw [Array.toList_filter]
            exact List.filter_eq_nil_iff.2 (fun m hm => by have := hLold m hm; simp; omega)
          split at hx
          · rename_i hle
            cases hx
            rw [hle] at hleft
            have hL0 : L = [] := hleft
            subst hL0
            refine ⟨_, _, List.mem_cons_self .., .tuple #[.bool false], w, β, ?_, Go_.refl hr, _, rfl, .cons rfl .nil⟩
            simp only [Instr.next, q0, Nat.zero_add, Sem.run_bind, hgo, hgm', Result.andThen_ok, hno, Bool.false_eq_true, if_false, e1, e2, e3]
            simp [Question.forced]
          · rename_i e0 r hle
            cases hx
            rw [hle] at hleft
            have hLl := hleft.length
            have hne : L.toArray.isEmpty = false := by
              cases L with
              | nil => simp at hLl
              | cons => rfl
            -- the number that is drawn
            have hdraw : ∃ k n, k < L.length ∧ (choose (.mapNext (L.toArray.map some).size)).run P w = .ok k { w with drawn := n } := by
              rw [run_choose]
              split
              · exact ⟨0, w.drawn, by simp at hLl; omega, rfl⟩
              · refine ⟨_, w.drawn + 1, ?_, rfl⟩
                have : (L.toArray.map some).size = L.length := by simp
                rw [this]
                exact Nat.mod_lt _ (by simp at hLl; omega)
            obtain ⟨k, n, hk, hdr⟩ := hdraw
            have hat : L[k]? = some L[k] := List.getElem?_eq_getElem hk
            obtain ⟨e, h1, h2, h3, h4⟩ := hleft.at hat
            have hmem : e ∈ (e0 :: r) := List.mem_of_getElem? h1
            have hgo' : ({ w with drawn := n } : World).heap[bi.rb]? = some (.mapIter (some bm.rb) since sa last) := q1
            obtain ⟨s1, s2⟩ := setObj_ok (P := P) (fl := fl) (o' := .mapIter (some bm.rb) since (sa.push (L[k]).born) clk) (ob' := .miter (some m) since (some e.born) (e.born :: seen) clk) (hr_drawn hr n) hb hg rfl rfl hfl hgo' (fun _ _ _ e => by cases e) (fun w' h1 => ⟨q0, _, _, h1, (fun x => by rw [h4]; simp only [Array.mem_push, List.mem_cons]; rw [qs x]; exact Or.comm), (fun s e => by cases e; rw [h4]; simp), bm, q2, rfl⟩)
            refine ⟨_, _, nextsE_mem hmem, .tuple #[.bool true, (L[k]).key, (L[k]).val], _, β, ?_, drawn_go s2, _, rfl, .cons rfl (.cons h2 (.cons h3 .nil))⟩
            simp only [Instr.next, q0, Nat.zero_add, Sem.run_bind, hgo, hgm', Result.andThen_ok, hno, Bool.false_eq_true, if_false, e1, e2, e3, hne]
            simp only [Array.append_empty, Array.empty_append]
            rw [hdr]
            simp only [Result.andThen_ok]
            rw [show (L.toArray.map some)[k]? = some (some L[k]) by simp [hat]]
            simp only [Sem.run_bind, s1, Result.andThen_ok, Sem.run_pure]
        · cases hx
      · cases hx
    · rename_i m since hd seen last hg hfl
      have hfl := Nat.le_of_ble_eq_true hfl
      obtain ⟨q0, sa, bm, q1, q2, qsome, qs, _⟩ := hr.blk b bi _ hb hg
      have hgo : (getObj bi.rb).run P w = .ok (.mapIter (some bm.rb) since sa last) w := run_getObj q1 (fun _ _ _ e => by cases e)
      split at hx
      · rename_i es clk hgm
        obtain ⟨arr, es', p1, pp, ps, p2, pb⟩ := hr.blk m bm _ q2 hgm
        have hgm' : (getObj bm.rb).run P w = .ok (.map arr clk) w := run_getObj p1 (fun _ _ _ e => by cases e)
        split at hx
        · rename_i hsc hsl hlab
          have hsc := beq_t hsc
          subst hsc
          have hsl := Nat.le_of_ble_eq_true hsl
          have ho := pb.lt
          have hno : (!sa.isEmpty && !arr.isEmpty && arr.all (·.born ≥ last)) = false := by
            cases hq : arr.isEmpty with
            | true => simp
            | false =>
              have : arr.all (fun m => decide (m.born ≥ last)) = false := by
                rw [← Bool.not_eq_true, Array.all_eq_true]
                intro hall
                have hpos : 0 < arr.size := by
                  cases hz : arr.size with
                  | zero => simp [Array.isEmpty, hz] at hq
                  | succ k => omega
                have h1 := hall 0 hpos
                have h2 := ho arr[0] (by simp)
                simp at h1
                omega
              rw [this, Bool.and_false]
          have e1 : arr.filter (fun e => !sa.contains e.born) = (arr.toList.filter fun m => !sa.contains m.born).toArray := by
            apply Array.ext'
            rw [Array.toList_filter]
          generalize hL : (arr.toList.filter fun m => !sa.contains m.born) = L at e1
          have hLmem : ∀ m, m ∈ L ↔ m ∈ arr.toList ∧ m.born ∉ sa := fun m => by
            rw [← hL, List.mem_filter]
            simp
          have hLold : ∀ m, m ∈ L → m.born < since := fun m hm => ho m ((hLmem m).1 hm).1
          have e2 : (L.toArray).filter (fun m => decide (m.born < since)) = L.toArray := by
            apply Array.ext'
            rw [Array.toList_filter]
            exact List.filter_eq_self.2 (fun m hm => by simpa using hLold m hm)
          have e3 : (L.toArray).filter (fun m => decide (m.born ≥ since)) = #[] := by
            apply Array.ext'
            rw [Array.toList_filter]
            exact List.filter_eq_nil_iff.2 (fun m hm => by have := hLold m hm; simp; omega)
          have hof : ∀ m0, m0 ∈ L → ∃ e, e ∈ leftE es seen ∧ VR β e.key m0.key ∧ VR β e.val m0.val ∧ m0.born = baseOf β e.born ∧ e ∈ es := fun m0 hm0 => by
            obtain ⟨h1, h2⟩ := (hLmem m0).1 hm0
            obtain ⟨e, k1, k2, k3, k4⟩ := lab_of pp p2 h1
            refine ⟨e, mem_leftE.2 ⟨k1, fun q => h2 ((qs _).2 ⟨e.born, q, k4.symm⟩)⟩, k2, k3, k4, k1⟩
          split at hx
          · rename_i hle
            cases hx
            have hL0 : L = [] := List.eq_nil_iff_forall_not_mem.2 (fun m0 hm0 => by
              obtain ⟨e, k1, _⟩ := hof m0 hm0
              rw [hle] at k1
              simp at k1)
            subst hL0
            refine ⟨_, _, List.mem_cons_self .., .tuple #[.bool false], w, β, ?_, Go_.refl hr, _, rfl, .cons rfl .nil⟩
            simp only [Instr.next, q0, Nat.zero_add, Sem.run_bind, hgo, hgm', Result.andThen_ok, hno, Bool.false_eq_true, if_false, e1, e2, e3]
            simp [Question.forced]
          · rename_i e0 r hle
            cases hx
            have hLne : L ≠ [] := fun hL0 => by
              have h0 : e0 ∈ leftE es seen := by rw [hle]; exact List.mem_cons_self ..
              obtain ⟨k1, k2⟩ := mem_leftE.1 h0
              obtain ⟨m0, j1, _, _, j4⟩ := lab_at pp p2 k1
              have : m0 ∈ L := (hLmem m0).2 ⟨j1, fun q => by
                obtain ⟨s, s1, s2⟩ := (qs _).1 q
                obtain ⟨e3, t1, t2⟩ := allLab_ok hlab s s1
                have : e3 = e0 := lab_inj pp p2 pb t1 k1 (by rw [t2, s2, j4])
                subst this
                rw [t2] at k2
                exact k2 s1⟩
              rw [hL0] at this
              simp at this
            have hpos : 0 < L.length := List.length_pos_iff.2 hLne
            have hne : L.toArray.isEmpty = false := by
              cases L with
              | nil => exact absurd rfl hLne
              | cons => rfl
            have hdraw : ∃ k n, k < L.length ∧ (choose (.mapNext (L.toArray.map some).size)).run P w = .ok k { w with drawn := n } := by
              rw [run_choose]
              split
              · exact ⟨0, w.drawn, hpos, rfl⟩
              · refine ⟨_, w.drawn + 1, ?_, rfl⟩
                have : (L.toArray.map some).size = L.length := by simp
                rw [this]
                exact Nat.mod_lt _ hpos
            obtain ⟨k, n, hk, hdr⟩ := hdraw
            have hat : L[k]? = some L[k] := List.getElem?_eq_getElem hk
            obtain ⟨e, h1, h2, h3, h4, h5⟩ := hof L[k] (List.getElem_mem hk)
            have hmem : e ∈ (e0 :: r) := by rw [← hle]; exact h1
            have hgo' : ({ w with drawn := n } : World).heap[bi.rb]? = some (.mapIter (some bm.rb) since sa last) := q1
            obtain ⟨s1, s2⟩ := setObj_ok (P := P) (fl := fl) (o' := .mapIter (some bm.rb) since (sa.push (L[k]).born) since) (ob' := .uiter m since (some e.born) (insN e.born seen) since) (hr_drawn hr n) hb hg rfl rfl hfl hgo' (fun _ _ _ e => by cases e) (fun w' hw' => ⟨q0, _, bm, hw', q2, (fun s hs => by
              rcases insN_mem.1 hs with rfl | hs
              · exact ps e h5
              · exact qsome s hs), (fun x => by
              rw [Array.mem_push, qs x]
              constructor
              · rintro (⟨s, z1, z2⟩ | rfl)
                · exact ⟨s, insN_mem.2 (.inr z1), z2⟩
                · exact ⟨e.born, insN_mem.2 (.inl rfl), h4.symm⟩
              · rintro ⟨s, z1, z2⟩
                rcases insN_mem.1 z1 with rfl | z1
                · exact .inr (by rw [← z2, h4])
                · exact .inl ⟨s, z1, z2⟩), (fun s hs => by
              cases hs
              exact ⟨insN_mem.2 (.inl rfl), by rw [← h4]; simp⟩)⟩)
            refine ⟨_, _, nextsU_mem hmem, .tuple #[.bool true, (L[k]).key, (L[k]).val], _, β, ?_, drawn_go s2, _, rfl, .cons rfl (.cons h2 (.cons h3 .nil))⟩
            simp only [Instr.next, q0, Nat.zero_add, Sem.run_bind, hgo, hgm', Result.andThen_ok, hno, Bool.false_eq_true, if_false, e1, e2, e3, hne]
            simp only [Array.append_empty, Array.empty_append]
            rw [hdr]
            simp only [Result.andThen_ok]
            rw [show (L.toArray.map some)[k]? = some (some L[k]) by simp [hat]]
            simp only [Sem.run_bind, s1, Result.andThen_ok, Sem.run_pure]
        · cases hx
      · cases hx
    · cases hx
  · cases hx
def xentry (h : Heap) (it : XV) : Option XV :=
  match it with
  | .ptr b 0 => match h.get b with
    | some (.miter (some m) _ (some s) _ stepped) => match h.get m with
      | some (.map es clk) => match Nat.beq clk stepped, bornAt es s 0 with
        | true, some (_, e) => some (.tup [e.key, e.val])
        | _, _ => none
      | _ => none
    | some (.uiter m _ (some s) _ stepped) => match h.get m with
      | some (.lmap es clk) => match Nat.beq clk stepped, bornAt es s 0 with
        | true, some (_, e) => some (.tup [e.key, e.val])
        | _, _ => none
      | _ => none
    | _ => none
  | _ => none
theorem bornAt_mem : ∀ {es : List AE} {s i j : Nat} {e : AE}, bornAt es s i = some (j, e) → e ∈ es ∧ e.born = s
  | [], s, i, j, e, h => by cases h
  | x :: es, s, i, j, e, h => by
    unfold bornAt at h
    split at h
    · rename_i hb; cases h; exact ⟨List.mem_cons_self .., beq_t hb⟩
    · obtain ⟨h1, h2⟩ := bornAt_mem h; exact ⟨List.mem_cons_of_mem _ h1, h2⟩
theorem xentry_ok (hr : HR B β h nx w) {it y : XV} {v : Value} (hv : VR β it v) (hx : xentry h it = some y) : RunV P w β (Instr.entry v) y := by
  unfold xentry at hx
  split at hx
  · rename_i b
    obtain ⟨bi, hb, rfl⟩ := hv
    split at hx
    · rename_i m since s seen stepped hg
      obtain ⟨q0, mr, sa, q1, _, qh, bm, q2, q3⟩ := hr.blk b bi _ hb hg
      subst q3
      have hgo : (getObj bi.rb).run P w = .ok (.mapIter (some bm.rb) since sa stepped) w := run_getObj q1 (fun _ _ _ e => by cases e)
      split at hx
      · rename_i es clk hgm
        obtain ⟨arr, p1, p2⟩ := hr.blk m bm _ q2 hgm
        have hgm' : (getObj bm.rb).run P w = .ok (.map arr clk) w := run_getObj p1 (fun _ _ _ e => by cases e)
        split at hx
        · rename_i i e hc hbn
          have hc := beq_t hc
          subst hc
          cases hx
          obtain ⟨_, _, h3, mm, h4, h5, h6, h7⟩ := bornAt_ok hbn p2
          rw [Nat.sub_zero] at h3 h4
          have hback : sa.back? = some s := qh s rfl
          have hfind : arr.find? (fun m => m.born == s) = some mm := by rw [← h4, ← h3]; cases arr; simp
          refine ⟨.tuple #[mm.key, mm.val], ?_, _, rfl, .cons h5 (.cons h6 .nil)⟩
          simp only [Instr.entry, q0, Nat.zero_add, Sem.run_bind, hgo, Result.andThen_ok, hback, hgm', bne_self_eq_false, Bool.false_eq_true, if_false, hfind, Sem.run_pure]
        · cases hx
      · cases hx
    · rename_i m since s seen stepped hg
      obtain ⟨q0, sa, bm, q1, q2, _, _, qh⟩ := hr.blk b bi _ hb hg
      have hgo : (getObj bi.rb).run P w = .ok (.mapIter (some bm.rb) since sa stepped) w := run_getObj q1 (fun _ _ _ e => by cases e)
      split at hx
      · rename_i es clk hgm
        obtain ⟨arr, es', p1, pp, ps, p2, pb⟩ := hr.blk m bm _ q2 hgm
        have hgm' : (getObj bm.rb).run P w = .ok (.map arr clk) w := run_getObj p1 (fun _ _ _ e => by cases e)
        split at hx
        · rename_i i e hc hbn
          have hc := beq_t hc
          subst hc
          cases hx
          obtain ⟨k1, k2⟩ := bornAt_mem hbn
          obtain ⟨mm, j1, j2, j3, j4⟩ := lab_at pp p2 k1
          have hback : sa.back? = some mm.born := by rw [(qh s rfl).2, j4, k2]
          have hfind : arr.find? (fun m => m.born == mm.born) = some mm := by
            have := find_born pb.nd j1
            rw [← this]; cases arr; simp
          refine ⟨.tuple #[mm.key, mm.val], ?_, _, rfl, .cons j2 (.cons j3 .nil)⟩
          simp only [Instr.entry, q0, Nat.zero_add, Sem.run_bind, hgo, Result.andThen_ok, hback, hgm', bne_self_eq_false, Bool.false_eq_true, if_false, hfind, Sem.run_pure]
        · cases hx
      · cases hx
    · cases hx
  · cases hx
/-! ### bytes and strings -/
def xsliceData (x : XV) : Option XV :=
  match x with
  | .nils => some .nilp
  | .sl b o _ (_ + 1) _ _ => some (.ptr b o)
  | _ => none
theorem xsliceData_ok {x y : XV} {v : Value} {ts : Array TypeId} {ty : TypeId} (hv : VR β x v) (hx : xsliceData x = some y) : RunV P w β (Builtin.unsafeSliceData_ ts ty #[v]) y := by
  unfold xsliceData at hx
  split at hx
  · cases hx
    rw [VR] at hv
    subst hv
    exact ⟨.pointer none, rfl, rfl⟩
  · rename_i b o len cap k ex
    cases hx
    obtain ⟨bi, hb, x0, c, rfl, c1, c2, c3, c4⟩ := hv
    have hc : c ≠ 0 := by omega
    obtain ⟨d1, _⟩ := c4 hc
    refine ⟨.pointer (some ⟨bi.rb, x0, none⟩), ?_, bi, hb, by rw [d1]⟩
    show (if c ≠ 0 then (pure (.pointer (some ⟨bi.rb, x0, none⟩)) : Sem Value) else _).run P w = _
    rw [if_pos hc]
    rfl
  · cases hx
/-- A string that shares the bytes of a block: they may not be written any more. -/
def xunsafeString (P : Program) (fl : Nat) (h : Heap) (t : TypeId) (p n : XV) : Option (XV × Heap) :=
  match xnat n, p with
  | some 0, .nilp => some (.str 0 0, h)
  | some 0, .ptr _ _ => some (.str 0 0, h)
  | some (n + 1), .ptr b o => match h.get b, P.underlying t, rd h b o (Nat.succ n), Nat.ble fl b with
    | some (.cells tr m e true ex), some (.pointer u), some xs, true => match Nat.beq (P.cellsOf e) 1, sameLayout P P.depth e u, bytesNum xs, P.depth with
      | true, true, some k, _ + 2 => match Nat.ble (Nat.add o (Nat.succ n)) m, Nat.blt n 1000000 with
        | true, true => some (.str (Nat.succ n) k, h.set b (.cells tr m e false ex))
        | _, _ => none
      | _, _, _, _ => none
    | _, _, _, _ => none
  | _, _ => none
theorem loadBytes_ok {rb : Nat} : ∀ (bs : List UInt8) (off : Nat) (acc : ByteArray), (∀ (j : Nat) b, bs[j]? = some b → w.cell? ⟨rb, off + j, none⟩ = some (.int .u8 b.toNat)) → (Extern.Bytes.loadBytes ⟨rb, off, none⟩ bs.length acc).run P w = .ok ⟨acc.data ++ bs.toArray⟩ w
  | [], off, acc, _ => by simp [Extern.Bytes.loadBytes]
  | b :: bs, off, acc, hc => by
    have h0 := hc 0 b rfl
    rw [Nat.add_zero] at h0
    have ih := loadBytes_ok bs (off + 1) (acc.push b) (fun j b' hj => by
      have := hc (j + 1) b' (by simpa using hj)
      rwa [show off + (j + 1) = off + 1 + j by omega] at this)
    show (Extern.Bytes.loadBytes ⟨rb, off, none⟩ (bs.length + 1) acc).run P w = _
    unfold Extern.Bytes.loadBytes
    simp only [Sem.run_bind, run_load1 h0, Result.andThen_ok, add_none]
    have e : ((b.toNat : Int)).toNat.toUInt8 = b := by simp
    rw [e, ih]
    simp [ByteArray.push]
theorem liesAt_row {e u : TypeId} {count off n : Nat} {d : Nat} (h1 : P.cellsOf e = 1) (h2 : sameLayout P P.depth e u = true) (h3 : off + n ≤ count) (hd : P.depth = d + 2) : liesAt P P.depth e count off u n = true := by
  have : rowAt P (fun t => sameLayout P P.depth t u) P.depth e count off n = true := by
    conv => lhs; arg 3; rw [hd]
    unfold rowAt
    simp [h1, h3, h2, Nat.mod_one]
  conv => lhs; arg 2; rw [hd]
  unfold liesAt
  rw [this]
  rfl
theorem run_freeze (w : World) (a : Addr) (n : Nat) : (freeze a n).run P w = .ok () (w.freeze a n) := by
  simp [freeze, Sem.run]
theorem us_def (ts : Array TypeId) (ty : TypeId) (p : Option Addr) (len_ : Value) : Builtin.unsafeString_ ts ty #[.pointer p, len_] = (do
    let n ← asInt len_
    let some pt := ts[0]? | stuck "unsafe.String: no argument types"
    if n < 0 then runtimePanic (.error "unsafe.String: len out of range")
    if n > IntKind.i64.max then unsupported (.unsafePointer "String: a length above the largest int")
    match p with
    | none =>
      if n = 0 then pure (.string .empty)
      else runtimePanic (.error "unsafe.String: ptr is nil and len is not zero")
    | some a =>
      if n = 0 then pure (.string .empty)
      else if ← variablesAt a (← elemOf pt) n.toNat then do
        let s ← loadBytes a .empty n.toNat
        freeze a n.toNat
        pure (.string s)
      else unsupported (.unsafePointer "String: not so many bytes at ptr")) := rfl
theorem xunsafeString_ok (hr : HR B β h nx w) {t ty : TypeId} {ts : Array TypeId} {p n y : XV} {pv nv : Value} {h' : Heap} (hp : VR β p pv) (hn : VR β n nv) (hx : xunsafeString P fl h t p n = some (y, h')) (hts : ts[0]? = some t) : RunS P B fl β h nx w (Builtin.unsafeString_ ts ty #[pv, nv]) y h' nx := by
  have hmax : IntKind.i64.max = 9223372036854775807 := rfl
  have h0 : ∀ kk, ∀ q : Option Addr, (Builtin.unsafeString_ ts ty #[.pointer q, .int kk 0]).run P w = .ok (.string .empty) w := fun kk q => by
    cases q with
    | none =>
      rw [us_def]
      simp [asInt, asIntOf, hts, hmax]
    | some a =>
      rw [us_def]
      simp [asInt, asIntOf, hts, hmax]
  have hs0 : StrR ByteArray.empty 0 0 := StrR.of _
  unfold xunsafeString at hx
  split at hx
  · rename_i hi
    cases hx
    obtain ⟨kk, rfl⟩ := xnat_ok hi hn
    rw [VR] at hp
    subst hp
    exact ⟨_, w, β, h0 kk none, Go_.refl hr, _, rfl, hs0⟩
  · rename_i hi
    cases hx
    obtain ⟨kk, rfl⟩ := xnat_ok hi hn
    obtain ⟨bi, _, rfl⟩ := hp
    exact ⟨_, w, β, h0 kk _, Go_.refl hr, _, rfl, hs0⟩
  · rename_i m b o hi
    obtain ⟨kk, rfl⟩ := xnat_ok hi hn
    obtain ⟨bi, hb, rfl⟩ := hp
    split at hx
    · rename_i tr sz e ex u xs hg hu hrd hfl
      split at hx
      · rename_i k d hc1 hsl hbn hd
        split at hx
        · rename_i hle hlt
          cases hx
          have hle : o + (m + 1) ≤ sz := Nat.le_of_ble_eq_true hle
          have hlt : m < 1000000 := by simpa [blt_iff] using hlt
          have hfl := Nat.le_of_ble_eq_true hfl
          obtain ⟨c, ⟨flo, fhi⟩, q1, q2, q3, q4, q5, q6⟩ := hr.blk b bi _ hb hg
          obtain ⟨us, r1, r2, r3, r4, r5⟩ := rd_ok hr hb hrd
          obtain ⟨bs, s1, s2, s3⟩ := bytesNum_ok hbn r2
          have hbl : bs.length = m + 1 := by rw [s2, r5]
          have hcell : ∀ (j : Nat) x, bs[j]? = some x → w.cell? ⟨bi.rb, bi.base + o + j, none⟩ = some (.int .u8 x.toNat) := fun j x hj => by
            refine r4 j _ ?_
            rw [s1, List.getElem?_map, hj]; rfl
          have hlb := Lib.run_loadBytes (P := P) w bs ⟨bi.rb, bi.base + o, none⟩ .empty (fun j x hj => by rw [add_none]; exact hcell j x hj)
          rw [hbl] at hlb
          have hlies := liesAt_row (P := P) (count := c.size) (off := bi.base + o) (n := m + 1) (beq_t hc1) hsl (by omega) hd
          have hsh : (shape bi.rb).run P w = .ok (some (e, c.size)) w := by simp [shape, Sem.run, World.shape?, q1]
          have hrun : (Builtin.unsafeString_ ts ty #[.pointer (some ⟨bi.rb, bi.base + o, none⟩), .int kk ((m + 1 : Nat) : Int)]).run P w = .ok (.string ⟨bs.toArray⟩) (w.freeze ⟨bi.rb, bi.base + o, none⟩ (m + 1)) := by
            have hneg : ¬ ((m + 1 : Nat) : Int) < 0 := by omega
            have hbig : ¬ (9223372036854775807 : Int) < ((m + 1 : Nat) : Int) := by omega
            have hz : ¬ ((m + 1 : Nat) : Int) = 0 := by omega
            have hc1' := beq_t hc1
            rw [us_def]
            simp only [asInt, asIntOf, hts, hmax, Sem.run_bind, Sem.run_pure, Result.andThen_ok, if_neg hneg, if_neg hbig, if_neg hz, gt_iff_lt, elemOf, run_und hu, variablesAt, run_program, hsh, Int.toNat_natCast, hc1', Nat.div_one, hlies, if_true, hlb, run_freeze]
            simp
          have hBrb : B ≤ bi.rb := hr.new b bi _ hb hg rfl
          have hfz : ∀ k, k ≠ bi.rb → (w.freeze ⟨bi.rb, bi.base + o, none⟩ (m + 1)).heap[k]? = w.heap[k]? := fun k hk => by
            have hne : ¬ bi.rb = k := fun e => hk e.symm
            simp only [World.freeze, Nat.add_eq_zero_iff, Nat.one_ne_zero, and_false, if_false, Array.getElem?_modify, if_neg hne]
          have hat : ∃ fr', (w.freeze ⟨bi.rb, bi.base + o, none⟩ (m + 1)).heap[bi.rb]? = some (.cells c e fr') := by
            refine ⟨if flo == fhi then (bi.base + o, bi.base + o + (m + 1)) else (min flo (bi.base + o), max fhi (bi.base + o + (m + 1))), ?_⟩
            show (w.freeze ⟨bi.rb, bi.base + o, none⟩ (m + 1)).heap[bi.rb]? = some (.cells c e (if flo == fhi then (bi.base + o, bi.base + o + (m + 1)) else (min flo (bi.base + o), max fhi (bi.base + o + (m + 1)))))
            simp [World.freeze, Array.getElem?_modify, q1]
          obtain ⟨fr', hat⟩ := hat
          have hgo := hr.upd (fl := fl) (w' := w.freeze ⟨bi.rb, bi.base + o, none⟩ (m + 1)) (o' := .cells tr sz e false ex) hb hg rfl hfl (fun q => by cases q) hfz (by simp [World.freeze]) ?_ ⟨c, fr', hat, q2, q3, q4, (fun q => by cases q), q6⟩
          · exact ⟨_, _, β, hrun, hgo, _, rfl, by
              have := StrR.of ⟨bs.toArray⟩
              have e1 : (⟨bs.toArray⟩ : ByteArray).size = m + 1 := by show bs.toArray.size = _; simp [hbl]
              rw [e1] at this
              simpa [s3] using this⟩
          · refine ⟨rfl, rfl, rfl, by simp [World.freeze], fun k hk => hfz k (by omega)⟩
        · cases hx
      · cases hx
    · cases hx
  · cases hx
end
end
end Go.Proofs.YtohcohbbmjhnfaaGreatDoor.X
