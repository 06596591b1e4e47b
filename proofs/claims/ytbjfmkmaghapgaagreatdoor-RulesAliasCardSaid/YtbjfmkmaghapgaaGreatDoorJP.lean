/-
The reference of chapter 16, walked: Types, KindOf, Takes, Compare, Text; rules.Text. Condition: none.
What the law RulesAlias rests on: what a body that was made declares; the rules of a state of one entry, of two. Condition: none.
The law RulesAlias, walked. Conditions: those of the law's examples.
The law RulesAlias: its call, from a world whose arguments are read.
-/
import Derived.Test.YtbjfmkmaghapgaaGreatDoorBRules1
import Derived.Test.YtbjfmkmaghapgaaGreatDoorJL
import Derived.Test.YtbjfmkmaghapgaaGreatDoorJM
set_option linter.unusedVariables false
set_option linter.unusedSimpArgs false
namespace Go.Proofs.YtbjfmkmaghapgaaGreatDoor.B
open Go.RowKit
set_option maxRecDepth 100000 in
set_option maxHeartbeats 4000000 in
theorem rtypes_ac {G : World → Prop} (hst : Stable G) (k : Int) (X : List (List PV)) (hX : Is X (fun _ => (typesOf k).map encS)) :
    ACalls G Tryz.prog 20 [.lit (.int .i64 k)] (.sl X) none := by
  refine acalls_fn hst mixed tau_ok Tryz.func20 (by kernel_rfl) (by kernel_rfl) (by kernel_rfl) ?_
  intro Q hQ
  cbv
  intro b1 h1
  cbv
  cases b1
  · cbv
    intro b2 h2
    cbv
    cases b2
    · cbv
      intro b3 h3
      cbv
      cases b3
      · cbv
        have e : X = [] := by rw [hX.out]; unfold typesOf; rw [if_neg h1.no, if_neg h2.no, if_neg h3.no]; rfl
        subst e
        try exact ⟨rfl, trivial⟩
      · cbv
        refine ⟨⟨by decide⟩, ?_⟩
        intro s1 g1
        cbv
        refine ⟨⟨by decide⟩, ?_⟩
        intro s2 g2
        cbv
        refine ⟨⟨by decide⟩, ?_⟩
        intro s3 g3
        cbv
        have e : X = [[.lit (.string s1)], [.lit (.string s2)], [.lit (.string s3)]] := by rw [hX.out, g1.out, g2.out, g3.out]; unfold typesOf; rw [if_neg h1.no, if_neg h2.no, if_pos h3.yes]; kernel_rfl
        subst e
        try exact ⟨rfl, trivial⟩
    · cbv
      refine ⟨⟨by decide⟩, ?_⟩
      intro s1 g1
      cbv
      refine ⟨⟨by decide⟩, ?_⟩
      intro s2 g2
      cbv
      refine ⟨⟨by decide⟩, ?_⟩
      intro s3 g3
      cbv
      have e : X = [[.lit (.string s1)], [.lit (.string s2)], [.lit (.string s3)]] := by rw [hX.out, g1.out, g2.out, g3.out]; unfold typesOf; rw [if_neg h1.no, if_pos h2.yes]; kernel_rfl
      subst e
      try exact ⟨rfl, trivial⟩
  · cbv
    refine ⟨⟨by decide⟩, ?_⟩
    intro s1 g1
    cbv
    refine ⟨⟨by decide⟩, ?_⟩
    intro s2 g2
    cbv
    refine ⟨⟨by decide⟩, ?_⟩
    intro s3 g3
    cbv
    have e : X = [[.lit (.string s1)], [.lit (.string s2)], [.lit (.string s3)]] := by rw [hX.out, g1.out, g2.out, g3.out]; unfold typesOf; rw [if_pos h1.yes]; kernel_rfl
    subst e
    try exact ⟨rfl, trivial⟩
set_option maxRecDepth 100000 in
set_option maxHeartbeats 4000000 in
theorem rtakes_ac {G : World → Prop} (hst : Stable G) (s : ByteArray) (c : Bool) (hc : Is c (fun _ => decide (s = wMban ∨ s = wOban))) :
    ACalls G Tryz.prog 22 [.lit (.string s)] (.lit (.bool c)) none := by
  refine acalls_fn hst mixed tau_ok Tryz.func22 (by kernel_rfl) (by kernel_rfl) (by kernel_rfl) ?_
  intro Q hQ
  cbv
  intro b1 h1
  have h1 : Is b1 (fun _ => decide (s = wMban)) := h1
  cbv
  cases b1
  · cbv
    intro b2 h2
    have h2 : Is b2 (fun _ => decide (s = wOban)) := h2
    cbv
    refine litB ?_
    rw [hc.out, h2.out, decide_eq_decide]
    exact ⟨fun q => Or.inr q, fun q => q.resolve_left h1.no⟩
  · cbv
    refine litB ?_
    rw [hc.out]
    exact (decide_eq_true (.inl h1.yes)).symm
set_option maxRecDepth 100000 in
set_option maxHeartbeats 4000000 in
theorem rtext_ac {G : World → Prop} (hst : Stable G) (a b : ByteArray) (c : Int) (hc : Is c (fun _ => cmpS a b)) : ACalls G Tryz.prog 44 [.lit (.string a), .lit (.string b)] (.lit (.int .i64 c)) none := by
  refine acalls_fn hst mixed tau_ok Tryz.func44 (by kernel_rfl) (by kernel_rfl) (by kernel_rfl) ?_
  intro Q hQ
  cbv
  intro b1 h1
  have h1 : Is b1 (fun _ => Op.bytesLess a.toList b.toList) := h1
  cbv
  cases b1
  · cbv
    intro b2 h2
    have h2 : Is b2 (fun _ => !(Op.bytesLess a.toList b.toList || a.toList == b.toList)) := h2
    cbv
    cases b2
    · cbv
      refine litI ?_
      rw [hc.out]
      have e1 := h1.out
      have e2 := h2.out
      rw [← e1] at e2
      have e3 : a = b := by
        rw [str_eq] at e2
        simpa using e2
      simp only [cmpS]
      rw [← e1, if_neg (by simp), if_pos e3]
    · cbv
      refine litI ?_
      rw [hc.out]
      have e1 := h1.out
      have e2 := h2.out
      rw [← e1] at e2
      have e3 : ¬ a = b := by
        rw [str_eq] at e2
        simpa using e2
      simp only [cmpS]
      rw [← e1, if_neg (by simp), if_neg e3]
  · cbv
    refine litI ?_
    rw [hc.out]
    have e1 := h1.out
    simp only [cmpS]
    rw [← e1, if_pos rfl]
theorem cmpR_lt {a1 b1 : Int} {a2 a3 a4 a5 b2 b3 b4 b5 : ByteArray} (h : a1 < b1) : cmpR ⟨a1, a2, a3, a4, a5⟩ ⟨b1, b2, b3, b4, b5⟩ = -1 := by
  have e : cmpI a1 b1 = -1 := if_pos h
  show orI [cmpI a1 b1, _, _, _, _] = -1
  rw [e]
  rfl
theorem cmpR_gt {a1 b1 : Int} {a2 a3 a4 a5 b2 b3 b4 b5 : ByteArray} (h : b1 < a1) : cmpR ⟨a1, a2, a3, a4, a5⟩ ⟨b1, b2, b3, b4, b5⟩ = 1 := by
  have e : cmpI a1 b1 = 1 := by unfold cmpI; rw [if_neg (by omega), if_neg (by omega)]
  show orI [cmpI a1 b1, _, _, _, _] = 1
  rw [e]
  rfl
set_option maxRecDepth 100000 in
set_option maxHeartbeats 4000000 in
theorem rcompareR_ac {G : World → Prop} (hst : Stable G) (a b : Rl) (c : Int) (hc : Is c (fun _ => cmpR a b)) : ACalls G Tryz.prog 23 [.agg (encR a), .agg (encR b)] (.lit (.int .i64 c)) none := by
  refine acalls_fn hst mixed tau_ok Tryz.func23 (by kernel_rfl) (by kernel_rfl) (by kernel_rfl) ?_
  intro Q hQ
  obtain ⟨a1, a2, a3, a4, a5⟩ := a
  obtain ⟨b1, b2, b3, b4, b5⟩ := b
  cbv
  intro b1' h1
  cbv
  cases b1'
  rotate_left
  · cbv
    refine litI ?_
    rw [hc.out]
    exact (cmpR_lt h1.yes).symm
  cbv
  intro b2' h2
  cbv
  cases b2'
  rotate_left
  · cbv
    refine litI ?_
    rw [hc.out]
    exact (cmpR_gt h2.yes).symm
  have he : a1 = b1 := by have := h1.no; have := h2.no; omega
  clear h1 h2
  cbv
  obtain ⟨c2, hc2⟩ : ∃ c2, Is c2 (fun _ => cmpS a2 b2) := ⟨_, ⟨rfl⟩⟩
  refine Or.inl ⟨_, _, hQ _ _ _ _ (rtext_ac hst a2 b2 c2 hc2), ?_⟩
  cbv
  obtain ⟨c3, hc3⟩ : ∃ c3, Is c3 (fun _ => cmpS a4 b4) := ⟨_, ⟨rfl⟩⟩
  refine Or.inl ⟨_, _, hQ _ _ _ _ (rtext_ac hst a4 b4 c3 hc3), ?_⟩
  cbv
  obtain ⟨c4, hc4⟩ : ∃ c4, Is c4 (fun _ => cmpS a5 b5) := ⟨_, ⟨rfl⟩⟩
  refine Or.inl ⟨_, _, hQ _ _ _ _ (rtext_ac hst a5 b5 c4 hc4), ?_⟩
  cbv
  obtain ⟨c5, hc5⟩ : ∃ c5, Is c5 (fun _ => cmpS a3 b3) := ⟨_, ⟨rfl⟩⟩
  refine Or.inl ⟨_, _, hQ _ _ _ _ (rtext_ac hst a3 b3 c5 hc5), ?_⟩
  have hfin : Is c (fun _ => orI [c2, c3, c4, c5]) := ⟨by rw [hc.out, hc2.out, hc3.out, hc4.out, hc5.out]; simp [cmpR, orI, cmpI, he]⟩
  clear hc2 hc3 hc4 hc5 he hc
  have hX : [c2, c3, c4, c5].map encI = [[.lit (.int .i64 c2)], [.lit (.int .i64 c3)], [.lit (.int .i64 c4)], [.lit (.int .i64 c5)]] := rfl
  obtain ⟨l, hl⟩ : ∃ l, l = [c2, c3, c4, c5] := ⟨_, rfl⟩
  rw [← hl] at hX
  have hl4 : l.length = 4 := by rw [hl]; rfl
  rw [← hl] at hfin
  clear hl
  cbv
  refine Or.inr ⟨[5], [], Int, fun k => [(.t 6, ⟨.pv (.lit (.int .i64 k)), none, none⟩)], Zeros l, fun k => 4 - k.toNat, 0, ⟨by omega, by omega, fun i x h => by simp at h⟩, ?_, ?_⟩
  · cbv
    simp
  intro k hk
  have hk : Zeros l k := hk
  cbv
  intro m1 h1
  cbv
  intro b2 h2
  cbv
  have e1 : m1 = 4 := h1.out
  clear h1
  cases b2
  · cbv
    refine litI ?_
    have e2 := h2.no
    rw [hfin.out, orI_drop l k.toNat hk.all, List.drop_eq_nil_of_le (by omega)]
    rfl
  · have hkr : 0 ≤ k ∧ k.toNat < 4 := ⟨hk.lo, by have e2 := h2.yes; have e3 := hk.lo; omega⟩
    cbv
    refine ⟨⟨hkr⟩, ?_⟩
    intro r hr
    obtain ⟨x, hx, rfl⟩ := hr.row hX
    cbv
    intro b3 h3
    cbv
    cases b3
    · cbv
      intro k' hk'
      cbv
      have e4 := hk'.add1 (by omega) (by omega)
      refine ⟨k', ?_, ?_, ?_⟩
      · refine ⟨by omega, by omega, fun i y hi hy => ?_⟩
        by_cases e : i < k.toNat
        · exact hk.all i y e hy
        · have : i = k.toNat := by omega
          rw [this, hx] at hy
          cases hy
          exact Decidable.not_not.1 h3.no
      · show 4 - k'.toNat < 4 - k.toNat
        omega
      · cbv
        simp
    · cbv
      refine ⟨⟨hkr⟩, ?_⟩
      intro r hr2
      obtain ⟨y, hy, rfl⟩ := hr2.row hX
      obtain rfl : y = x := by rw [hx] at hy; cases hy; rfl
      cbv
      refine litI ?_
      have e3 := h3.yes
      have hlt := (List.getElem?_eq_some_iff.1 hx).1
      rw [hfin.out, orI_drop l k.toNat hk.all, List.drop_eq_getElem_cons hlt]
      simp only [orI]
      have e4 : l[k.toNat] = y := by rw [List.getElem?_eq_getElem hlt] at hx; simpa using hx
      rw [e4, if_neg e3]
/-- The types of a kind, by place. -/
theorem kindOf_types {k : Int} (hk : 1 ≤ k ∧ k ≤ 3) : ∃ a b c, typesOf k = [a, b, c] ∧ kindOf a = some (k, 0) ∧ kindOf b = some (k, 1) ∧ kindOf c = some (k, 2) := by
  obtain rfl | rfl | rfl : k = 1 ∨ k = 2 ∨ k = 3 := by omega
  · exact ⟨_, _, _, rfl, kindOf_10, kindOf_11, kindOf_12⟩
  · exact ⟨_, _, _, rfl, kindOf_20, kindOf_21, kindOf_22⟩
  · exact ⟨_, _, _, rfl, kindOf_30, kindOf_31, kindOf_32⟩
/-- The types of a kind, as rows. -/
structure Tys (kd : Int) (T : List ByteArray) (TX : List (List PV)) : Prop where
  z : T.map encS = TX
  n : TX.length = 3
  at_ : ∀ (i : Nat) s, T[i]? = some s → kindOf s = some (kd, (i : Int))
theorem Tys.of {kd : Int} (h : 1 ≤ kd ∧ kd ≤ 3) : ∃ T TX, Tys kd T TX ∧ T = typesOf kd := by
  obtain ⟨a, b, c, e, ha, hb, hc⟩ := kindOf_types h
  refine ⟨_, _, ⟨rfl, by rw [e]; rfl, fun i s hs => ?_⟩, rfl⟩
  rw [e] at hs
  have hlt := (List.getElem?_eq_some_iff.1 hs).1
  simp at hlt
  obtain rfl | rfl | rfl : i = 0 ∨ i = 1 ∨ i = 2 := by omega
  · cases hs; exact ha
  · cases hs; exact hb
  · cases hs; exact hc
structure KOf (s : ByteArray) (kd i : Int) : Prop where
  out : kindOf s = some (kd, i)
theorem kindOf_inv {s : ByteArray} {k r : Int} (h : kindOf s = some (k, r)) : (1 ≤ k ∧ k ≤ 3) ∧ (0 ≤ r ∧ r ≤ 2) ∧ (typesOf k)[r.toNat]? = some s := by
  unfold kindOf at h
  repeat' (split at h; · rename_i e; subst e; cases h; exact ⟨by omega, by omega, rfl⟩)
  cases h
/-- Under no kind so far. -/
structure NoK (s : ByteArray) (kd : Int) : Prop where
  lo : 1 ≤ kd
  hi : kd ≤ 4
  no : ∀ k r, kindOf s = some (k, r) → kd ≤ k
/-- Not among the first types of a kind. -/
structure NoI (s : ByteArray) (kd i : Int) : Prop where
  lo : 0 ≤ i
  hi : i ≤ 3
  no : ∀ r, kindOf s = some (kd, r) → i ≤ r
set_option maxRecDepth 100000 in
set_option maxHeartbeats 4000000 in
theorem rkindOf_ac {G : World → Prop} (hst : Stable G) (s : ByteArray) (k r : Int) (b : Bool) (hr : KindR s k r b) :
    ACalls G Tryz.prog 17 [.lit (.string s)] (.tup [.lit (.int .i64 k), .lit (.int .i64 r), .lit (.bool b)]) none := by
  refine acalls_fn hst mixed tau_ok Tryz.func17 (by kernel_rfl) (by kernel_rfl) (by kernel_rfl) ?_
  intro Q hQ
  cbv
  refine Or.inr ⟨[0], [], Int, fun kd => [(.t 5, ⟨.pv (.lit (.int .i64 kd)), none, none⟩)], NoK s, fun kd => 4 - kd.toNat, 1, ⟨by omega, by omega, fun k r h => (kindOf_inv h).1.1⟩, ?_, ?_⟩
  · cbv
    simp
  intro kd hkd
  have hkd : NoK s kd := hkd
  cbv
  intro b1 h1
  cbv
  cases b1
  · have hn : kindOf s = none := by
      cases hq : kindOf s with
      | none => rfl
      | some p =>
        have e1 := hkd.no p.1 p.2 hq
        have e2 := (kindOf_inv hq).1.2
        have e3 := h1.no
        omega
    rcases hr.out with ⟨_, h⟩ | ⟨rfl, _, rfl, rfl⟩
    · rw [hn] at h
      cases h
    · cbv
      try exact ⟨rfl, trivial⟩
  obtain ⟨T, TX, hT, eT⟩ := Tys.of (kd := kd) ⟨hkd.lo, h1.yes⟩
  have h3 : kd ≤ 3 := h1.yes
  clear h1
  cbv
  refine Or.inl ⟨_, _, hQ _ _ _ _ (rtypes_ac hst kd TX ⟨by rw [← hT.z, eT]⟩), ?_⟩
  cbv
  refine Or.inr ⟨[0, 5, 6], [], Int, fun i => [(.t 7, ⟨.pv (.lit (.int .i64 i)), none, none⟩)], NoI s kd, fun i => 3 - i.toNat, 0, ⟨by omega, by omega, fun r h => (kindOf_inv h).2.1.1⟩, ?_, ?_⟩
  · cbv
    simp
  intro i hi
  have hi : NoI s kd i := hi
  cbv
  intro m1 g1
  cbv
  intro b2 h2
  cbv
  cases b2
  · cbv
    intro kd' hkd'
    cbv
    have e1 := hkd'.add1 (by have := hkd.lo; omega) (by omega)
    have e2 := g1.len
    have e3 := h2.no
    have e4 := hT.n
    refine ⟨kd', ⟨by have := hkd.lo; omega, by omega, fun k r h => ?_⟩, ?_, ?_⟩
    · have q1 := hkd.no k r h
      by_cases q2 : k = kd
      · subst q2
        have q3 := hi.no r h
        have q4 := (kindOf_inv h).2.1.2
        omega
      · omega
    · show 4 - kd'.toNat < 4 - kd.toNat
      have := hkd.lo
      omega
    · cbv
      simp
  cbv
  refine ⟨g1.atL hi.lo h2.yes, ?_⟩
  intro r1 hr1
  obtain ⟨z, hz, rfl⟩ := hr1.row hT.z
  cbv
  intro b3 h3'
  cbv
  cases b3
  · cbv
    intro i' hi'
    cbv
    have e1 := g1.len
    have e2 := h2.yes
    have e3 := hT.n
    have e4 := hi'.add1 (by have := hi.lo; omega) (by omega)
    refine ⟨i', ⟨by have := hi.lo; omega, by omega, fun r h => ?_⟩, ?_, ?_⟩
    · have q1 := hi.no r h
      by_cases q2 : r = i
      · subst q2
        have q3 := (kindOf_inv h).2.2
        rw [← eT, hz] at q3
        cases q3
        exact absurd rfl h3'.no
      · omega
    · show 3 - i'.toNat < 3 - i.toNat
      have := hi.lo
      omega
    · cbv
      simp
  · have e : z = s := h3'.yes
    subst e
    have hk := hT.at_ _ _ hz
    have hi0 : ((i.toNat : Nat) : Int) = i := by have := hi.lo; omega
    rw [hi0] at hk
    rcases hr.out with ⟨rfl, h⟩ | ⟨_, h, _⟩
    · rw [hk] at h
      cases h
      cbv
      try exact ⟨rfl, trivial⟩
    · rw [hk] at h
      cases h
end Go.Proofs.YtbjfmkmaghapgaaGreatDoor.B

set_option linter.unusedVariables false
set_option linter.unusedSimpArgs false
namespace Go.Proofs.YtbjfmkmaghapgaaGreatDoor.B
open Go.RowKit
theorem bodyJ_chk {r : RB} (h : ruledB r = true) : checkJ (bodyJ r) = 0 ∧ (bodyJ r).kind = 6 := by
  obtain ⟨h1, h2, h3, _⟩ := ruled_of h
  obtain ⟨q1, q2, q3, q0⟩ := validK
  have t2 : twiceB [bEntity, bReason, bRecommendation] = false := by kernel_rfl
  unfold bodyJ
  split
  · refine ⟨?_, rfl⟩
    unfold checkJ
    rw [if_neg (by simp [J.depth, depths, textJ]), if_neg (by simp [J.count, counts, textJ])]
    refine look_obj rfl ?_ twiceK.2 q0 ?_
    · show (validB bEntity && (validB bRecommendation && true)) = true
      rw [q1, q2]; rfl
    · intro x hx
      simp at hx; rcases hx with rfl | rfl
      · exact look_text h1
      · exact look_text h2
  · refine ⟨?_, rfl⟩
    unfold checkJ
    rw [if_neg (by simp [J.depth, depths, textJ]), if_neg (by simp [J.count, counts, textJ])]
    refine look_obj rfl ?_ t2 q0 ?_
    · show (validB bEntity && (validB bReason && (validB bRecommendation && true))) = true
      rw [q1, q2, q3]; rfl
    · intro x hx
      simp at hx; rcases hx with rfl | rfl | rfl
      · exact look_text h1
      · exact look_text h3
      · exact look_text h2
theorem idx_1 : idxBy (fun y => decide (bEntity = y)) [bEntity, bRecommendation] = 0 ∧ idxBy (fun y => decide (bRecommendation = y)) [bEntity, bRecommendation] = 1 ∧ idxBy (fun y => decide (bReason = y)) [bEntity, bRecommendation] = -1 := ⟨by kernel_rfl, by kernel_rfl, by kernel_rfl⟩
theorem idx_2 : idxBy (fun y => decide (bEntity = y)) [bEntity, bReason, bRecommendation] = 0 ∧ idxBy (fun y => decide (bRecommendation = y)) [bEntity, bReason, bRecommendation] = 2 ∧ idxBy (fun y => decide (bReason = y)) [bEntity, bReason, bRecommendation] = 1 := ⟨by kernel_rfl, by kernel_rfl, by kernel_rfl⟩
theorem bodyJ_words (r : RB) : wordD (bodyJ r) bEntity = r.entity ∧ wordD (bodyJ r) bRecommendation = r.recommendation ∧ wordD (bodyJ r) bReason = r.reason := by
  obtain ⟨a1, a2, a3⟩ := idx_1
  obtain ⟨b1, b2, b3⟩ := idx_2
  have one : ∀ (ks : List ByteArray) (is : List J) (key s : ByteArray) (i : Int), ks.length = is.length → idxBy (fun y => decide (key = y)) ks = i → 0 ≤ i → is[i.toNat]? = some (textJ s) → wordD (.mk 6 0 ⟨#[]⟩ ks is) key = s := by
    intro ks is key s i hl hi h0 hs
    have : getJ (.mk 6 0 ⟨#[]⟩ ks is) key = some (textJ s) := by
      rw [getJ_mk, if_pos ⟨rfl, hl⟩, hi, if_pos h0, hs]
    unfold wordD
    rw [wordJ_mk this, if_pos rfl]
    rfl
  unfold bodyJ
  split
  · rename_i h
    refine ⟨one _ _ _ _ 0 rfl a1 (by omega) rfl, one _ _ _ _ 1 rfl a2 (by omega) rfl, ?_⟩
    have : getJ (.mk 6 0 ⟨#[]⟩ [bEntity, bRecommendation] [textJ r.entity, textJ r.recommendation]) bReason = none := by
      rw [getJ_mk, if_pos ⟨rfl, rfl⟩, a3, if_neg (by omega)]
    unfold wordD wordJ
    rw [this, h]
    rfl
  · exact ⟨one _ _ _ _ 0 rfl b1 (by omega) rfl, one _ _ _ _ 2 rfl b2 (by omega) rfl, one _ _ _ _ 1 rfl b3 (by omega) rfl⟩
/-- What a body that was made declares is what it was made of. -/
theorem ruleOf_made {r : RB} (h : ruledB r = true) : ruleOf (bodyJ r) = some r := by
  obtain ⟨h1, h2⟩ := bodyJ_chk h
  obtain ⟨e1, e2, e3⟩ := bodyJ_words r
  unfold ruleOf rightJ
  rw [e1, e2, e3, if_pos (decide_eq_true ⟨h2, h1⟩)]
  exact if_pos h
theorem ruleOf_none : ruleOf (.mk 0 0 ⟨#[]⟩ [] []) = none := by kernel_rfl
/-- The body of the entry: made, or none. -/
def madeJ (r : RB) : J := if ruledB r = true then bodyJ r else .mk 0 0 ⟨#[]⟩ [] []
theorem made_rule (r : RB) : ruleOf (madeJ r) = if ruledB r = true then some r else none := by
  unfold madeJ
  by_cases h : ruledB r = true
  · rw [if_pos h, if_pos h, ruleOf_made h]
  · rw [if_neg h, if_neg h, ruleOf_none]
theorem made_size (r : RB) : (madeJ r).size ≤ 1000000 := by
  unfold madeJ bodyJ
  split
  · split <;> simp [J.size, sizes, textJ]
  · simp [J.size, sizes]
theorem made_ok (r : RB) : okB (madeJ r) = true := by
  have hE : ((⟨#[]⟩ : ByteArray).size ≤ 9223372036854775807) ∧ bEntity.size ≤ 9223372036854775807 ∧ bRecommendation.size ≤ 9223372036854775807 ∧ bReason.size ≤ 9223372036854775807 := ⟨by decide, by decide, by decide, by decide⟩
  obtain ⟨e0, e1, e2, e3⟩ := hE
  unfold madeJ
  split
  · rename_i h
    obtain ⟨_, _, _, h1, h2, h3⟩ := ruled_of h
    unfold bodyJ
    split <;> (simp only [okB, okBs, textJ, List.all_cons, List.all_nil, Bool.and_eq_true, decide_eq_true_eq, Bool.and_true]; refine ⟨⟨?_, ?_⟩, ?_⟩ <;> (try refine ⟨?_, ?_⟩) <;> (try refine ⟨?_, ?_⟩) <;> (try refine ⟨?_, ?_⟩) <;> omega)
  · simp only [okB, okBs, List.all_nil, Bool.and_true]
    exact decide_eq_true e0
/-! ### states of one entry, of two -/
theorem ofE_kind {typ key : ByteArray} {body : J} {room : ByteArray} {k rk : Int} (hk : kindOf typ = some (k, rk)) : ofE typ key body room = match ruleOf body with
    | some b => if b.recommendation = wMban ∨ b.recommendation = wOban then some ⟨k, b.entity, b.reason, room, key⟩ else none
    | none => none := by
  unfold ofE
  rw [hk]
  cases ruleOf body <;> rfl
theorem counts_1 (e : En) {k rk : Int} (hk : kindOf e.typ = some (k, rk)) : countsB [e] e 0 = true := by
  refine (countsB_iff [e] e 0 rfl).2 ⟨k, rk, hk, ?_⟩
  refine ⟨by omega, by simp, ⟨e, rfl, hk, rfl⟩, fun j x hj hx r hr hkey => ?_⟩
  obtain rfl : j = 0 := by simp at hj; exact hj
  cases hx
  rw [hk] at hr
  cases hr
  right
  exact ⟨rfl, by omega⟩
def optL (o : Option Rl) : List Rl := match o with
  | some r => [r]
  | none => []
theorem sortU_opt (o : Option Rl) : sortU (optL o) = optL o := by
  cases o with
  | none => exact sortU_self List.Pairwise.nil
  | some r => exact sortU_self (List.pairwise_singleton _ _)
theorem rulesOf_one (e : En) (room : ByteArray) {k rk : Int} (hk : kindOf e.typ = some (k, rk)) : extractR [e] room = optL (ofE e.typ e.key e.body room) := by
  have h : rulesOf [e] room = optL (ofE e.typ e.key e.body room) := by
    unfold rulesOf
    simp only [List.zipIdx_cons, List.zipIdx_nil, List.filterMap_cons, List.filterMap_nil]
    rw [counts_1 e hk]
    cases ofE e.typ e.key e.body room <;> rfl
  unfold extractR
  rw [h, sortU_opt]
/-- Of two entries of a kind and key, the one of the earlier type, or at the earlier place, counts. -/
theorem rulesOf_two (a e : En) (room : ByteArray) {k ra re : Int} (ha : kindOf a.typ = some (k, ra)) (he : kindOf e.typ = some (k, re)) (hkey : a.key = e.key) (hle : ra ≤ re) : extractR [a, e] room = optL (ofE a.typ a.key a.body room) := by
  have ba : IsBest [a, e] 2 k a.key ra 0 := by
    refine ⟨by omega, by omega, ⟨a, rfl, ha, rfl⟩, fun j x hj hx r hr hk' => ?_⟩
    obtain rfl | rfl : j = 0 ∨ j = 1 := by omega
    · cases hx
      rw [ha] at hr
      cases hr
      right; exact ⟨rfl, by omega⟩
    · cases hx
      rw [he] at hr
      cases hr
      by_cases q : ra < re
      · exact .inl q
      · right; exact ⟨by omega, by omega⟩
  have c1 : countsB [a, e] a 0 = true := (countsB_iff [a, e] a 0 rfl).2 ⟨k, ra, ha, ba⟩
  have c2 : countsB [a, e] e 1 = false := by
    cases hc : countsB [a, e] e 1 with
    | false => rfl
    | true =>
      exfalso
      obtain ⟨k', rk, hk, hb⟩ := (countsB_iff [a, e] e 1 rfl).1 hc
      rw [he] at hk
      cases hk
      rw [← hkey] at hb
      have := ba.uniq hb
      omega
  have h : rulesOf [a, e] room = optL (ofE a.typ a.key a.body room) := by
    unfold rulesOf
    simp only [List.zipIdx_cons, List.zipIdx_nil, List.filterMap_cons, List.filterMap_nil]
    rw [c1, c2]
    cases ofE a.typ a.key a.body room <;> rfl
  unfold extractR
  rw [h, sortU_opt]
end Go.Proofs.YtbjfmkmaghapgaaGreatDoor.B

set_option linter.unusedVariables false
set_option linter.unusedSimpArgs false
namespace Go.Proofs.YtbjfmkmaghapgaaGreatDoor.B
open Go.RowKit
theorem ruleBody_any {G : World → Prop} (hB : Base G) (e w rea : ByteArray) (k n : Int) (t : ByteArray) (KX IX : List (List PV)) (hJ : JRow (madeJ ⟨e, w, rea⟩) k n t KX IX) (d : Bool) (hd : Is d (fun _ => ruledB ⟨e, w, rea⟩)) :
    ACalls G Tryz.prog 15 [.agg [.lit (.string e), .lit (.string w), .lit (.string rea)]] (.tup [jp k n t KX IX, .lit (.bool d)]) none := by
  unfold madeJ at hJ
  cases d
  · have h : ruledB ⟨e, w, rea⟩ = false := hd.out.symm
    rw [if_neg (by rw [h]; simp)] at hJ
    obtain ⟨ks, is, q, rfl, rfl⟩ := hJ
    cases q
    exact hB.body.no ⟨e, w, rea⟩ h
  · have h : ruledB ⟨e, w, rea⟩ = true := hd.out.symm
    rw [if_pos h] at hJ
    exact hB.body.yes ⟨e, w, rea⟩ k n t KX IX h hJ
def wordsL : List ByteArray := [wMban, wOban, sWarn]
/-- A word for a ban, or another one. -/
structure WOf (w : ByteArray) (k : Int) : Prop where
  out : (w = wMban ∨ w = wOban) ↔ k < 2
theorem WOf.of {w : ByteArray} {k : Int} (h0 : 0 ≤ k) (h : wordsL[k.toNat]? = some w) : WOf w k := by
  have hlt := (List.getElem?_eq_some_iff.1 h).1
  have : wordsL.length = 3 := rfl
  have d1 : sWarn ≠ wMban := by decide
  have d2 : sWarn ≠ wOban := by decide
  obtain e | e | e : k.toNat = 0 ∨ k.toNat = 1 ∨ k.toNat = 2 := by omega
  · rw [e] at h; cases h; exact ⟨⟨fun _ => by omega, fun _ => .inl rfl⟩⟩
  · rw [e] at h; cases h; exact ⟨⟨fun _ => by omega, fun _ => .inr rfl⟩⟩
  · rw [e] at h; cases h; exact ⟨⟨fun q => by rcases q with q | q; exact absurd q d1; exact absurd q d2, fun q => by omega⟩⟩
/-- What the entry declares. -/
structure ToldR (ti key : ByteArray) (b : RB) (room : ByteArray) (kd k : Int) (d : Bool) (ru : Rl) (told : Bool) : Prop where
  yes : told = true → d = true ∧ k < 2 ∧ ru = ⟨kd, b.entity, b.reason, room, key⟩ ∧ ofE ti key (madeJ b) room = some ⟨kd, b.entity, b.reason, room, key⟩
  no : told = false → ¬ (d = true ∧ k < 2) ∧ ofE ti key (madeJ b) room = none
theorem ToldR.of {ti key : ByteArray} {b : RB} {room : ByteArray} {kd i k : Int} {d : Bool} (hk : KOf ti kd i) (hw : WOf b.recommendation k) (hd : Is d (fun _ => ruledB b)) {ru : Rl} {told : Bool} (h : OfR ti key (madeJ b) room ru told) : ToldR ti key b room kd k d ru told := by
  have hE : ofE ti key (madeJ b) room = if ruledB b = true ∧ k < 2 then some ⟨kd, b.entity, b.reason, room, key⟩ else none := by
    rw [ofE_kind hk.out, made_rule]
    by_cases hr : ruledB b = true
    · rw [if_pos hr]
      by_cases h2 : k < 2
      · rw [if_pos ⟨hr, h2⟩]
        exact if_pos (hw.out.2 h2)
      · rw [if_neg (fun q => h2 q.2)]
        exact if_neg (fun q => h2 (hw.out.1 q))
    · rw [if_neg hr, if_neg (fun q => hr q.1)]
  have hd' := hd.out
  constructor
  · intro e
    subst e
    rcases h.out with ⟨_, h1⟩ | ⟨h1, _⟩
    · rw [hE] at h1
      by_cases q : ruledB b = true ∧ k < 2
      · rw [if_pos q] at h1 hE
        cases h1
        exact ⟨hd'.trans q.1, q.2, rfl, hE⟩
      · rw [if_neg q] at h1; cases h1
    · cases h1
  · intro e
    subst e
    rcases h.out with ⟨h1, _⟩ | ⟨_, h1, _⟩
    · cases h1
    · refine ⟨fun q => ?_, h1⟩
      rw [hE, if_pos ⟨hd'.symm.trans q.1, q.2⟩] at h1
      cases h1
theorem en1 {ti key : ByteArray} {x : J} {k n : Int} {t : ByteArray} {KX IX : List (List PV)} (he : encJ x = [.lit (.int .i64 k), .lit (.int .i64 n), .lit (.string t), .sl KX, .sl IX]) :
    encEn ⟨ti, key, ⟨#[]⟩, ⟨#[]⟩, x⟩ = [.lit (.string ti), .lit (.string key), .lit (.string ⟨#[]⟩), .lit (.string ⟨#[]⟩), .lit (.int .i64 k), .lit (.int .i64 n), .lit (.string t), .sl KX, .sl IX] := by
  unfold encEn
  rw [he]
  rfl
set_option maxRecDepth 100000 in
set_option maxHeartbeats 16000000 in
theorem rulesAlias_ac {G : World → Prop} (hB : Base G) (kind : Int) (ent rea key room : ByteArray) (x : J) (k n : Int) (t : ByteArray) (KX IX : List (List PV)) (hok : OkJ x) (hJ : JRow x k n t KX IX) (hx : encJ x = [.lit (.int .i64 k), .lit (.int .i64 n), .lit (.string t), .sl KX, .sl IX]) :
    ACalls G Tryz.prog 4 [.lit (.int .i64 kind), .lit (.string ent), .lit (.string rea), .lit (.string key), .lit (.string room), jp k n t KX IX] (.lit (.bool true)) none := by
  refine acalls_fn hB.st mixed tau_ok Tryz.func4 (by kernel_rfl) (by kernel_rfl) (by kernel_rfl) ?_
  intro Q hQ
  cbv
  refine Or.inl ⟨_, _, hQ _ _ _ _ (lives_ac hB), ?_⟩
  cbv
  intro b1 h1
  cbv
  have e : b1 = false := by have := h1.out; simpa using this
  subst e
  cbv
  intro m1 g1
  cbv
  intro b2 h2
  cbv
  cases b2
  rotate_left
  · cbv
  cbv
  intro m2 g2
  cbv
  intro b3 h3
  cbv
  cases b3
  rotate_left
  · cbv
  cbv
  intro m3 g3
  cbv
  intro b4 h4
  cbv
  cases b4
  rotate_left
  · cbv
  cbv
  intro m4 g4
  cbv
  intro b5 h5
  cbv
  cases b5
  rotate_left
  · cbv
  cbv
  obtain ⟨c, hc⟩ : ∃ c, Is c (fun _ => lightB x) := ⟨_, ⟨rfl⟩⟩
  refine Or.inl ⟨_, _, hQ _ _ _ _ (lightBody_ac hB.st x k n t KX IX hok hJ c hc), ?_⟩
  cbv
  intro b6 h6
  cbv
  cases c
  · have e : b6 = true := by have := h6.out; simpa using this
    subst e
    cbv
  have e : b6 = false := by have := h6.out; simpa using this
  subst e
  have hxs : x.size ≤ 1000000 := by have := (light_size hc.out.symm).1; omega
  have hxo : okB x = true := hok.okB
  clear g1 h2 g2 h3 g3 h4 g4 h5 h6 hc
  cbv
  obtain ⟨p, hp⟩ : ∃ p, Is p (fun _ => pickI kind 3) := ⟨_, ⟨rfl⟩⟩
  have hpr : 0 ≤ p ∧ p < 3 := by
    have := pickI_lt (n := kind) (m := 3) (by omega)
    rw [← hp.out] at this
    exact this
  refine Or.inl ⟨_, _, hQ _ _ _ _ (pick_ac hB.st kind 3 p (by omega) hp), ?_⟩
  cbv
  intro kd hkd
  have ekd : kd = 1 + p := hkd.i64 (by omega) (by omega)
  obtain ⟨T, TX, hT, eT⟩ := Tys.of (kd := kd) (by omega)
  clear hkd ekd hpr hp
  cbv
  refine Or.inl ⟨_, _, hQ _ _ _ _ (types_ac hB.st kd TX ⟨by rw [← hT.z, eT]⟩), ?_⟩
  clear eT
  cbv
  refine Or.inr ⟨[0, 1, 2, 3, 4, 11, 13, 14], [200011], Int, fun i => [(.t 15, ⟨.pv (.lit (.int .i64 i)), none, none⟩)], Upto1 3, fun i => 3 - i.toNat, 0, (show Upto1 3 0 from ⟨by omega, by omega⟩), ?_, ?_⟩
  · cbv
    simp
  intro i hi
  have hi : Upto1 3 i := hi
  cbv
  intro m5 g5
  cbv
  intro b7 h7
  cbv
  cases b7
  · cbv
    intro m6 g6
    cbv
    intro b8 h8
    cbv
    refine litB ?_
    have e1 := g6.len
    have e2 := hT.n
    rw [h8.out]
    exact decide_eq_true (by omega)
  have hTl : TX.length = T.length := by rw [← hT.z, List.length_map]
  obtain ⟨ti, hti⟩ : ∃ s, T[i.toNat]? = some s := ⟨_, List.getElem?_eq_getElem (show i.toNat < T.length by have e1 := g5.len; have e2 := h7.yes; have e3 := hi.lo; omega)⟩
  have hk : KOf ti kd i := ⟨by have := hT.at_ _ _ hti; rwa [show ((i.toNat : Nat) : Int) = i by have := hi.lo; omega] at this⟩
  have hir : 0 ≤ i ∧ i.toNat < TX.length := ⟨hi.lo, by have e1 := g5.len; have e2 := h7.yes; have := hi.lo; omega⟩
  have hi3 : i < 3 := by have e1 := g5.len; have e2 := h7.yes; have := hT.n; omega
  clear g5 h7
  cbv
  refine Or.inr ⟨[0, 1, 2, 3, 4, 11, 13, 14, 15], [200011], Int, fun j => [(.t 16, ⟨.pv (.lit (.int .i64 j)), none, none⟩)], Upto1 3, fun j => 3 - j.toNat, 0, (show Upto1 3 0 from ⟨by omega, by omega⟩), ?_, ?_⟩
  · cbv
    simp
  intro j hj
  have hj : Upto1 3 j := hj
  cbv
  intro b8 h8
  cbv
  cases b8
  · cbv
    intro i' hi'
    cbv
    have e4 := hi'.add1 (by have := hi.lo; omega) (by omega)
    refine ⟨i', ⟨by have := hi.lo; omega, by omega⟩, ?_, ?_⟩
    · show 3 - i'.toNat < 3 - i.toNat
      have := hi.lo
      omega
    · cbv
      simp
  have hj3 : j < 3 := h8.yes
  obtain ⟨w, hw⟩ : ∃ s, wordsL[j.toNat]? = some s := ⟨_, List.getElem?_eq_getElem (show j.toNat < 3 by have := hj.lo; omega)⟩
  have hwo : WOf w j := WOf.of hj.lo hw
  have hjr : 0 ≤ j ∧ j.toNat < 3 := ⟨hj.lo, by have := hj.lo; omega⟩
  clear h8
  cbv
  refine ⟨⟨hjr⟩, ?_⟩
  intro r hr
  obtain ⟨w', hw', rfl⟩ := hr.row (show wordsL.map encS = _ from rfl)
  obtain rfl : w' = w := by rw [hw] at hw'; cases hw'; rfl
  clear hr hw'
  cbv
  obtain ⟨d, hd⟩ : ∃ d, Is d (fun _ => ruledB ⟨ent, w', rea⟩) := ⟨_, ⟨rfl⟩⟩
  obtain ⟨k', n', t', KX', IX', hJ', he'⟩ := JRow.of (madeJ ⟨ent, w', rea⟩)
  refine Or.inl ⟨_, _, hQ _ _ _ _ (ruleBody_any hB ent w' rea k' n' t' KX' IX' hJ' d hd), ?_⟩
  cbv
  refine ⟨⟨hir⟩, ?_⟩
  intro r hr
  obtain ⟨s, hs, rfl⟩ := hr.row hT.z
  obtain rfl : s = ti := by rw [hti] at hs; cases hs; rfl
  clear hr hs
  cbv
  obtain ⟨ru, told, hru⟩ := OfR.of s key (madeJ ⟨ent, w', rea⟩) room
  have hto : ToldR s key ⟨ent, w', rea⟩ room kd j d ru told := ToldR.of hk hwo hd hru
  refine Or.inl ⟨_, _, hQ _ _ _ _ (of_ac hB.st hB.valid hB.check s key ⟨#[]⟩ ⟨#[]⟩ (madeJ ⟨ent, w', rea⟩) k' n' t' KX' IX' (made_size _) (made_ok _) hJ' room ru told hru), ?_⟩
  have hs1 : ∀ (y : En), y ∈ [(⟨s, key, ⟨#[]⟩, ⟨#[]⟩, madeJ ⟨ent, w', rea⟩⟩ : En)] → y.body.size ≤ 1000000 ∧ okB y.body = true := fun y hy => by
    rw [List.mem_singleton.1 hy]; exact ⟨made_size _, made_ok _⟩
  have hone : ∀ o, ofE s key (madeJ ⟨ent, w', rea⟩) room = o → extractR [⟨s, key, ⟨#[]⟩, ⟨#[]⟩, madeJ ⟨ent, w', rea⟩⟩] room = optL o := fun o ho => by
    rw [rulesOf_one _ room hk.out, ← ho]
  clear hru hd hwo
  obtain ⟨r1, r2, r3, r4, r5⟩ := ru
  cases told
  rotate_left
  -- it declares a rule
  obtain ⟨hd1, hj2, hru1, hof⟩ := hto.yes rfl
  cases hru1
  subst hd1
  have hfin := hone _ hof
  clear hto hone hof
  cbv
  intro b9 h9
  have eb : b9 = true := by rw [h9.out]; exact decide_eq_true hj2
  subst eb
  clear h9
  cbv
  intro b10 h10
  have eb : b10 = false := h10.out
  subst eb
  cbv
  intro b11 h11
  have eb : b11 = false := (h11.out.trans (neR ⟨kd, ent, rea, room, key⟩ ⟨kd, ent, rea, room, key⟩)).trans (decide_eq_false (fun q => q rfl))
  subst eb
  cbv
  refine Or.inl ⟨_, _, hQ _ _ _ _ (extract_ac hB.st hB.valid hB.check hB.sort hB.sort0 [⟨s, key, ⟨#[]⟩, ⟨#[]⟩, madeJ ⟨ent, w', rea⟩⟩] _ (by rw [List.map_cons, List.map_nil, en1 he']) (by simp) hs1 ⟨#[]⟩ ⟨#[]⟩ ⟨#[]⟩ [] [] [] 0 0 0 0 0 0 0 room [encR ⟨kd, ent, rea, room, key⟩] ⟨by rw [hfin]; rfl⟩), ?_⟩
  have hz : [(⟨kd, ent, rea, room, key⟩ : Rl)].map encR = [[.lit (.int .i64 kd), .lit (.string ent), .lit (.string rea), .lit (.string room), .lit (.string key)]] := rfl
  cbv
  intro m7 g7
  cbv
  intro b12 h12
  have eb : b12 = true := by rw [h12.out]; exact decide_eq_true g7.out
  subst eb
  cbv
  intro b13 h13
  have eb : b13 = false := h13.out
  subst eb
  cbv
  refine ⟨⟨Int.le_refl _, Nat.zero_lt_one⟩, ?_⟩
  intro r hr
  obtain ⟨y, hy, rfl⟩ := hr.row hz
  cases hy
  cbv
  intro b14 h14
  have eb : b14 = false := (h14.out.trans (neR ⟨kd, ent, rea, room, key⟩ ⟨kd, ent, rea, room, key⟩)).trans (decide_eq_false (fun q => q rfl))
  subst eb
  clear g7 h12 h13 h14 h10 h11 hz hfin hs1 hr
  -- it declares none
  rotate_left
  obtain ⟨hnd, hof⟩ := hto.no rfl
  have hfin := hone _ hof
  clear hto hone hof
  cases d
  cbv
  intro b10 h10
  have eb : b10 = false := h10.out
  subst eb
  cbv
  refine Or.inl ⟨_, _, hQ _ _ _ _ (extract_ac hB.st hB.valid hB.check hB.sort hB.sort0 [⟨s, key, ⟨#[]⟩, ⟨#[]⟩, madeJ ⟨ent, w', rea⟩⟩] _ (by rw [List.map_cons, List.map_nil, en1 he']) (by simp) hs1 ⟨#[]⟩ ⟨#[]⟩ ⟨#[]⟩ [] [] [] 0 0 0 0 0 0 0 room [] ⟨by rw [hfin]; rfl⟩), ?_⟩
  cbv
  intro m7 g7
  cbv
  intro b12 h12
  have eb : b12 = false := by rw [h12.out]; exact decide_eq_false (by have e1 : m7 = 0 := g7.out; omega)
  subst eb
  cbv
  intro b13 h13
  have eb : b13 = false := h13.out
  subst eb
  clear g7 h12 h13 h10 hfin hs1
  rotate_left
  cbv
  intro b9 h9
  have eb : b9 = false := by rw [h9.out]; exact decide_eq_false (fun q => hnd ⟨rfl, q⟩)
  subst eb
  clear h9
  cbv
  intro b10 h10
  have eb : b10 = false := h10.out
  subst eb
  cbv
  refine Or.inl ⟨_, _, hQ _ _ _ _ (extract_ac hB.st hB.valid hB.check hB.sort hB.sort0 [⟨s, key, ⟨#[]⟩, ⟨#[]⟩, madeJ ⟨ent, w', rea⟩⟩] _ (by rw [List.map_cons, List.map_nil, en1 he']) (by simp) hs1 ⟨#[]⟩ ⟨#[]⟩ ⟨#[]⟩ [] [] [] 0 0 0 0 0 0 0 room [] ⟨by rw [hfin]; rfl⟩), ?_⟩
  cbv
  intro m7 g7
  cbv
  intro b12 h12
  have eb : b12 = false := by rw [h12.out]; exact decide_eq_false (by have e1 : m7 = 0 := g7.out; omega)
  subst eb
  cbv
  intro b13 h13
  have eb : b13 = false := h13.out
  subst eb
  clear g7 h12 h13 h10 hfin hs1

  -- the entry of the first type
  all_goals
    cbv
    refine ⟨⟨⟨by omega, by rw [hT.n]; decide⟩⟩, ?_⟩
    intro r hr
    obtain ⟨s0, hs0, rfl⟩ := hr.row hT.z
    have hk0 : KOf s0 kd 0 := ⟨hT.at_ 0 s0 hs0⟩
    clear hr hs0
    cbv
    obtain ⟨rx, tells, hrx⟩ := OfR.of s0 key x room
    refine Or.inl ⟨_, _, hQ _ _ _ _ (of_ac hB.st hB.valid hB.check s0 key ⟨#[]⟩ ⟨#[]⟩ x k n t KX IX hxs hxo hJ room rx tells hrx), ?_⟩
    have h2 : ∀ o, ofE s0 key x room = o → extractR [⟨s0, key, ⟨#[]⟩, ⟨#[]⟩, x⟩, ⟨s, key, ⟨#[]⟩, ⟨#[]⟩, madeJ ⟨ent, w', rea⟩⟩] room = optL o := fun o ho => by
      rw [← ho]; exact rulesOf_two ⟨s0, key, ⟨#[]⟩, ⟨#[]⟩, x⟩ ⟨s, key, ⟨#[]⟩, ⟨#[]⟩, madeJ ⟨ent, w', rea⟩⟩ room hk0.out hk.out rfl hi.lo
    have hs2 : ∀ (y : En), y ∈ [(⟨s0, key, ⟨#[]⟩, ⟨#[]⟩, x⟩ : En), ⟨s, key, ⟨#[]⟩, ⟨#[]⟩, madeJ ⟨ent, w', rea⟩⟩] → y.body.size ≤ 1000000 ∧ okB y.body = true := fun y hy => by
      rcases List.mem_cons.1 hy with rfl | hy
      · exact ⟨hxs, hxo⟩
      · rw [List.mem_singleton.1 hy]; exact ⟨made_size _, made_ok _⟩
    obtain ⟨q1, q2, q3, q4, q5⟩ := rx
    cases tells
    · have ho : ofE s0 key x room = none := by
        rcases hrx.out with ⟨h, _⟩ | ⟨_, h, _⟩
        · cases h
        · exact h
      have hfin := h2 _ ho
      clear hrx h2
      cbv
      refine Or.inl ⟨_, _, hQ _ _ _ _ (extract_ac hB.st hB.valid hB.check hB.sort hB.sort0 [⟨s0, key, ⟨#[]⟩, ⟨#[]⟩, x⟩, ⟨s, key, ⟨#[]⟩, ⟨#[]⟩, madeJ ⟨ent, w', rea⟩⟩] _ (by rw [List.map_cons, List.map_cons, List.map_nil, en1 hx, en1 he']) (by simp) hs2 ⟨#[]⟩ ⟨#[]⟩ ⟨#[]⟩ [] [] [] 0 0 0 0 0 0 0 room [] ⟨by rw [hfin]; rfl⟩), ?_⟩
      cbv
      intro m8 g8
      cbv
      intro b15 h15
      have eb : b15 = false := by rw [h15.out]; exact decide_eq_false (by have e1 : m8 = 0 := g8.out; omega)
      subst eb
      cbv
      intro b16 h16
      have eb : b16 = false := h16.out
      subst eb
      cbv
      intro j' hj'
      cbv
      have e4 := hj'.add1 (by have := hj.lo; omega) (by omega)
      refine ⟨j', ⟨by have := hj.lo; omega, by omega⟩, ?_, ?_⟩
      · show 3 - j'.toNat < 3 - j.toNat
        have := hj.lo
        omega
      · cbv
        simp
    · have ho : ofE s0 key x room = some ⟨q1, q2, q3, q4, q5⟩ := by
        rcases hrx.out with ⟨_, h⟩ | ⟨h, _⟩
        · exact h
        · cases h
      have hfin := h2 _ ho
      clear hrx h2
      cbv
      refine Or.inl ⟨_, _, hQ _ _ _ _ (extract_ac hB.st hB.valid hB.check hB.sort hB.sort0 [⟨s0, key, ⟨#[]⟩, ⟨#[]⟩, x⟩, ⟨s, key, ⟨#[]⟩, ⟨#[]⟩, madeJ ⟨ent, w', rea⟩⟩] _ (by rw [List.map_cons, List.map_cons, List.map_nil, en1 hx, en1 he']) (by simp) hs2 ⟨#[]⟩ ⟨#[]⟩ ⟨#[]⟩ [] [] [] 0 0 0 0 0 0 0 room [encR ⟨q1, q2, q3, q4, q5⟩] ⟨by rw [hfin]; rfl⟩), ?_⟩
      have hz : [(⟨q1, q2, q3, q4, q5⟩ : Rl)].map encR = [[.lit (.int .i64 q1), .lit (.string q2), .lit (.string q3), .lit (.string q4), .lit (.string q5)]] := rfl
      cbv
      intro m8 g8
      cbv
      intro b15 h15
      have eb : b15 = true := by rw [h15.out]; exact decide_eq_true g8.out
      subst eb
      cbv
      intro b16 h16
      have eb : b16 = false := h16.out
      subst eb
      cbv
      refine ⟨⟨Int.le_refl _, Nat.zero_lt_one⟩, ?_⟩
      intro r hr
      obtain ⟨y, hy, rfl⟩ := hr.row hz
      cases hy
      cbv
      intro b17 h17
      have eb : b17 = false := (h17.out.trans (neR ⟨q1, q2, q3, q4, q5⟩ ⟨q1, q2, q3, q4, q5⟩)).trans (decide_eq_false (fun q => q rfl))
      subst eb
      cbv
      intro j' hj'
      cbv
      have e4 := hj'.add1 (by have := hj.lo; omega) (by omega)
      refine ⟨j', ⟨by have := hj.lo; omega, by omega⟩, ?_, ?_⟩
      · show 3 - j'.toNat < 3 - j.toNat
        have := hj.lo
        omega
      · cbv
        simp
end Go.Proofs.YtbjfmkmaghapgaaGreatDoor.B

set_option linter.unusedVariables false
set_option linter.unusedSimpArgs false
namespace Go.Proofs.YtbjfmkmaghapgaaGreatDoor.B
open Go.RowKit
theorem RulesAlias_walk (a0 : Int) (a1 a2 a3 a4 : ByteArray) (v5 : Value) (x : J) (w : World) (hok : OkJ x) (hr : RepP (fun b o => b < w.heap.size) w v5 (.agg (encJ x))) (hT : H.Tab w) :
    Calls Tryz.prog 4 #[.int .i64 a0, .string a1, .string a2, .string a3, .string a4, v5] w
      fun e w' => e = .returned (.bool true) ∧ Below w.heap.size w w' := by
  obtain ⟨k, n, t, KX, IX, hJ, he⟩ := JRow.of x
  rw [he] at hr
  exact ac_walks (rulesAlias_ac base a0 a1 a2 a3 a4 x k n t KX IX hok hJ he) (vs := [.int .i64 a0, .string a1, .string a2, .string a3, .string a4, v5]) hT (.cons (.lit _ rfl) (.cons (.lit _ rfl) (.cons (.lit _ rfl) (.cons (.lit _ rfl) (.cons (.lit _ rfl) (.cons hr .nil))))))
end Go.Proofs.YtbjfmkmaghapgaaGreatDoor.B
