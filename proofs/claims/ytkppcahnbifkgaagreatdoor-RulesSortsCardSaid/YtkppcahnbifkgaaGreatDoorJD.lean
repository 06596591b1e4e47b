/-
The reference of chapter 6, walked: made, RuleBody. Condition: the contract of the reference's Valid.
The law RulesSorts, walked. Conditions: those of the law's examples.
What the walks of the rules rest on, put together. Condition: utf8's tables in memory.
A list of rules that is handed in: its values. Condition: none.
The law RulesSorts: its call, from a world whose arguments are read.
-/
import Derived.Test.YtkppcahnbifkgaaGreatDoorJB
import Derived.Test.YtkppcahnbifkgaaGreatDoorJC
import Derived.Test.YtkppcahnbifkgaaGreatDoorBValidC
import Derived.Test.YtkppcahnbifkgaaGreatDoorJE
import Derived.Test.YtkppcahnbifkgaaGreatDoorJI
import Derived.Test.YtkppcahnbifkgaaGreatDoorJH
import Derived.Deep.Slices
import Derived.ChangeArms
import Derived.WideShapes
set_option linter.unusedVariables false
set_option linter.unusedSimpArgs false
namespace Go.Proofs.YtkppcahnbifkgaaGreatDoor.B
open Go.RowKit
set_option maxRecDepth 100000 in
set_option maxHeartbeats 2000000 in
theorem rmade_no {G : World → Prop} (hst : Stable G) (k n : Int) (t : ByteArray) (KX IX : List (List PV)) : ACalls G Tryz.prog 89 [jp k n t KX IX, .lit (.bool false)] (.tup [jp 0 0 ⟨#[]⟩ [] [], .lit (.bool false)]) none := by
  refine acalls_fn hst mixed tau_ok Tryz.func89 (by kernel_rfl) (by kernel_rfl) (by kernel_rfl) ?_
  intro Q hQ
  cbv
  intro b1 h1
  obtain rfl : b1 = true := h1.out
  clear h1
  cbv
  try exact ⟨rfl, trivial⟩
set_option maxRecDepth 100000 in
set_option maxHeartbeats 2000000 in
theorem rmade_yes {G : World → Prop} (hst : Stable G) (hV : RValidC G) (n : Int) (t : ByteArray) (ks : List ByteArray) (is : List J) (KX IX : List (List PV)) (hK : ks.map encS = KX) (hI : is.map encJ = IX) (hleaf : ∀ j, j ∈ is → leafJ j)
    (hl : ks.length = is.length) (hbig : (J.mk 6 n t ks is).size ≤ 1000000) (hne : is ≠ []) (hok : okB (.mk 6 n t ks is) = true) (hchk : Is (0 : Int) (fun _ => checkJ (.mk 6 n t ks is))) (KY IY : List (List PV)) (hKY : Is KY (fun _ => (sortKI (ks.zip IX)).1.map encS)) (hIY : Is IY (fun _ => (sortKI (ks.zip IX)).2)) :
    ACalls G Tryz.prog 89 [jp 6 n t KX IX, .lit (.bool true)] (.tup [jp 6 n t KY IY, .lit (.bool true)]) none := by
  refine acalls_fn hst mixed tau_ok Tryz.func89 (by kernel_rfl) (by kernel_rfl) (by kernel_rfl) ?_
  intro Q hQ
  cbv
  intro b1 h1
  obtain rfl : b1 = false := h1.out
  clear h1
  cbv
  refine Or.inl ⟨_, _, hQ _ _ _ _ (rcheckC hst hV (.mk 6 n t ks is) 6 n t KX IX hbig hok ⟨ks, is, rfl, hK, hI⟩ 0 hchk), ?_⟩
  clear hchk
  cbv
  intro b2 h2
  obtain rfl : b2 = false := by cases b2 <;> first | rfl | exact absurd rfl h2.yes
  clear h2
  cbv
  refine Or.inl ⟨_, _, hQ _ _ _ _ (rcanon1_ac hst n t ks is KX IX hK hI hleaf hl hbig hne KY IY hKY hIY), ?_⟩
  cbv
  try exact ⟨rfl, trivial⟩
/-- The body as it is put together. -/
def partJ (r : RB) : List ByteArray × List J := if r.reason = ⟨#[]⟩ then ([bEntity, bRecommendation], [textJ r.entity, textJ r.recommendation])
  else ([bEntity, bRecommendation, bReason], [textJ r.entity, textJ r.recommendation, textJ r.reason])
theorem look_text {s : ByteArray} (h : validB s = true) : lookJ (textJ s) = 0 := by
  have hL : lookJ (.mk 4 0 s [] []) = if (4 : Int) < 1 ∨ (6 : Int) < 4 then 9 else if usedOK 4 0 s 0 0 = false then 2 else if validB s = false ∨ ([] : List ByteArray).all validB = false then 6 else if twiceB [] = true then 8 else looks [] := rfl
  unfold textJ
  rw [hL, if_neg (by omega), if_neg (by simp [usedOK]), if_neg (by simp [h]), if_neg (by decide)]
  rfl
theorem looks_0 : ∀ {l : List J}, (∀ x, x ∈ l → lookJ x = 0) → looks l = 0
  | [], _ => rfl
  | x :: l, h => by
    show (if lookJ x = 0 then looks l else lookJ x) = 0
    rw [if_pos (h x (List.mem_cons_self ..))]
    exact looks_0 (fun y hy => h y (List.mem_cons_of_mem _ hy))
theorem look_obj {ks : List ByteArray} {is : List J} (hl : ks.length = is.length) (hk : ks.all validB = true) (h2 : twiceB ks = false) (hv : validB ⟨#[]⟩ = true) (h : ∀ x, x ∈ is → lookJ x = 0) : lookJ (.mk 6 0 ⟨#[]⟩ ks is) = 0 := by
  have hL : lookJ (.mk 6 0 ⟨#[]⟩ ks is) = if (6 : Int) < 1 ∨ (6 : Int) < 6 then 9 else if usedOK 6 0 ⟨#[]⟩ ks.length is.length = false then 2 else if validB ⟨#[]⟩ = false ∨ ks.all validB = false then 6 else if twiceB ks = true then 8 else looks is := rfl
  rw [hL, if_neg (by omega), if_neg (by simp [usedOK, hl]), if_neg (by simp only [hv, hk]; simp), if_neg (by simp [h2])]
  exact looks_0 h
theorem validK : validB bEntity = true ∧ validB bRecommendation = true ∧ validB bReason = true ∧ validB ⟨#[]⟩ = true := ⟨by kernel_rfl, by kernel_rfl, by kernel_rfl, by kernel_rfl⟩
theorem twiceK : twiceB [bEntity, bRecommendation, bReason] = false ∧ twiceB [bEntity, bRecommendation] = false := ⟨by kernel_rfl, by kernel_rfl⟩
theorem ruled_of {r : RB} (h : ruledB r = true) : validB r.entity = true ∧ validB r.recommendation = true ∧ validB r.reason = true ∧ r.entity.size ≤ 255 ∧ r.recommendation.size ≤ 255 ∧ r.reason.size ≤ 255 := by
  unfold ruledB at h
  rw [Bool.and_eq_true, Bool.and_eq_true, Bool.and_eq_true, Bool.and_eq_true, Bool.and_eq_true] at h
  obtain ⟨⟨a1, a2⟩, ⟨b1, b2⟩, c1, c2⟩ := h
  have a1 := of_decide_eq_true a1
  have b1 := of_decide_eq_true b1
  have c1 := of_decide_eq_true c1
  exact ⟨a2, b2, c2, by omega, by omega, by omega⟩
theorem part_leaf (r : RB) : ∀ j, j ∈ (partJ r).2 → leafJ j := by
  intro j hj
  unfold partJ at hj
  split at hj
  · simp at hj; rcases hj with rfl | rfl <;> exact ⟨_, _, _, rfl⟩
  · simp at hj; rcases hj with rfl | rfl | rfl <;> exact ⟨_, _, _, rfl⟩
theorem part_len (r : RB) : (partJ r).1.length = (partJ r).2.length ∧ (partJ r).2 ≠ [] := by
  unfold partJ
  split <;> simp
theorem part_size (r : RB) : (J.mk 6 0 ⟨#[]⟩ (partJ r).1 (partJ r).2).size ≤ 1000000 := by
  unfold partJ
  split <;> simp [J.size, sizes, textJ]
theorem part_ok {r : RB} (h : ruledB r = true) : okB (.mk 6 0 ⟨#[]⟩ (partJ r).1 (partJ r).2) = true := by
  obtain ⟨_, _, _, h1, h2, h3⟩ := ruled_of h
  have hE : ((⟨#[]⟩ : ByteArray).size ≤ 9223372036854775807) ∧ bEntity.size ≤ 9223372036854775807 ∧ bRecommendation.size ≤ 9223372036854775807 ∧ bReason.size ≤ 9223372036854775807 := ⟨by decide, by decide, by decide, by decide⟩
  obtain ⟨e0, e1, e2, e3⟩ := hE
  unfold partJ
  split <;> (simp only [okB, okBs, textJ, List.all_cons, List.all_nil, Bool.and_eq_true, decide_eq_true_eq, Bool.and_true]; refine ⟨⟨?_, ?_⟩, ?_⟩ <;> (try refine ⟨?_, ?_⟩) <;> (try refine ⟨?_, ?_⟩) <;> (try refine ⟨?_, ?_⟩) <;> omega)
theorem part_chk {r : RB} (h : ruledB r = true) : checkJ (.mk 6 0 ⟨#[]⟩ (partJ r).1 (partJ r).2) = 0 := by
  obtain ⟨h1, h2, h3, _⟩ := ruled_of h
  obtain ⟨q1, q2, q3, q0⟩ := validK
  have hd : (J.mk 6 0 ⟨#[]⟩ (partJ r).1 (partJ r).2).depth ≤ 3 ∧ (J.mk 6 0 ⟨#[]⟩ (partJ r).1 (partJ r).2).count ≤ 10 := by
    unfold partJ
    split <;> simp [J.depth, J.count, depths, counts, textJ]
  unfold checkJ
  rw [if_neg (by omega), if_neg (by omega)]
  refine look_obj (part_len r).1 ?_ ?_ q0 ?_
  · unfold partJ
    split
    · show (validB bEntity && (validB bRecommendation && true)) = true
      rw [q1, q2]; rfl
    · show (validB bEntity && (validB bRecommendation && (validB bReason && true))) = true
      rw [q1, q2, q3]; rfl
  · unfold partJ
    split
    · exact twiceK.2
    · exact twiceK.1
  · intro x hx
    unfold partJ at hx
    split at hx
    · simp at hx; rcases hx with rfl | rfl
      · exact look_text h1
      · exact look_text h2
    · simp at hx; rcases hx with rfl | rfl | rfl
      · exact look_text h1
      · exact look_text h2
      · exact look_text h3
theorem sort_3 (a b c : List PV) : sortKI ([bEntity, bRecommendation, bReason].zip [a, b, c]) = ([bEntity, bReason, bRecommendation], [a, c, b]) := by kernel_rfl
theorem sort_2 (a b : List PV) : sortKI ([bEntity, bRecommendation].zip [a, b]) = ([bEntity, bRecommendation], [a, b]) := by kernel_rfl
theorem part_sort {r : RB} {k n : Int} {t : ByteArray} {KX IX : List (List PV)} (hJ : JRow (bodyJ r) k n t KX IX) : k = 6 ∧ n = 0 ∧ t = ⟨#[]⟩ ∧ Is KX (fun _ => (sortKI ((partJ r).1.zip ((partJ r).2.map encJ))).1.map encS) ∧ Is IX (fun _ => (sortKI ((partJ r).1.zip ((partJ r).2.map encJ))).2) := by
  obtain ⟨ks, is, e, hK, hI⟩ := hJ
  unfold bodyJ at e
  split at e
  · rename_i h
    cases e
    have ep : partJ r = ([bEntity, bRecommendation], [textJ r.entity, textJ r.recommendation]) := by unfold partJ; rw [if_pos h]
    rw [ep]
    refine ⟨rfl, rfl, rfl, ⟨?_⟩, ⟨?_⟩⟩
    · rw [← hK]; exact congrArg (fun p => p.1.map encS) (sort_2 (encJ (textJ r.entity)) (encJ (textJ r.recommendation))).symm
    · rw [← hI]; exact congrArg (fun p => p.2) (sort_2 (encJ (textJ r.entity)) (encJ (textJ r.recommendation))).symm
  · rename_i h
    cases e
    have ep : partJ r = ([bEntity, bRecommendation, bReason], [textJ r.entity, textJ r.recommendation, textJ r.reason]) := by unfold partJ; rw [if_neg h]
    rw [ep]
    refine ⟨rfl, rfl, rfl, ⟨?_⟩, ⟨?_⟩⟩
    · rw [← hK]; exact congrArg (fun p => p.1.map encS) (sort_3 (encJ (textJ r.entity)) (encJ (textJ r.recommendation)) (encJ (textJ r.reason))).symm
    · rw [← hI]; exact congrArg (fun p => p.2) (sort_3 (encJ (textJ r.entity)) (encJ (textJ r.recommendation)) (encJ (textJ r.reason))).symm
set_option maxRecDepth 100000 in
set_option maxHeartbeats 8000000 in
theorem rruleBody_of {G : World → Prop} (hst : Stable G) (e rec rea : ByteArray) (P1 P2 : List (List PV)) (hP1 : Is P1 (fun _ => (partJ ⟨e, rec, rea⟩).1.map encS)) (hP2 : Is P2 (fun _ => (partJ ⟨e, rec, rea⟩).2.map encJ)) (c : Bool) (k n : Int) (t : ByteArray) (KX IX : List (List PV))
    (hrule : ACalls G Tryz.prog 90 [.agg [.lit (.string e), .lit (.string rec), .lit (.string rea)]] (.lit (.bool c)) none)
    (hmade : ACalls G Tryz.prog 89 [jp 6 0 ⟨#[]⟩ P1 P2, .lit (.bool c)] (.tup [jp k n t KX IX, .lit (.bool c)]) none) :
    ACalls G Tryz.prog 23 [.agg [.lit (.string e), .lit (.string rec), .lit (.string rea)]] (.tup [jp k n t KX IX, .lit (.bool c)]) none := by
  refine acalls_fnA hst mixed tau_ok Tryz.func23 (by kernel_rfl) (by kernel_rfl) (by kernel_rfl) ?_
  intro Q hQ hH hO
  cbv
  refine Or.inl ⟨_, _, hQ _ _ _ _ (rword_ac hst e), ?_⟩
  cbv
  obtain ⟨K1, hK1⟩ : ∃ K1, Is K1 (fun _ => ([] : List (List PV)) ++ [[.lit (.string bEntity)]]) := ⟨_, ⟨rfl⟩⟩
  obtain ⟨I1, hI1⟩ : ∃ I1, Is I1 (fun _ => ([] : List (List PV)) ++ [[.lit (.int .i64 4), .lit (.int .i64 0), .lit (.string e), .sl [], .sl []]]) := ⟨_, ⟨rfl⟩⟩
  have hp1 := rput_oc (G := G) 0 0 ⟨#[]⟩ [] [] (by simp) (by simp) (by simp) (by simp) bEntity 4 0 e K1 I1 hK1 hI1
  refine Or.inr (Or.inr ⟨[some (codeJ, 0), none, none], jp 6 0 ⟨#[]⟩ K1 I1, some (codeJ, 0), hO _ _ _ _ _ hp1, ?_⟩)
  clear hp1
  cbv
  refine Or.inl ⟨_, _, hQ _ _ _ _ (rword_ac hst rec), ?_⟩
  cbv
  obtain ⟨K2, hK2⟩ : ∃ K2, Is K2 (fun _ => K1 ++ [[.lit (.string bRecommendation)]]) := ⟨_, ⟨rfl⟩⟩
  obtain ⟨I2, hI2⟩ : ∃ I2, Is I2 (fun _ => I1 ++ [[.lit (.int .i64 4), .lit (.int .i64 0), .lit (.string rec), .sl [], .sl []]]) := ⟨_, ⟨rfl⟩⟩
  have hp2 := rput_oc (G := G) 6 0 ⟨#[]⟩ K1 I1 (by rw [hK1.out]; simp) (by rw [hI1.out]; simp) (by rw [hK1.out]; simp) (by rw [hI1.out]; simp) bRecommendation 4 0 rec K2 I2 hK2 hI2
  refine Or.inr (Or.inr ⟨[some (codeJ, 0), none, none], jp 6 0 ⟨#[]⟩ K2 I2, some (codeJ, 0), hO _ _ _ _ _ hp2, ?_⟩)
  clear hp2
  cbv
  intro b1 h1
  cbv
  cases b1
  · cbv
    have he : rea = ⟨#[]⟩ := Decidable.not_not.1 h1.no
    refine Or.inl ⟨_, _, hQ _ _ _ _ hrule, ?_⟩
    cbv
    have hq : partJ ⟨e, rec, rea⟩ = ([bEntity, bRecommendation], [textJ e, textJ rec]) := if_pos he
    have eK : K2 = P1 := by rw [hK2.out, hK1.out, hP1.out, hq]; rfl
    have eI : I2 = P2 := by rw [hI2.out, hI1.out, hP2.out, hq]; simp [textJ, encJ, encJs]
    clear hq
    subst eK
    subst eI
    refine Or.inl ⟨_, _, hQ _ _ _ _ hmade, ?_⟩
    cbv
    try exact ⟨rfl, trivial⟩
  · cbv
    have he : ¬ rea = ⟨#[]⟩ := h1.yes
    refine Or.inl ⟨_, _, hQ _ _ _ _ (rword_ac hst rea), ?_⟩
    cbv
    obtain ⟨K3, hK3⟩ : ∃ K3, Is K3 (fun _ => K2 ++ [[.lit (.string bReason)]]) := ⟨_, ⟨rfl⟩⟩
    obtain ⟨I3, hI3⟩ : ∃ I3, Is I3 (fun _ => I2 ++ [[.lit (.int .i64 4), .lit (.int .i64 0), .lit (.string rea), .sl [], .sl []]]) := ⟨_, ⟨rfl⟩⟩
    have hp3 := rput_oc (G := G) 6 0 ⟨#[]⟩ K2 I2 (by rw [hK2.out, hK1.out]; simp) (by rw [hI2.out, hI1.out]; simp) (by rw [hK2.out, hK1.out]; simp) (by rw [hI2.out, hI1.out]; simp) bReason 4 0 rea K3 I3 hK3 hI3
    refine Or.inr (Or.inr ⟨[some (codeJ, 0), none, none], jp 6 0 ⟨#[]⟩ K3 I3, some (codeJ, 0), hO _ _ _ _ _ hp3, ?_⟩)
    clear hp3
    cbv
    refine Or.inl ⟨_, _, hQ _ _ _ _ hrule, ?_⟩
    cbv
    have hq : partJ ⟨e, rec, rea⟩ = ([bEntity, bRecommendation, bReason], [textJ e, textJ rec, textJ rea]) := if_neg he
    have eK : K3 = P1 := by rw [hK3.out, hK2.out, hK1.out, hP1.out, hq]; rfl
    have eI : I3 = P2 := by rw [hI3.out, hI2.out, hI1.out, hP2.out, hq]; simp [textJ, encJ, encJs]
    clear hq
    subst eK
    subst eI
    refine Or.inl ⟨_, _, hQ _ _ _ _ hmade, ?_⟩
    cbv
    try exact ⟨rfl, trivial⟩
theorem ruleBodyC {G : World → Prop} (hst : Stable G) (hV : RValidC G) : RuleBodyC G := by
  constructor
  · intro r k n t KX IX hr hJ
    obtain ⟨rfl, rfl, rfl, hKX, hIX⟩ := part_sort hJ
    refine rruleBody_of hst r.entity r.recommendation r.reason _ _ ⟨rfl⟩ ⟨rfl⟩ true 6 0 ⟨#[]⟩ KX IX (rrule_ac hst hV r true ⟨hr.symm⟩) ?_
    exact rmade_yes hst hV 0 ⟨#[]⟩ (partJ r).1 (partJ r).2 _ _ rfl rfl (part_leaf r) (part_len r).1 (part_size r) (part_len r).2 (part_ok hr) ⟨(part_chk hr).symm⟩ KX IX hKX hIX
  · intro r hr
    exact rruleBody_of hst r.entity r.recommendation r.reason _ _ ⟨rfl⟩ ⟨rfl⟩ false 0 0 ⟨#[]⟩ [] [] (rrule_ac hst hV r false ⟨hr.symm⟩) (rmade_no hst 6 0 ⟨#[]⟩ _ _)
end Go.Proofs.YtkppcahnbifkgaaGreatDoor.B

set_option linter.unusedVariables false
set_option linter.unusedSimpArgs false
namespace Go.Proofs.YtkppcahnbifkgaaGreatDoor.B
open Go.RowKit
/-- One is less than the next. -/
theorem adj {s : List Rl} (h : s.Pairwise ltR) {i : Nat} {x y : Rl} (hx : s[i]? = some x) (hy : s[i + 1]? = some y) : cmpR x y = -1 ∧ cmpR y x = 1 := by
  obtain ⟨h1, rfl⟩ := List.getElem?_eq_some_iff.1 hx
  obtain ⟨h2, rfl⟩ := List.getElem?_eq_some_iff.1 hy
  have q : cmpR s[i] s[i + 1] = -1 := List.pairwise_iff_getElem.1 h i (i + 1) h1 h2 (by omega)
  have := cmpr_R.swap s[i] s[i + 1]
  exact ⟨q, by omega⟩
/-- So often it occurred. -/
structure InAt (s : List Rl) (x : Rl) (k : Int) (c : Int) : Prop where
  lo : 0 ≤ k
  hi : k ≤ s.length
  out : c = (s.take k.toNat).countP (fun y => decide (y = x))
theorem InAt.next {s : List Rl} {x y : Rl} {k c : Int} (h : InAt s x k c) (hy : s[k.toNat]? = some y) {k' c' : Int} (hk : k' = k + 1) (hc : c' = if y = x then c + 1 else c) : InAt s x k' c' := by
  have h0 := h.lo
  have hlt := (List.getElem?_eq_some_iff.1 hy).1
  refine ⟨by omega, by omega, ?_⟩
  rw [hk, show (k + 1).toNat = k.toNat + 1 by omega, List.take_add_one, hy, List.countP_append, hc, h.out]
  by_cases e : y = x <;> simp [e]
theorem count_one : ∀ {s : List Rl}, s.Pairwise ltR → ∀ {x : Rl}, x ∈ s → s.countP (fun y => decide (y = x)) = 1
  | [], _, x, h => by simp at h
  | a :: s, h, x, hx => by
    have h' := List.pairwise_cons.1 h
    have irr : ∀ z, ¬ ltR z z := fun z hz => by unfold ltR at hz; rw [cmpR_self] at hz; cases hz
    by_cases e : a = x
    · subst e
      rw [List.countP_cons_of_pos (by simp)]
      have : s.countP (fun y => decide (y = a)) = 0 := by
        rw [List.countP_eq_zero]
        intro y hy
        simp only [decide_eq_true_eq]
        intro e
        subst e
        exact irr _ (h'.1 y hy)
      omega
    · rw [List.countP_cons_of_neg (by simpa using e)]
      exact count_one h'.2 ((List.mem_cons.1 hx).resolve_left (fun q => e q.symm))
theorem sort_turn (l : List Rl) (k : Nat) : sortU (l.drop k ++ l.take k) = sortU l := sortU_congr (fun x => by
  rw [List.mem_append, or_comm, ← List.mem_append, List.take_append_drop])
theorem sort_twice (l : List Rl) : sortU (l ++ l) = sortU l := sortU_congr (fun x => by simp)
structure Rng (l : List Rl) (k : Int) : Prop where
  lo : 0 ≤ k
  hi : k ≤ l.length
structure Upto1 (n : Nat) (k : Int) : Prop where
  lo : 0 ≤ k
  hi : k ≤ n
structure Cut (l : List Rl) (k : Int) (Y Y2 M : List (List PV)) : Prop where
  y : Y = (l.map encR).drop k.toNat
  y2 : Y2 = (l.map encR).take k.toNat
  m : M = Y ++ Y2
theorem Cut.enc {l : List Rl} {k : Int} {Y Y2 M : List (List PV)} (h : Cut l k Y Y2 M) : (l.drop k.toNat ++ l.take k.toNat).map encR = M := by
  rw [h.m, h.y, h.y2, List.map_append, List.map_drop, List.map_take]
structure Srt (l s : List Rl) (Z : List (List PV)) (ns : Nat) : Prop where
  e : s = sortU l
  z : s.map encR = Z
  n : Z.length = ns
  hn : ns = s.length
theorem Srt.pw {l s : List Rl} {Z : List (List PV)} {ns : Nat} (h : Srt l s Z ns) : s.Pairwise ltR := by rw [h.e]; exact sortU_lt l
set_option maxRecDepth 100000 in
set_option maxHeartbeats 16000000 in
theorem rulesSorts_ac {G : World → Prop} (hB : Base G) (l : List Rl) (X : List (List PV)) (hX : l.map encR = X) (hl : l.length ≤ 9223372036854775807) (turn : Int) :
    ACalls G Tryz.prog 5 [.sl X, .lit (.int .i64 turn)] (.lit (.bool true)) none := by
  have hXl : X.length = l.length := by rw [← hX]; simp
  refine acalls_fn hB.st mixed tau_ok Tryz.func5 (by kernel_rfl) (by kernel_rfl) (by kernel_rfl) ?_
  intro Q hQ
  cbv
  refine Or.inl ⟨_, _, hQ _ _ _ _ (lives_ac hB), ?_⟩
  cbv
  intro b1 h1
  cbv
  have e : b1 = false := by have := h1.out; simpa using this
  subst e
  cbv
  obtain ⟨c, hc⟩ : ∃ c : Bool, c = true ↔ LightR l := by
    by_cases h : LightR l
    · exact ⟨true, by simp [h]⟩
    · exact ⟨false, by simp [h]⟩
  refine Or.inl ⟨_, _, hQ _ _ _ _ (lightR_ac hB.st l X hX hl c hc), ?_⟩
  cbv
  cases c
  · cbv
    intro b2 h2
    cbv
    have e : b2 = true := by have := h2.out; simpa using this
    subst e
    cbv
  · have hL : LightR l := hc.1 rfl
    clear hc
    cbv
    intro b2 h2
    cbv
    have e : b2 = false := by have := h2.out; simpa using this
    subst e
    cbv
    have h40 := hL.len
    refine Or.inl ⟨_, _, hQ _ _ _ _ (ownR_ac hB.st X (hX ▸ lenR l) (by omega)), ?_⟩
    cbv
    obtain ⟨s, hs⟩ : ∃ s, s = sortU l := ⟨_, rfl⟩
    obtain ⟨Z, hZ⟩ : ∃ Z, s.map encR = Z := ⟨_, rfl⟩
    obtain ⟨ns, hns⟩ : ∃ n, Z.length = n := ⟨_, rfl⟩
    have S : Srt l s Z ns := ⟨hs, hZ, hns, by rw [← hns, ← hZ]; simp⟩
    clear hs hZ hns
    refine Or.inl ⟨_, _, hQ _ _ _ _ (sortAny_ac hB.st hB.sort hB.sort0 l X hX (by omega) Z ⟨by rw [← S.z, S.e]⟩), ?_⟩
    cbv
    intro m1 g1
    cbv
    intro m2 g2
    cbv
    have em2 : m2 = l.length + 1 := by have e1 := g1.len; have e2 := g2.add (by omega) (by omega); omega
    obtain ⟨k, hk⟩ : ∃ k, Is k (fun _ => pickI turn m2) := ⟨_, ⟨rfl⟩⟩
    have hr : Rng l k := by
      have := pickI_lt (n := turn) (m := m2) (by omega)
      rw [← hk.out] at this
      exact ⟨this.1, by omega⟩
    have hm2 : m2 ≤ 4611686018427387904 := by omega
    refine Or.inl ⟨_, _, hQ _ _ _ _ (pick_ac hB.st turn m2 k hm2 hk), ?_⟩
    clear em2 hm2
    have hX5 : ∀ r, r ∈ X → r.length = 5 := hX ▸ lenR l
    have hq1 : 0 ≤ k ∧ k ≤ (X.length : Int) ∧ ∀ r, r ∈ X → r.length = 5 := ⟨hr.lo, by have := hr.hi; omega, hX5⟩
    cbv
    refine ⟨⟨hq1⟩, ?_⟩
    intro Y hY
    have hYe : Y = (l.map encR).drop k.toNat := by rw [hY.out, hX]
    have hY5 : ∀ r, r ∈ Y → r.length = 5 := fun r h => by rw [hYe] at h; exact lenR l r (List.mem_of_mem_drop h)
    have hYl : Y.length ≤ 40 := by rw [hYe]; simp; omega
    cbv
    refine Or.inl ⟨_, _, hQ _ _ _ _ (ownR_ac hB.st Y hY5 (by omega)), ?_⟩
    cbv
    refine ⟨⟨hq1⟩, ?_⟩
    intro Y2 hY2
    have hY2e : Y2 = (l.map encR).take k.toNat := by rw [hY2.out, hX]
    have hY25 : ∀ r, r ∈ Y2 → r.length = 5 := fun r h => by rw [hY2e] at h; exact lenR l r (List.mem_of_mem_take h)
    have hY2l : Y2.length ≤ 40 := by rw [hY2e]; simp; omega
    cbv
    refine ⟨⟨by omega, hY5, hY25⟩, ?_⟩
    intro M hM
    have hC : Cut l k Y Y2 M := ⟨hYe, hY2e, hM.out⟩
    have hMl : (l.drop k.toNat ++ l.take k.toNat).length ≤ 1000000 := by simp; omega
    clear hYe hY2e
    cbv
    refine Or.inl ⟨_, _, hQ _ _ _ _ (sortAny_ac hB.st hB.sort hB.sort0 (l.drop k.toNat ++ l.take k.toNat) M hC.enc hMl Z ⟨by rw [← S.z, S.e, sort_turn]⟩), ?_⟩
    cbv
    have hsl : s.length ≤ 1000000 := by rw [S.e]; have := sortU_len l; omega
    refine Or.inl ⟨_, _, hQ _ _ _ _ (sameR_ac hB.st s s Z Z S.z S.z hsl true ⟨by simp⟩), ?_⟩
    cbv
    intro b3 h3
    have e : b3 = false := by have := h3.out; simpa using this
    subst e
    cbv
    refine Or.inl ⟨_, _, hQ _ _ _ _ (ownR_ac hB.st X hX5 (by omega)), ?_⟩
    cbv
    refine ⟨⟨by omega, hX5, hX5⟩, ?_⟩
    intro M2 hM2
    have hM2e : (l ++ l).map encR = M2 := by rw [hM2.out, ← hX, List.map_append]
    have hM2l : (l ++ l).length ≤ 1000000 := by simp; omega
    cbv
    refine Or.inl ⟨_, _, hQ _ _ _ _ (sortAny_ac hB.st hB.sort hB.sort0 (l ++ l) M2 hM2e hM2l Z ⟨by rw [← S.z, S.e, sort_twice]⟩), ?_⟩
    cbv
    refine Or.inl ⟨_, _, hQ _ _ _ _ (sameR_ac hB.st s s Z Z S.z S.z hsl true ⟨by simp⟩), ?_⟩
    cbv
    intro b4 h4
    have e : b4 = false := by have := h4.out; simpa using this
    subst e
    cbv
    refine Or.inr ⟨[0, 5], [], Int, fun k => [(.t 7, ⟨.pv (.lit (.int .i64 k)), none, none⟩)], Upto1 ns, fun k => ns - k.toNat, 0, (show Upto1 ns 0 from ⟨by omega, by omega⟩), ?_, ?_⟩
    · cbv
      simp
    · intro i hi
      have hi : Upto1 ns i := hi
      cbv
      intro m3 g3
      cbv
      intro b5 h5
      cbv
      cases b5
      · cbv
        refine Or.inr ⟨[0, 5], [], Int, fun k => [(.t 8, ⟨.pv (.lit (.int .i64 k)), none, none⟩)], Rng l, fun k => X.length - k.toNat, 0, (show Rng l 0 from ⟨by omega, by omega⟩), ?_, ?_⟩
        · cbv
          simp
        · intro j hj
          have hj : Rng l j := hj
          cbv
          intro m4 g4
          cbv
          intro b6 h6
          cbv
          cases b6
          · cbv
            intro m5 g5
            cbv
            intro m6 g6
            cbv
            intro b7 h7
            cbv
            refine litB ?_
            have e1 := g5.len
            have e2 := g6.len
            have e3 := S.n
            have e4 := S.hn
            have e5 := sortU_len l
            have e6 : s.length ≤ l.length := by rw [S.e]; exact e5
            rw [h7.out]
            exact decide_eq_true (by omega)
          · have hjl := hj.hi
            obtain ⟨x, hx⟩ : ∃ x, l[j.toNat]? = some x := ⟨_, List.getElem?_eq_getElem (show j.toNat < l.length by have e1 := g4.len; have e2 := h6.yes; have := hj.lo; omega)⟩
            have hxs : x ∈ s := by rw [S.e, mem_sortU]; exact List.mem_of_getElem? hx
            clear hjl
            cbv
            refine Or.inr ⟨[0, 5, 8], [], Int × Int, fun p => [(.t 10, ⟨.pv (.lit (.int .i64 p.1)), none, none⟩), (.t 9, ⟨.pv (.lit (.int .i64 p.2)), none, none⟩)], fun p => InAt s x p.1 p.2, fun p => ns - p.1.toNat, (0, 0), (show InAt s x 0 0 from ⟨by omega, by omega, by simp⟩), ?_, ?_⟩
            · cbv
              simp
            · intro ⟨n, c⟩ hn
              have hn : InAt s x n c := hn
              cbv
              intro m5 g5
              cbv
              intro b7 h7
              cbv
              cases b7
              · cbv
                have e1 := g5.len
                have e2 := h7.no
                have e3 := S.n
                have e4 := S.hn
                have e5 := hn.out
                have e6 := hn.lo
                rw [List.take_of_length_le (by omega), count_one S.pw hxs] at e5
                intro b8 h8
                have eb : b8 = false := by
                  rw [h8.out]
                  exact decide_eq_false (fun q => q (by rw [e5]; rfl))
                subst eb
                clear e1 e2 e3 e4 e5 e6
                cbv
                intro j' hj'
                cbv
                have e1 := g4.len
                have e2 := h6.yes
                have e4 := hj'.add1 (by have := hj.lo; omega) (by omega)
                refine ⟨j', ⟨by have := hj.lo; omega, by omega⟩, ?_, ?_⟩
                · show X.length - j'.toNat < X.length - j.toNat
                  have := hj.lo
                  omega
                · cbv
                  simp
              · cbv
                refine ⟨g5.atL hn.lo h7.yes, ?_⟩
                intro r hr1
                obtain ⟨y, hy, rfl⟩ := hr1.row S.z
                obtain ⟨y1, y2, y3, y4, y5⟩ := y
                cbv
                refine ⟨g4.atL hj.lo h6.yes, ?_⟩
                intro r hr2
                obtain ⟨z, hz, rfl⟩ := hr2.row hX
                obtain rfl : z = x := by rw [hx] at hz; cases hz; rfl
                obtain ⟨z1, z2, z3, z4, z5⟩ := z
                cbv
                intro b8 h8
                have hq : b8 = decide ((⟨y1, y2, y3, y4, y5⟩ : Rl) = ⟨z1, z2, z3, z4, z5⟩) := h8.out.trans (eqR ⟨y1, y2, y3, y4, y5⟩ ⟨z1, z2, z3, z4, z5⟩)
                cases b8
                · have hne := of_decide_eq_false hq.symm
                  cbv
                  intro n' hn'
                  cbv
                  have e1 := g5.len
                  have e2 := h7.yes
                  have e3 := S.n
                  have e4 := S.hn
                  have e5 := hn'.add1 (by have := hn.lo; omega) (by omega)
                  refine ⟨(n', c), hn.next hy e5 (by rw [if_neg hne]), ?_, ?_⟩
                  · show ns - n'.toNat < ns - n.toNat
                    have := hn.lo
                    omega
                  · cbv
                    simp
                · have he := of_decide_eq_true hq.symm
                  cbv
                  intro c' hc'
                  cbv
                  intro n' hn'
                  cbv
                  have e1 := g5.len
                  have e2 := h7.yes
                  have e3 := S.n
                  have e4 := S.hn
                  have e5 := hn'.add1 (by have := hn.lo; omega) (by omega)
                  have e6 : 0 ≤ c ∧ c ≤ 1000000 := by
                    have q1 := hn.out
                    have q2 := List.countP_le_length (p := fun y => decide (y = (⟨z1, z2, z3, z4, z5⟩ : Rl))) (l := s.take n.toNat)
                    rw [List.length_take] at q2
                    omega
                  have e7 := hc'.add1 (by omega) (by omega)
                  refine ⟨(n', c'), hn.next hy e5 (by rw [if_pos he]; exact e7), ?_, ?_⟩
                  · show ns - n'.toNat < ns - n.toNat
                    have := hn.lo
                    omega
                  · cbv
                    simp
      · cbv
        intro b6 h6
        cbv
        cases b6
        · cbv
          refine ⟨g3.atL hi.lo h5.yes, ?_⟩
          intro r hr1
          obtain ⟨x, hx, rfl⟩ := hr1.row S.z
          obtain ⟨x1, x2, x3, x4, x5⟩ := x
          cbv
          refine ⟨g3.atL hi.lo h5.yes, ?_⟩
          intro r hr2
          obtain ⟨y, hy, rfl⟩ := hr2.row S.z
          obtain rfl : y = ⟨x1, x2, x3, x4, x5⟩ := by rw [hx] at hy; cases hy; rfl
          cbv
          refine Or.inl ⟨_, _, hQ _ _ _ _ (compareR_ac hB.st ⟨x1, x2, x3, x4, x5⟩ ⟨x1, x2, x3, x4, x5⟩ 0 ⟨(cmpR_self _).symm⟩), ?_⟩
          cbv
          intro b8 h8
          have eb : b8 = false := h8.out
          subst eb
          cbv
          intro i' hi'
          cbv
          have e1 := g3.len
          have e2 := h5.yes
          have e3 := S.n
          have e4 := hi'.add1 (by have := hi.lo; omega) (by have := S.hn; omega)
          refine ⟨i', ⟨by have := hi.lo; omega, by omega⟩, ?_, ?_⟩
          · show ns - i'.toNat < ns - i.toNat
            have := hi.lo
            omega
          · cbv
            simp
        · cbv
          intro q hq
          have eq : q = i - 1 := hq.sub1 (by have := h6.yes; omega) (by have e1 := g3.len; have e2 := h5.yes; have := S.n; have := S.hn; omega)
          have hqr : 0 ≤ q ∧ q.toNat < Z.length := ⟨by have := h6.yes; omega, by have e1 := g3.len; have e2 := h5.yes; have := h6.yes; omega⟩
          have eqn : i.toNat = q.toNat + 1 := by have := h6.yes; omega
          cbv
          refine ⟨⟨hqr⟩, ?_⟩
          intro r hr0
          obtain ⟨p, hp, rfl⟩ := hr0.row S.z
          obtain ⟨p1, p2, p3, p4, p5⟩ := p
          cbv
          refine ⟨g3.atL hi.lo h5.yes, ?_⟩
          intro r hr1
          obtain ⟨x, hx, rfl⟩ := hr1.row S.z
          obtain ⟨x1, x2, x3, x4, x5⟩ := x
          have hadj := adj S.pw hp (eqn ▸ hx)
          cbv
          refine Or.inl ⟨_, _, hQ _ _ _ _ (compareR_ac hB.st ⟨p1, p2, p3, p4, p5⟩ ⟨x1, x2, x3, x4, x5⟩ (-1) ⟨hadj.1.symm⟩), ?_⟩
          cbv
          intro b7 h7
          have eb : b7 = false := h7.out
          subst eb
          cbv
          refine ⟨g3.atL hi.lo h5.yes, ?_⟩
          intro r hr2
          obtain ⟨y, hy, rfl⟩ := hr2.row S.z
          obtain rfl : y = ⟨x1, x2, x3, x4, x5⟩ := by rw [hx] at hy; cases hy; rfl
          cbv
          intro q2 hq2
          obtain rfl : q2 = q := by rw [hq2.out, hq.out]
          cbv
          refine ⟨⟨hqr⟩, ?_⟩
          intro r hr3
          obtain ⟨y, hy, rfl⟩ := hr3.row S.z
          obtain rfl : y = ⟨p1, p2, p3, p4, p5⟩ := by rw [hp] at hy; cases hy; rfl
          cbv
          refine Or.inl ⟨_, _, hQ _ _ _ _ (compareR_ac hB.st ⟨x1, x2, x3, x4, x5⟩ ⟨p1, p2, p3, p4, p5⟩ 1 ⟨hadj.2.symm⟩), ?_⟩
          cbv
          intro b8 h8
          have eb : b8 = false := h8.out
          subst eb
          cbv
          refine ⟨g3.atL hi.lo h5.yes, ?_⟩
          intro r hr2
          obtain ⟨y, hy, rfl⟩ := hr2.row S.z
          obtain rfl : y = ⟨x1, x2, x3, x4, x5⟩ := by rw [hx] at hy; cases hy; rfl
          cbv
          refine ⟨g3.atL hi.lo h5.yes, ?_⟩
          intro r hr4
          obtain ⟨y, hy, rfl⟩ := hr4.row S.z
          obtain rfl : y = ⟨x1, x2, x3, x4, x5⟩ := by rw [hx] at hy; cases hy; rfl
          cbv
          refine Or.inl ⟨_, _, hQ _ _ _ _ (compareR_ac hB.st ⟨x1, x2, x3, x4, x5⟩ ⟨x1, x2, x3, x4, x5⟩ 0 ⟨(cmpR_self _).symm⟩), ?_⟩
          cbv
          intro b9 h9
          have eb : b9 = false := h9.out
          subst eb
          cbv
          intro i' hi'
          cbv
          have e1 := g3.len
          have e2 := h5.yes
          have e3 := S.n
          have e4 := hi'.add1 (by have := hi.lo; omega) (by have := S.hn; omega)
          refine ⟨i', ⟨by have := hi.lo; omega, by omega⟩, ?_, ?_⟩
          · show ns - i'.toNat < ns - i.toNat
            have := hi.lo
            omega
          · cbv
            simp
end Go.Proofs.YtkppcahnbifkgaaGreatDoor.B

set_option linter.unusedVariables false
set_option linter.unusedSimpArgs false
namespace Go.Proofs.YtkppcahnbifkgaaGreatDoor.B
open Go.RowKit
theorem rvalidC : RValidC H.Tab := by
  intro s hs
  refine of_calls (v0 := .bool (validB s)) tab_stable tab_not ⟨_, Tryz.func175, by kernel_rfl, by kernel_rfl⟩ (fun w S vs hT hrep => ?_) (fun S w => .lit _ rfl)
  obtain ⟨v, rfl, hv⟩ := hrep.one
  rw [(rep_lit hv).1]
  exact H.rvalid_any s w hs
theorem base : Base H.Tab := ⟨tab_stable, validC, checkC tab_stable tab_not validC, sortC _, sortNilC tab_stable tab_not, ruleBodyC tab_stable rvalidC⟩
end Go.Proofs.YtkppcahnbifkgaaGreatDoor.B

set_option linter.unusedVariables false
set_option linter.unusedSimpArgs false
namespace Go.Proofs.YtkppcahnbifkgaaGreatDoor.B
open Go.RowKit Go.Deep Go.ChangeShapes Go.WideShapes
section
variable {H : Type} {enc : TypeId × Value → H}
def SlOK (A : Option Addr) (n c : Nat) : Prop := (A = none ∧ n = 0 ∧ c = 0) ∨ ∃ b off, A = some ⟨b, off, none⟩
theorem sl_ok {P : Program} {w : World} {r : Reach} {base : Nat} {u : TypeId} {A : Option Addr} {n c : Nat} (h : Cell.okWide P w r base u (.slice A n c)) : SlOK A n c := by
  have h' : Cell.ok P w r base u (.slice A n c) := by
    unfold Cell.okWide at h
    split at h <;> first | exact h | simp_all
  unfold Cell.ok at h'
  split at h'
  all_goals first
    | (rename_i heq; cases heq; done)
    | skip
  all_goals try (rename_i heq; cases heq)
  all_goals first
    | exact h'.elim
    | exact .inl ⟨rfl, rfl, rfl⟩
    | (rename_i a _ ; obtain ⟨_, _, _, hs, _⟩ := h'; obtain ⟨b, o, s⟩ := a; cases hs; exact .inr ⟨b, o, rfl⟩)
    | skip
set_option maxRecDepth 100000 in
/-- One rule, by its cells. -/
theorem open_rule {n : Nat} {cs : List Value} {x : DataW H × List MemPlace} {w : World} (h : DataW.trod enc Tryz.prog w 0 (fun _ => true) true n 36 cs = some x) :
    ∃ r : Rl, cs = [.int .i64 r.kind, .string r.entity, .string r.reason, .string r.room, .string r.key] := by
  obtain ⟨xs, n, _, hx, hcs, hlen, hg⟩ := DataW.trod_struct Tryz.underlying36 h
  have hC : Tryz.prog.cellsOf 36 = 5 := by kernel_rfl
  rw [hC] at hcs
  match cs, hcs with
  | [v0, v1, v2, v3, v4], _ =>
    have g : ∀ (i : Nat) (f : Field) (v : Value) (cs : List Value), cs = [v0, v1, v2, v3, v4] → ([v0, v1, v2, v3, v4] : List Value)[i]? = some v → i < 5 → f.offset = i → Tryz.prog.cellsOf f.type = 1 → (DataW.trod enc Tryz.prog w 0 (fun _ => true) true n f.type ((cs.drop f.offset).take (Tryz.prog.cellsOf f.type)) = xs[i]?) →
        ∃ y, DataW.trod enc Tryz.prog w 0 (fun _ => true) true n f.type [v] = some y := by
      rintro i f v _ rfl hv hi ho hc he
      have hl : xs.length = 5 := hlen
      rw [ho, hc] at he
      obtain rfl | rfl | rfl | rfl | rfl : i = 0 ∨ i = 1 ∨ i = 2 ∨ i = 3 ∨ i = 4 := by omega
      all_goals
        simp at hv he
        subst hv
        exact ⟨_, he.trans (List.getElem?_eq_getElem (by omega))⟩
    obtain ⟨y0, g0⟩ := g 0 _ v0 _ rfl rfl (by omega) rfl (by kernel_rfl) (hg 0 _ rfl)
    obtain ⟨y1, g1⟩ := g 1 _ v1 _ rfl rfl (by omega) rfl (by kernel_rfl) (hg 1 _ rfl)
    obtain ⟨y2, g2⟩ := g 2 _ v2 _ rfl rfl (by omega) rfl (by kernel_rfl) (hg 2 _ rfl)
    obtain ⟨y3, g3⟩ := g 3 _ v3 _ rfl rfl (by omega) rfl (by kernel_rfl) (hg 3 _ rfl)
    obtain ⟨y4, g4⟩ := g 4 _ v4 _ rfl rfl (by omega) rfl (by kernel_rfl) (hg 4 _ rfl)
    obtain ⟨a0, e0, _, _⟩ := DataW.trod_int Tryz.underlying3 g0
    obtain ⟨a1, e1, _, _⟩ := DataW.trod_string Tryz.underlying9 g1
    obtain ⟨a2, e2, _, _⟩ := DataW.trod_string Tryz.underlying9 g2
    obtain ⟨a3, e3, _, _⟩ := DataW.trod_string Tryz.underlying9 g3
    obtain ⟨a4, e4, _, _⟩ := DataW.trod_string Tryz.underlying9 g4
    simp only [List.cons.injEq, and_true] at e0 e1 e2 e3 e4
    subst e0 e1 e2 e3 e4
    exact ⟨⟨a0, a1, a2, a3, a4⟩, rfl⟩
instance : Inhabited Rl := ⟨⟨0, ⟨#[]⟩, ⟨#[]⟩, ⟨#[]⟩, ⟨#[]⟩⟩⟩
def cellR (r : Rl) (j : Nat) : Value := [Value.int .i64 r.kind, .string r.entity, .string r.reason, .string r.room, .string r.key].getD j undef
set_option maxRecDepth 100000 in
/-- A list of rules. -/
theorem open_rules {r : Reach} {b0 : Nat} {w : World} {v : Value} {d : DataW H} {p : List MemPlace} (hv : Value.okWide Tryz.prog w r b0 32 v) (h : DataW.Trod enc Tryz.prog w 0 (fun _ => true) true 32 v d p) :
    ∃ (A : Option Addr) (n c : Nat) (l : List Rl), v = .slice A n c ∧ l.length ≤ 9223372036854775807 ∧ RepP (fun b o => b < w.heap.size) w (.slice A n c) (.sl (l.map encR)) := by
  have hU := Tryz.underlying32
  have hC : Tryz.prog.cellsOf 36 = 5 := by kernel_rfl
  obtain ⟨fuel, hf⟩ := h
  have hv1 : ∀ A n c, v = .slice A n c → SlOK A n c := by
    rintro A n c rfl
    unfold Value.okWide at hv
    rw [hU] at hv
    exact sl_ok hv
  have hcells : ∀ A n c, v.cells.toList = [.slice A n c] → v = .slice A n c := by
    intro A n c e
    unfold Value.okWide at hv
    rw [hU] at hv
    cases v <;> simp_all [Value.cells, Cell.okWide, Cell.ok]
  rcases open_slice hU hf with ⟨hcs, _⟩ | ⟨a, len, cap, m, k, D, Pl, hcs, _, hl, hm, hmm, _, hi⟩
  · have := hcells _ _ _ hcs
    subst this
    exact ⟨none, 0, 0, [], rfl, by simp, .nil'⟩
  · have e := hcells _ _ _ hcs
    subst e
    simp at hmm
    subst hmm
    rcases hv1 _ _ _ rfl with ⟨q, _⟩ | ⟨b, off, q⟩
    · cases q
    cases q
    obtain ⟨R, hR⟩ := choose_lt (p := fun i (r : Rl) => ∀ j, j < 5 → w.cell? ⟨b, off + i * 5 + j, none⟩ = some (cellR r j) ∧ (cellR r j).oneCell' = true) (n := m) (fun i hi' => by
      obtain ⟨cs', c1, c2⟩ := hi i hi'
      obtain ⟨r, rfl⟩ := open_rule c2
      rw [hC] at c1
      obtain ⟨_, _, hcell⟩ := World.cells?_some c1
      refine ⟨r, fun j hj => ?_⟩
      have := hcell j hj
      rw [add_add, Addr.add_lit] at this
      rw [show off + i * 5 + j = off + (i * 5 + j) by omega, this]
      unfold cellR
      obtain rfl | rfl | rfl | rfl | rfl : j = 0 ∨ j = 1 ∨ j = 2 ∨ j = 3 ∨ j = 4 := by omega
      all_goals exact ⟨rfl, rfl⟩)
    refine ⟨some ⟨b, off, none⟩, len, m, (List.range len).map R, rfl, by simp; unfold maxLen at hm; omega, ?_⟩
    have hat : ∀ i r, (((List.range len).map R).map encR)[i]? = some r → i < len ∧ r = encR (R i) := fun i r hr => by
      rw [List.getElem?_map, List.getElem?_map] at hr
      obtain ⟨y, hy, rfl⟩ := Option.map_eq_some_iff.1 hr
      obtain ⟨z, hz, rfl⟩ := Option.map_eq_some_iff.1 hy
      obtain ⟨hlt, rfl⟩ := List.getElem?_eq_some_iff.1 hz
      rw [List.length_range] at hlt
      exact ⟨hlt, by simp⟩
    have := RepP.sl (S := fun b o => b < w.heap.size) (w := w) b off 5 m (((List.range len).map R).map encR) (fun i j => cellR (R i) j) (by simpa using hl) (fun r hr => by
      obtain ⟨p, _, rfl⟩ := List.mem_map.1 hr
      rfl) (fun i j hi' hj => cell_lt (hR i (by simp at hi'; omega) j hj).1) (fun i j hi' hj => hR i (by simp at hi'; omega) j hj) (fun i j r x hr hx => by
      obtain ⟨hlt, rfl⟩ := hat i r hr
      have hj : j < 5 := (List.getElem?_eq_some_iff.1 hx).1
      unfold cellR
      obtain rfl | rfl | rfl | rfl | rfl : j = 0 ∨ j = 1 ∨ j = 2 ∨ j = 3 ∨ j = 4 := by omega
      all_goals
        cases hx
        exact .lit _ rfl)
    simpa using this
end
end Go.Proofs.YtkppcahnbifkgaaGreatDoor.B

set_option linter.unusedVariables false
set_option linter.unusedSimpArgs false
namespace Go.Proofs.YtkppcahnbifkgaaGreatDoor.B
open Go.RowKit
theorem repL_of {S : Nat → Nat → Prop} {w : World} : ∀ {vs : List Value} {ps : List PV}, vs.length = ps.length → (∀ (i : Nat) (v : Value) (p : PV), vs[i]? = some v → ps[i]? = some p → RepP S w v p) → RepL S w vs.toArray ps :=
  fun hl h => ⟨by simpa using hl, fun i v p hv hp => h i v p (by simpa using hv) hp⟩
/-- A contract on pure values, from a world. -/
theorem ac_walk {f : FuncId} {vs : List Value} {ps : List PV} (h : ACalls H.Tab Tryz.prog f ps (.lit (.bool true)) none) {w : World} (hT : H.Tab w) (hl : vs.length = ps.length) (hr : ∀ (i : Nat) (v : Value) (p : PV), vs[i]? = some v → ps[i]? = some p → RepP (fun b o => b < w.heap.size) w v p) :
    Calls Tryz.prog f vs.toArray w fun e w' => e = .returned (.bool true) ∧ Below w.heap.size w w' := by
  refine (h.2 w (fun b o => b < w.heap.size) _ hT (fun b o h => h) (repL_of hl hr)).mono ?_
  rintro e w' ⟨v', S', rfl, hb, _, _, _, _, hr, _⟩
  rw [(rep_lit hr).1]
  exact ⟨rfl, hb⟩
theorem RulesSorts_walk (A : Option Addr) (n c : Nat) (l : List Rl) (turn : Int) (w : World) (hl : l.length ≤ 9223372036854775807) (hr : RepP (fun b o => b < w.heap.size) w (.slice A n c) (.sl (l.map encR))) (hT : H.Tab w) :
    Calls Tryz.prog 5 #[.slice A n c, .int .i64 turn] w
      fun e w' => e = .returned (.bool true) ∧ Below w.heap.size w w' := by
  refine ac_walk (rulesSorts_ac base l _ rfl hl turn) (vs := [.slice A n c, .int .i64 turn]) hT rfl (fun i x p hx hp => ?_)
  have hi : i < 2 := by simpa using (List.getElem?_eq_some_iff.1 hx).1
  obtain rfl | rfl : i = 0 ∨ i = 1 := by omega
  all_goals
    simp only [List.getElem?_cons_zero, List.getElem?_cons_succ, Option.some.injEq] at hx hp
    subst hx hp
  · exact hr
  · exact .lit _ rfl
end Go.Proofs.YtkppcahnbifkgaaGreatDoor.B
