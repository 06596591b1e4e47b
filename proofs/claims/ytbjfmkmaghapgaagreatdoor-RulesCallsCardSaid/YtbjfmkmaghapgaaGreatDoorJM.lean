/-
The reference of chapter 6, walked: made, RuleBody. Condition: the contract of the reference's Valid.
What the laws on sorted rules rest on: counts, neighbours. Condition: none.
The law RulesOnce, walked. Conditions: those of the law's examples.
What the walks of the rules rest on, put together. Condition: utf8's tables in memory.
A contract on pure values, from a world whose arguments are read. Condition: none.
-/
import Derived.Test.YtbjfmkmaghapgaaGreatDoorJB
import Derived.Test.YtbjfmkmaghapgaaGreatDoorJL
import Derived.Test.YtbjfmkmaghapgaaGreatDoorJK
import Derived.Test.YtbjfmkmaghapgaaGreatDoorBValidCJ
import Derived.Test.YtbjfmkmaghapgaaGreatDoorJE
import Derived.Test.YtbjfmkmaghapgaaGreatDoorJI
import Derived.Test.YtbjfmkmaghapgaaGreatDoorJH
set_option linter.unusedVariables false
set_option linter.unusedSimpArgs false
namespace Go.Proofs.YtbjfmkmaghapgaaGreatDoor.B
open Go.RowKit
set_option maxRecDepth 100000 in
set_option maxHeartbeats 2000000 in
theorem rmade_no {G : World → Prop} (hst : Stable G) (k n : Int) (t : ByteArray) (KX IX : List (List PV)) : ACalls G Tryz.prog 41 [jp k n t KX IX, .lit (.bool false)] (.tup [jp 0 0 ⟨#[]⟩ [] [], .lit (.bool false)]) none := by
  refine acalls_fn hst mixed tau_ok Tryz.func41 (by kernel_rfl) (by kernel_rfl) (by kernel_rfl) ?_
  intro Q hQ
  cbv
  intro b1 h1
  obtain rfl : b1 = true := h1.out
  clear h1
  cbv
  try exact ⟨rfl, trivial⟩
set_option maxRecDepth 100000 in
set_option maxHeartbeats 2000000 in
theorem rmade_yes {G : World → Prop} (hst : Stable G) (hV : RValidC G) (n : Int) (t : ByteArray) (ks : List ByteArray) (is : List J) (KX IX : List (List PV)) (hK : ks.map encS = KX) (hI : is.map encJ = IX) (hleaf : ∀ j, j ∈ is → leafJ j)
    (hl : ks.length = is.length) (hbig : (J.mk 6 n t ks is).size ≤ 1000000) (hne : is ≠ []) (hok : okB (.mk 6 n t ks is) = true) (hchk : Is (0 : Int) (fun _ => checkJ (.mk 6 n t ks is))) (KY IY : List (List PV)) (hKY : Is KY (fun _ => (sortKI (ks.zip IX)).1.map encS)) (hIY : Is IY (fun _ => (sortKI (ks.zip IX)).2)) :
    ACalls G Tryz.prog 41 [jp 6 n t KX IX, .lit (.bool true)] (.tup [jp 6 n t KY IY, .lit (.bool true)]) none := by
  refine acalls_fn hst mixed tau_ok Tryz.func41 (by kernel_rfl) (by kernel_rfl) (by kernel_rfl) ?_
  intro Q hQ
  cbv
  intro b1 h1
  obtain rfl : b1 = false := h1.out
  clear h1
  cbv
  refine Or.inl ⟨_, _, hQ _ _ _ _ (rcheckC hst hV (.mk 6 n t ks is) 6 n t KX IX hbig hok ⟨ks, is, rfl, hK, hI⟩ 0 hchk), ?_⟩
  clear hchk
  cbv
  intro b2 h2
  obtain rfl : b2 = false := by cases b2 <;> first | rfl | exact absurd rfl h2.yes
  clear h2
  cbv
  refine Or.inl ⟨_, _, hQ _ _ _ _ (rcanon1_ac hst n t ks is KX IX hK hI hleaf hl hbig hne KY IY hKY hIY), ?_⟩
  cbv
  try exact ⟨rfl, trivial⟩
/-- The body as it is put together. -/
def partJ (r : RB) : List ByteArray × List J := if r.reason = ⟨#[]⟩ then ([bEntity, bRecommendation], [textJ r.entity, textJ r.recommendation])
  else ([bEntity, bRecommendation, bReason], [textJ r.entity, textJ r.recommendation, textJ r.reason])
theorem look_text {s : ByteArray} (h : validB s = true) : lookJ (textJ s) = 0 := by
  have hL : lookJ (.mk 4 0 s [] []) = if (4 : Int) < 1 ∨ (6 : Int) < 4 then 9 else if usedOK 4 0 s 0 0 = false then 2 else if validB s = false ∨ ([] : List ByteArray).all validB = false then 6 else if twiceB [] = true then 8 else looks [] := rfl
  unfold textJ
  rw [hL, if_neg (by omega), if_neg (by simp [usedOK]), if_neg (by simp [h]), if_neg (by decide)]
  rfl
theorem looks_0 : ∀ {l : List J}, (∀ x, x ∈ l → lookJ x = 0) → looks l = 0
  | [], _ => rfl
  | x :: l, h => by
    show (if lookJ x = 0 then looks l else lookJ x) = 0
    rw [if_pos (h x (List.mem_cons_self ..))]
    exact looks_0 (fun y hy => h y (List.mem_cons_of_mem _ hy))
theorem look_obj {ks : List ByteArray} {is : List J} (hl : ks.length = is.length) (hk : ks.all validB = true) (h2 : twiceB ks = false) (hv : validB ⟨#[]⟩ = true) (h : ∀ x, x ∈ is → lookJ x = 0) : lookJ (.mk 6 0 ⟨#[]⟩ ks is) = 0 := by
  have hL : lookJ (.mk 6 0 ⟨#[]⟩ ks is) = if (6 : Int) < 1 ∨ (6 : Int) < 6 then 9 else if usedOK 6 0 ⟨#[]⟩ ks.length is.length = false then 2 else if validB ⟨#[]⟩ = false ∨ ks.all validB = false then 6 else if twiceB ks = true then 8 else looks is := rfl
  rw [hL, if_neg (by omega), if_neg (by simp [usedOK, hl]), if_neg (by simp only [hv, hk]; simp), if_neg (by simp [h2])]
  exact looks_0 h
theorem validK : validB bEntity = true ∧ validB bRecommendation = true ∧ validB bReason = true ∧ validB ⟨#[]⟩ = true := ⟨by kernel_rfl, by kernel_rfl, by kernel_rfl, by kernel_rfl⟩
theorem twiceK : twiceB [bEntity, bRecommendation, bReason] = false ∧ twiceB [bEntity, bRecommendation] = false := ⟨by kernel_rfl, by kernel_rfl⟩
theorem ruled_of {r : RB} (h : ruledB r = true) : validB r.entity = true ∧ validB r.recommendation = true ∧ validB r.reason = true ∧ r.entity.size ≤ 255 ∧ r.recommendation.size ≤ 255 ∧ r.reason.size ≤ 255 := by
  unfold ruledB at h
  rw [Bool.and_eq_true, Bool.and_eq_true, Bool.and_eq_true, Bool.and_eq_true, Bool.and_eq_true] at h
  obtain ⟨⟨a1, a2⟩, ⟨b1, b2⟩, c1, c2⟩ := h
  have a1 := of_decide_eq_true a1
  have b1 := of_decide_eq_true b1
  have c1 := of_decide_eq_true c1
  exact ⟨a2, b2, c2, by omega, by omega, by omega⟩
theorem part_leaf (r : RB) : ∀ j, j ∈ (partJ r).2 → leafJ j := by
  intro j hj
  unfold partJ at hj
  split at hj
  · simp at hj; rcases hj with rfl | rfl <;> exact ⟨_, _, _, rfl⟩
  · simp at hj; rcases hj with rfl | rfl | rfl <;> exact ⟨_, _, _, rfl⟩
theorem part_len (r : RB) : (partJ r).1.length = (partJ r).2.length ∧ (partJ r).2 ≠ [] := by
  unfold partJ
  split <;> simp
theorem part_size (r : RB) : (J.mk 6 0 ⟨#[]⟩ (partJ r).1 (partJ r).2).size ≤ 1000000 := by
  unfold partJ
  split <;> simp [J.size, sizes, textJ]
theorem part_ok {r : RB} (h : ruledB r = true) : okB (.mk 6 0 ⟨#[]⟩ (partJ r).1 (partJ r).2) = true := by
  obtain ⟨_, _, _, h1, h2, h3⟩ := ruled_of h
  have hE : ((⟨#[]⟩ : ByteArray).size ≤ 9223372036854775807) ∧ bEntity.size ≤ 9223372036854775807 ∧ bRecommendation.size ≤ 9223372036854775807 ∧ bReason.size ≤ 9223372036854775807 := ⟨by decide, by decide, by decide, by decide⟩
  obtain ⟨e0, e1, e2, e3⟩ := hE
  unfold partJ
  split <;> (simp only [okB, okBs, textJ, List.all_cons, List.all_nil, Bool.and_eq_true, decide_eq_true_eq, Bool.and_true]; refine ⟨⟨?_, ?_⟩, ?_⟩ <;> (try refine ⟨?_, ?_⟩) <;> (try refine ⟨?_, ?_⟩) <;> (try refine ⟨?_, ?_⟩) <;> omega)
theorem part_chk {r : RB} (h : ruledB r = true) : checkJ (.mk 6 0 ⟨#[]⟩ (partJ r).1 (partJ r).2) = 0 := by
  obtain ⟨h1, h2, h3, _⟩ := ruled_of h
  obtain ⟨q1, q2, q3, q0⟩ := validK
  have hd : (J.mk 6 0 ⟨#[]⟩ (partJ r).1 (partJ r).2).depth ≤ 3 ∧ (J.mk 6 0 ⟨#[]⟩ (partJ r).1 (partJ r).2).count ≤ 10 := by
    unfold partJ
    split <;> simp [J.depth, J.count, depths, counts, textJ]
  unfold checkJ
  rw [if_neg (by omega), if_neg (by omega)]
  refine look_obj (part_len r).1 ?_ ?_ q0 ?_
  · unfold partJ
    split
    · show (validB bEntity && (validB bRecommendation && true)) = true
      rw [q1, q2]; rfl
    · show (validB bEntity && (validB bRecommendation && (validB bReason && true))) = true
      rw [q1, q2, q3]; rfl
  · unfold partJ
    split
    · exact twiceK.2
    · exact twiceK.1
  · intro x hx
    unfold partJ at hx
    split at hx
    · simp at hx; rcases hx with rfl | rfl
      · exact look_text h1
      · exact look_text h2
    · simp at hx; rcases hx with rfl | rfl | rfl
      · exact look_text h1
      · exact look_text h2
      · exact look_text h3
theorem sort_3 (a b c : List PV) : sortKI ([bEntity, bRecommendation, bReason].zip [a, b, c]) = ([bEntity, bReason, bRecommendation], [a, c, b]) := by kernel_rfl
theorem sort_2 (a b : List PV) : sortKI ([bEntity, bRecommendation].zip [a, b]) = ([bEntity, bRecommendation], [a, b]) := by kernel_rfl
theorem part_sort {r : RB} {k n : Int} {t : ByteArray} {KX IX : List (List PV)} (hJ : JRow (bodyJ r) k n t KX IX) : k = 6 ∧ n = 0 ∧ t = ⟨#[]⟩ ∧ Is KX (fun _ => (sortKI ((partJ r).1.zip ((partJ r).2.map encJ))).1.map encS) ∧ Is IX (fun _ => (sortKI ((partJ r).1.zip ((partJ r).2.map encJ))).2) := by
  obtain ⟨ks, is, e, hK, hI⟩ := hJ
  unfold bodyJ at e
  split at e
  · rename_i h
    cases e
    have ep : partJ r = ([bEntity, bRecommendation], [textJ r.entity, textJ r.recommendation]) := by unfold partJ; rw [if_pos h]
    rw [ep]
    refine ⟨rfl, rfl, rfl, ⟨?_⟩, ⟨?_⟩⟩
    · rw [← hK]; exact congrArg (fun p => p.1.map encS) (sort_2 (encJ (textJ r.entity)) (encJ (textJ r.recommendation))).symm
    · rw [← hI]; exact congrArg (fun p => p.2) (sort_2 (encJ (textJ r.entity)) (encJ (textJ r.recommendation))).symm
  · rename_i h
    cases e
    have ep : partJ r = ([bEntity, bRecommendation, bReason], [textJ r.entity, textJ r.recommendation, textJ r.reason]) := by unfold partJ; rw [if_neg h]
    rw [ep]
    refine ⟨rfl, rfl, rfl, ⟨?_⟩, ⟨?_⟩⟩
    · rw [← hK]; exact congrArg (fun p => p.1.map encS) (sort_3 (encJ (textJ r.entity)) (encJ (textJ r.recommendation)) (encJ (textJ r.reason))).symm
    · rw [← hI]; exact congrArg (fun p => p.2) (sort_3 (encJ (textJ r.entity)) (encJ (textJ r.recommendation)) (encJ (textJ r.reason))).symm
set_option maxRecDepth 100000 in
set_option maxHeartbeats 8000000 in
theorem rruleBody_of {G : World → Prop} (hst : Stable G) (e rec rea : ByteArray) (P1 P2 : List (List PV)) (hP1 : Is P1 (fun _ => (partJ ⟨e, rec, rea⟩).1.map encS)) (hP2 : Is P2 (fun _ => (partJ ⟨e, rec, rea⟩).2.map encJ)) (c : Bool) (k n : Int) (t : ByteArray) (KX IX : List (List PV))
    (hrule : ACalls G Tryz.prog 42 [.agg [.lit (.string e), .lit (.string rec), .lit (.string rea)]] (.lit (.bool c)) none)
    (hmade : ACalls G Tryz.prog 41 [jp 6 0 ⟨#[]⟩ P1 P2, .lit (.bool c)] (.tup [jp k n t KX IX, .lit (.bool c)]) none) :
    ACalls G Tryz.prog 15 [.agg [.lit (.string e), .lit (.string rec), .lit (.string rea)]] (.tup [jp k n t KX IX, .lit (.bool c)]) none := by
  refine acalls_fnA hst mixed tau_ok Tryz.func15 (by kernel_rfl) (by kernel_rfl) (by kernel_rfl) ?_
  intro Q hQ hH hO
  cbv
  refine Or.inl ⟨_, _, hQ _ _ _ _ (rword_ac hst e), ?_⟩
  cbv
  obtain ⟨K1, hK1⟩ : ∃ K1, Is K1 (fun _ => ([] : List (List PV)) ++ [[.lit (.string bEntity)]]) := ⟨_, ⟨rfl⟩⟩
  obtain ⟨I1, hI1⟩ : ∃ I1, Is I1 (fun _ => ([] : List (List PV)) ++ [[.lit (.int .i64 4), .lit (.int .i64 0), .lit (.string e), .sl [], .sl []]]) := ⟨_, ⟨rfl⟩⟩
  have hp1 := rput_oc (G := G) 0 0 ⟨#[]⟩ [] [] (by simp) (by simp) (by simp) (by simp) bEntity 4 0 e K1 I1 hK1 hI1
  refine Or.inr (Or.inr ⟨[some (codeJ, 0), none, none], jp 6 0 ⟨#[]⟩ K1 I1, some (codeJ, 0), hO _ _ _ _ _ hp1, ?_⟩)
  clear hp1
  cbv
  refine Or.inl ⟨_, _, hQ _ _ _ _ (rword_ac hst rec), ?_⟩
  cbv
  obtain ⟨K2, hK2⟩ : ∃ K2, Is K2 (fun _ => K1 ++ [[.lit (.string bRecommendation)]]) := ⟨_, ⟨rfl⟩⟩
  obtain ⟨I2, hI2⟩ : ∃ I2, Is I2 (fun _ => I1 ++ [[.lit (.int .i64 4), .lit (.int .i64 0), .lit (.string rec), .sl [], .sl []]]) := ⟨_, ⟨rfl⟩⟩
  have hp2 := rput_oc (G := G) 6 0 ⟨#[]⟩ K1 I1 (by rw [hK1.out]; simp) (by rw [hI1.out]; simp) (by rw [hK1.out]; simp) (by rw [hI1.out]; simp) bRecommendation 4 0 rec K2 I2 hK2 hI2
  refine Or.inr (Or.inr ⟨[some (codeJ, 0), none, none], jp 6 0 ⟨#[]⟩ K2 I2, some (codeJ, 0), hO _ _ _ _ _ hp2, ?_⟩)
  clear hp2
  cbv
  intro b1 h1
  cbv
  cases b1
  · cbv
    have he : rea = ⟨#[]⟩ := Decidable.not_not.1 h1.no
    refine Or.inl ⟨_, _, hQ _ _ _ _ hrule, ?_⟩
    cbv
    have hq : partJ ⟨e, rec, rea⟩ = ([bEntity, bRecommendation], [textJ e, textJ rec]) := if_pos he
    have eK : K2 = P1 := by rw [hK2.out, hK1.out, hP1.out, hq]; rfl
    have eI : I2 = P2 := by rw [hI2.out, hI1.out, hP2.out, hq]; simp [textJ, encJ, encJs]
    clear hq
    subst eK
    subst eI
    refine Or.inl ⟨_, _, hQ _ _ _ _ hmade, ?_⟩
    cbv
    try exact ⟨rfl, trivial⟩
  · cbv
    have he : ¬ rea = ⟨#[]⟩ := h1.yes
    refine Or.inl ⟨_, _, hQ _ _ _ _ (rword_ac hst rea), ?_⟩
    cbv
    obtain ⟨K3, hK3⟩ : ∃ K3, Is K3 (fun _ => K2 ++ [[.lit (.string bReason)]]) := ⟨_, ⟨rfl⟩⟩
    obtain ⟨I3, hI3⟩ : ∃ I3, Is I3 (fun _ => I2 ++ [[.lit (.int .i64 4), .lit (.int .i64 0), .lit (.string rea), .sl [], .sl []]]) := ⟨_, ⟨rfl⟩⟩
    have hp3 := rput_oc (G := G) 6 0 ⟨#[]⟩ K2 I2 (by rw [hK2.out, hK1.out]; simp) (by rw [hI2.out, hI1.out]; simp) (by rw [hK2.out, hK1.out]; simp) (by rw [hI2.out, hI1.out]; simp) bReason 4 0 rea K3 I3 hK3 hI3
    refine Or.inr (Or.inr ⟨[some (codeJ, 0), none, none], jp 6 0 ⟨#[]⟩ K3 I3, some (codeJ, 0), hO _ _ _ _ _ hp3, ?_⟩)
    clear hp3
    cbv
    refine Or.inl ⟨_, _, hQ _ _ _ _ hrule, ?_⟩
    cbv
    have hq : partJ ⟨e, rec, rea⟩ = ([bEntity, bRecommendation, bReason], [textJ e, textJ rec, textJ rea]) := if_neg he
    have eK : K3 = P1 := by rw [hK3.out, hK2.out, hK1.out, hP1.out, hq]; rfl
    have eI : I3 = P2 := by rw [hI3.out, hI2.out, hI1.out, hP2.out, hq]; simp [textJ, encJ, encJs]
    clear hq
    subst eK
    subst eI
    refine Or.inl ⟨_, _, hQ _ _ _ _ hmade, ?_⟩
    cbv
    try exact ⟨rfl, trivial⟩
theorem ruleBodyC {G : World → Prop} (hst : Stable G) (hV : RValidC G) : RuleBodyC G := by
  constructor
  · intro r k n t KX IX hr hJ
    obtain ⟨rfl, rfl, rfl, hKX, hIX⟩ := part_sort hJ
    refine rruleBody_of hst r.entity r.recommendation r.reason _ _ ⟨rfl⟩ ⟨rfl⟩ true 6 0 ⟨#[]⟩ KX IX (rrule_ac hst hV r true ⟨hr.symm⟩) ?_
    exact rmade_yes hst hV 0 ⟨#[]⟩ (partJ r).1 (partJ r).2 _ _ rfl rfl (part_leaf r) (part_len r).1 (part_size r) (part_len r).2 (part_ok hr) ⟨(part_chk hr).symm⟩ KX IX hKX hIX
  · intro r hr
    exact rruleBody_of hst r.entity r.recommendation r.reason _ _ ⟨rfl⟩ ⟨rfl⟩ false 0 0 ⟨#[]⟩ [] [] (rrule_ac hst hV r false ⟨hr.symm⟩) (rmade_no hst 6 0 ⟨#[]⟩ _ _)
end Go.Proofs.YtbjfmkmaghapgaaGreatDoor.B

set_option linter.unusedVariables false
set_option linter.unusedSimpArgs false
namespace Go.Proofs.YtbjfmkmaghapgaaGreatDoor.B
open Go.RowKit
/-- One is less than the next. -/
theorem adj {s : List Rl} (h : s.Pairwise ltR) {i : Nat} {x y : Rl} (hx : s[i]? = some x) (hy : s[i + 1]? = some y) : cmpR x y = -1 ∧ cmpR y x = 1 := by
  obtain ⟨h1, rfl⟩ := List.getElem?_eq_some_iff.1 hx
  obtain ⟨h2, rfl⟩ := List.getElem?_eq_some_iff.1 hy
  have q : cmpR s[i] s[i + 1] = -1 := List.pairwise_iff_getElem.1 h i (i + 1) h1 h2 (by omega)
  have := cmpr_R.swap s[i] s[i + 1]
  exact ⟨q, by omega⟩
/-- So often it occurred. -/
structure InAt (s : List Rl) (x : Rl) (k : Int) (c : Int) : Prop where
  lo : 0 ≤ k
  hi : k ≤ s.length
  out : c = (s.take k.toNat).countP (fun y => decide (y = x))
theorem InAt.next {s : List Rl} {x y : Rl} {k c : Int} (h : InAt s x k c) (hy : s[k.toNat]? = some y) {k' c' : Int} (hk : k' = k + 1) (hc : c' = if y = x then c + 1 else c) : InAt s x k' c' := by
  have h0 := h.lo
  have hlt := (List.getElem?_eq_some_iff.1 hy).1
  refine ⟨by omega, by omega, ?_⟩
  rw [hk, show (k + 1).toNat = k.toNat + 1 by omega, List.take_add_one, hy, List.countP_append, hc, h.out]
  by_cases e : y = x <;> simp [e]
theorem count_one : ∀ {s : List Rl}, s.Pairwise ltR → ∀ {x : Rl}, x ∈ s → s.countP (fun y => decide (y = x)) = 1
  | [], _, x, h => by simp at h
  | a :: s, h, x, hx => by
    have h' := List.pairwise_cons.1 h
    have irr : ∀ z, ¬ ltR z z := fun z hz => by unfold ltR at hz; rw [cmpR_self] at hz; cases hz
    by_cases e : a = x
    · subst e
      rw [List.countP_cons_of_pos (by simp)]
      have : s.countP (fun y => decide (y = a)) = 0 := by
        rw [List.countP_eq_zero]
        intro y hy
        simp only [decide_eq_true_eq]
        intro e
        subst e
        exact irr _ (h'.1 y hy)
      omega
    · rw [List.countP_cons_of_neg (by simpa using e)]
      exact count_one h'.2 ((List.mem_cons.1 hx).resolve_left (fun q => e q.symm))
theorem sort_turn (l : List Rl) (k : Nat) : sortU (l.drop k ++ l.take k) = sortU l := sortU_congr (fun x => by
  rw [List.mem_append, or_comm, ← List.mem_append, List.take_append_drop])
theorem sort_twice (l : List Rl) : sortU (l ++ l) = sortU l := sortU_congr (fun x => by simp)
structure Rng (l : List Rl) (k : Int) : Prop where
  lo : 0 ≤ k
  hi : k ≤ l.length
structure Upto1 (n : Nat) (k : Int) : Prop where
  lo : 0 ≤ k
  hi : k ≤ n
structure Cut (l : List Rl) (k : Int) (Y Y2 M : List (List PV)) : Prop where
  y : Y = (l.map encR).drop k.toNat
  y2 : Y2 = (l.map encR).take k.toNat
  m : M = Y ++ Y2
theorem Cut.enc {l : List Rl} {k : Int} {Y Y2 M : List (List PV)} (h : Cut l k Y Y2 M) : (l.drop k.toNat ++ l.take k.toNat).map encR = M := by
  rw [h.m, h.y, h.y2, List.map_append, List.map_drop, List.map_take]
structure Srt (l s : List Rl) (Z : List (List PV)) (ns : Nat) : Prop where
  e : s = sortU l
  z : s.map encR = Z
  n : Z.length = ns
  hn : ns = s.length
theorem Srt.pw {l s : List Rl} {Z : List (List PV)} {ns : Nat} (h : Srt l s Z ns) : s.Pairwise ltR := by rw [h.e]; exact sortU_lt l
end Go.Proofs.YtbjfmkmaghapgaaGreatDoor.B

set_option linter.unusedVariables false
set_option linter.unusedSimpArgs false
namespace Go.Proofs.YtbjfmkmaghapgaaGreatDoor.B
open Go.RowKit
theorem ofE_parts {typ key : ByteArray} {body : J} {room : ByteArray} {r : Rl} (h : ofE typ key body room = some r) : ∃ rk, kindOf typ = some (r.kind, rk) ∧ r.key = key ∧ r.room = room := by
  unfold ofE at h
  split at h
  · rename_i k rk b hk hb
    split at h
    · cases h
      exact ⟨rk, hk, rfl, rfl⟩
    · cases h
  · cases h
theorem IsBest.uniq {l : List En} {n : Nat} {k : Int} {key : ByteArray} {rk a rk' a' : Int} (h : IsBest l n k key rk a) (h' : IsBest l n k key rk' a') : a = a' := by
  obtain ⟨e, he, hk, hkey⟩ := h.one
  obtain ⟨e', he', hk', hkey'⟩ := h'.one
  have h1 := h.all a'.toNat e' h'.hi he' rk' hk' hkey'
  have h2 := h'.all a.toNat e h.hi he rk hk hkey
  have := h.lo
  have := h'.lo
  omega
theorem once_entry {l : List En} {room : ByteArray} {x : Rl} (hx : x ∈ extractR l room) : ∃ (a : Nat) (e : En) (rk : Int), l[a]? = some e ∧ kindOf e.typ = some (x.kind, rk) ∧ IsBest l l.length x.kind x.key rk a ∧ ofE e.typ e.key e.body room = some x ∧ e.key = x.key := by
  unfold extractR at hx
  rw [mem_sortU, mem_rulesOf] at hx
  obtain ⟨a, e, k, rk, he, hk, hb, ho⟩ := hx
  obtain ⟨rk', hk', hkey, _⟩ := ofE_parts ho
  rw [hk] at hk'
  cases hk'
  rw [← hkey] at hb
  exact ⟨a, e, rk, he, hk, hb, ho, hkey.symm⟩
theorem once_room {l : List En} {room : ByteArray} {x : Rl} (hx : x ∈ extractR l room) : x.room = room := by
  obtain ⟨a, e, rk, he, hk, hb, ho, _⟩ := once_entry hx
  exact (ofE_parts ho).choose_spec.2.2
theorem once_same {l : List En} {room : ByteArray} {x y : Rl} (hx : x ∈ extractR l room) (hy : y ∈ extractR l room) (h1 : x.kind = y.kind) (h2 : x.key = y.key) : x = y := by
  obtain ⟨a, e, rk, he, hk, hb, ho, _⟩ := once_entry hx
  obtain ⟨a', e', rk', he', hk', hb', ho', _⟩ := once_entry hy
  rw [← h1, ← h2] at hb'
  have := hb.uniq hb'
  have : a = a' := by omega
  subst this
  rw [he] at he'
  cases he'
  rw [ho] at ho'
  cases ho'
  rfl
/-- Two places of a list in order hold different things. -/
theorem lt_ne {s : List Rl} (h : s.Pairwise ltR) {i k : Nat} {x y : Rl} (hk : s[k]? = some x) (hi : s[i]? = some y) (hlt : k < i) : x ≠ y := by
  obtain ⟨h1, rfl⟩ := List.getElem?_eq_some_iff.1 hk
  obtain ⟨h2, rfl⟩ := List.getElem?_eq_some_iff.1 hi
  have q : ltR s[k] s[i] := List.pairwise_iff_getElem.1 h k i h1 h2 hlt
  intro e
  unfold ltR at q
  rw [e, cmpR_self] at q
  cases q
/-- The search for the entry that counts, so far. -/
structure BestAt (l : List En) (k : Int) (key : ByteArray) (i best at_ : Int) : Prop where
  lo : 0 ≤ i
  hi : i ≤ l.length
  out : (at_ = -1 ∧ best = 9 ∧ ∀ (j : Nat) e, (j : Int) < i → l[j]? = some e → ∀ r, kindOf e.typ = some (k, r) → e.key ≠ key) ∨ IsBest l i.toNat k key best at_
theorem BestAt.zero (l : List En) (k : Int) (key : ByteArray) : BestAt l k key 0 9 (-1) := ⟨by omega, by omega, .inl ⟨rfl, rfl, fun j e h => by omega⟩⟩
theorem kind_rank {s : ByteArray} {k r : Int} (h : kindOf s = some (k, r)) : 0 ≤ r ∧ r ≤ 2 := by
  unfold kindOf at h
  repeat' (split at h; · cases h; omega)
  cases h
theorem BestAt.keep {l : List En} {k : Int} {key : ByteArray} {i best at_ : Int} (h : BestAt l k key i best at_) {x : En} (hx : l[i.toNat]? = some x) (hn : ∀ r, kindOf x.typ = some (k, r) → x.key = key → best ≤ r) : BestAt l k key (i + 1) best at_ := by
  have h0 := h.lo
  have hlt := (List.getElem?_eq_some_iff.1 hx).1
  refine ⟨by omega, by omega, ?_⟩
  rw [show (i + 1).toNat = i.toNat + 1 by omega]
  rcases h.out with ⟨e1, e2, h3⟩ | hb
  · left
    refine ⟨e1, e2, fun j e hj he r hr hkey => ?_⟩
    by_cases q : (j : Int) < i
    · exact h3 j e q he r hr hkey
    · obtain rfl : j = i.toNat := by omega
      rw [hx] at he
      cases he
      have := hn r hr hkey
      have := kind_rank hr
      omega
  · exact .inr (hb.next hx hn)
theorem BestAt.take {l : List En} {k : Int} {key : ByteArray} {i best at_ : Int} (h : BestAt l k key i best at_) {x : En} (hx : l[i.toNat]? = some x) {r : Int} (hk : kindOf x.typ = some (k, r)) (hkey : x.key = key) (hlt : r < best) : BestAt l k key (i + 1) r i := by
  have h0 := h.lo
  have hi := (List.getElem?_eq_some_iff.1 hx).1
  refine ⟨by omega, by omega, .inr ?_⟩
  rw [show (i + 1).toNat = i.toNat + 1 by omega]
  refine ⟨h0, by omega, ⟨x, hx, hk, hkey⟩, fun j e hj he r' hr' hkey' => ?_⟩
  by_cases q : j < i.toNat
  · left
    rcases h.out with ⟨_, _, h3⟩ | hb
    · exact absurd hkey' (h3 j e (by omega) he r' hr')
    · rcases hb.all j e q he r' hr' hkey' with q | ⟨q, _⟩ <;> omega
  · obtain rfl : j = i.toNat := by omega
    rw [hx] at he
    cases he
    rw [hk] at hr'
    cases hr'
    right
    exact ⟨rfl, by omega⟩
theorem BestAt.found {l : List En} {room : ByteArray} {x : Rl} (hx : x ∈ extractR l room) {i best at_ : Int} (h : BestAt l x.kind x.key i best at_) (hi : ¬ i < l.length) : 0 ≤ at_ ∧ ∃ e, l[at_.toNat]? = some e ∧ ofE e.typ e.key e.body room = some x := by
  obtain ⟨a, e, rk, he, hk, hb, ho, hkey⟩ := once_entry hx
  have h1 := h.hi
  have hn : i.toNat = l.length := by omega
  rcases h.out with ⟨_, _, h3⟩ | hb'
  · have hlt := (List.getElem?_eq_some_iff.1 he).1
    exact absurd hkey (h3 a e (by omega) he rk hk)
  · rw [hn] at hb'
    have := hb.uniq hb'
    subst this
    exact ⟨by omega, e, by simpa using he, ho⟩
end Go.Proofs.YtbjfmkmaghapgaaGreatDoor.B

set_option linter.unusedVariables false
set_option linter.unusedSimpArgs false
namespace Go.Proofs.YtbjfmkmaghapgaaGreatDoor.B
open Go.RowKit
theorem rvalidC : RValidC H.Tab := by
  intro s hs
  refine of_calls (v0 := .bool (validB s)) tab_stable tab_not ⟨_, Tryz.func72, by kernel_rfl, by kernel_rfl⟩ (fun w S vs hT hrep => ?_) (fun S w => .lit _ rfl)
  obtain ⟨v, rfl, hv⟩ := hrep.one
  rw [(rep_lit hv).1]
  exact H.rvalid_any s w hs
theorem base : Base H.Tab := ⟨tab_stable, validC, checkC tab_stable tab_not validC, sortC _, sortNilC tab_stable tab_not, ruleBodyC tab_stable rvalidC⟩
end Go.Proofs.YtbjfmkmaghapgaaGreatDoor.B

set_option linter.unusedVariables false
set_option linter.unusedSimpArgs false
namespace Go.Proofs.YtbjfmkmaghapgaaGreatDoor.B
open Go.RowKit
theorem repL_of {S : Nat → Nat → Prop} {w : World} : ∀ {vs : List Value} {ps : List PV}, vs.length = ps.length → (∀ (i : Nat) (v : Value) (p : PV), vs[i]? = some v → ps[i]? = some p → RepP S w v p) → RepL S w vs.toArray ps :=
  fun hl h => ⟨by simpa using hl, fun i v p hv hp => h i v p (by simpa using hv) hp⟩
/-- A contract on pure values, from a world. -/
theorem ac_walk {f : FuncId} {vs : List Value} {ps : List PV} (h : ACalls H.Tab Tryz.prog f ps (.lit (.bool true)) none) {w : World} (hT : H.Tab w) (hl : vs.length = ps.length) (hr : ∀ (i : Nat) (v : Value) (p : PV), vs[i]? = some v → ps[i]? = some p → RepP (fun b o => b < w.heap.size) w v p) :
    Calls Tryz.prog f vs.toArray w fun e w' => e = .returned (.bool true) ∧ Below w.heap.size w w' := by
  refine (h.2 w (fun b o => b < w.heap.size) _ hT (fun b o h => h) (repL_of hl hr)).mono ?_
  rintro e w' ⟨v', S', rfl, hb, _, _, _, _, hr, _⟩
  rw [(rep_lit hr).1]
  exact ⟨rfl, hb⟩
/-- Argument by argument. -/
inductive RepVs (w : World) : List Value → List PV → Prop
  | nil : RepVs w [] []
  | cons {v : Value} {p : PV} {vs : List Value} {ps : List PV} : RepP (fun b o => b < w.heap.size) w v p → RepVs w vs ps → RepVs w (v :: vs) (p :: ps)
theorem RepVs.len {w : World} {vs : List Value} {ps : List PV} (h : RepVs w vs ps) : vs.length = ps.length := by
  induction h with
  | nil => rfl
  | cons _ _ ih => simp [ih]
theorem RepVs.at_ {w : World} {vs : List Value} {ps : List PV} (h : RepVs w vs ps) : ∀ (i : Nat) (v : Value) (p : PV), vs[i]? = some v → ps[i]? = some p → RepP (fun b o => b < w.heap.size) w v p := by
  induction h with
  | nil => intro i v p h; simp at h
  | cons h1 _ ih =>
    intro i v p hv hp
    cases i with
    | zero => cases hv; cases hp; exact h1
    | succ i => exact ih i v p (by simpa using hv) (by simpa using hp)
theorem ac_walks {f : FuncId} {vs : List Value} {ps : List PV} (h : ACalls H.Tab Tryz.prog f ps (.lit (.bool true)) none) {w : World} (hT : H.Tab w) (hr : RepVs w vs ps) :
    Calls Tryz.prog f vs.toArray w fun e w' => e = .returned (.bool true) ∧ Below w.heap.size w w' := ac_walk h hT hr.len hr.at_
end Go.Proofs.YtbjfmkmaghapgaaGreatDoor.B
