/-
content.right, RuleOf; walked. Conditions: json.Check's contract, scan.Valid's.
-/
import Derived.Test.YtbjfmkmaghapgaaGreatDoorBFun4
import Derived.Test.YtbjfmkmaghapgaaGreatDoorBUsed
set_option linter.unusedVariables false
set_option linter.unusedSimpArgs false
namespace Go.Proofs.YtbjfmkmaghapgaaGreatDoor.B
open Go.RowKit
/-- Is one there twice? -/
def twiceB : List ByteArray → Bool
  | [] => false
  | a :: l => l.any (fun y => decide (a = y)) || twiceB l
mutual
/-- Why a value may not be, within. -/
def lookJ : J → Int
  | .mk k n t ks is =>
    if k < 1 ∨ 6 < k then 9 else if usedOK k n t ks.length is.length = false then 2
    else if validB t = false ∨ ks.all validB = false then 6 else if twiceB ks = true then 8 else looks is
def looks : List J → Int
  | [] => 0
  | j :: r => if lookJ j = 0 then looks r else lookJ j
end
/-- Why a value may not be. -/
def checkJ (x : J) : Int := if (8 : Int) < x.depth then 7 else if (400 : Int) < x.count then 4 else lookJ x
mutual
/-- Texts that fit. -/
def okB : J → Bool
  | .mk _ _ t ks is => decide (t.size ≤ 9223372036854775807) && ks.all (fun k => decide (k.size ≤ 9223372036854775807)) && okBs is
def okBs : List J → Bool
  | [] => true
  | j :: r => okB j && okBs r
end
theorem okBs_mem : ∀ {l : List J}, okBs l = true → ∀ {x : J}, x ∈ l → okB x = true
  | [], _, x, h => by simp at h
  | j :: r, h, x, hx => by
    unfold okBs at h
    rw [Bool.and_eq_true] at h
    rcases List.mem_cons.1 hx with rfl | hx
    · exact h.1
    · exact okBs_mem h.2 hx
/-- The contract of json.Check. -/
def CheckC (G : World → Prop) : Prop := ∀ (x : J) (k n : Int) (t : ByteArray) (KX IX : List (List PV)), x.size ≤ 1000000 → okB x = true → JRow x k n t KX IX → ∀ (c : Int), Is c (fun _ => checkJ x) →
    ACalls G Tryz.prog 63 [jp k n t KX IX] (.lit (.int .i64 c)) none
def rightJ (x : J) : Bool := decide (x.kind = 6 ∧ checkJ x = 0)
theorem JRow.kind {x : J} {k n : Int} {t : ByteArray} {KX IX : List (List PV)} (h : JRow x k n t KX IX) : x.kind = k := by
  obtain ⟨ks, is, rfl, rfl, rfl⟩ := h
  rfl
set_option maxRecDepth 100000 in
set_option maxHeartbeats 4000000 in
theorem right_ac {G : World → Prop} (hst : Stable G) (hC : CheckC G) (x : J) (k n : Int) (t : ByteArray) (KX IX : List (List PV)) (hbig : x.size ≤ 1000000) (hok : okB x = true) (hJ : JRow x k n t KX IX) (c : Bool) (hc : Is c (fun _ => rightJ x)) :
    ACalls G Tryz.prog 53 [jp k n t KX IX] (.lit (.bool c)) none := by
  refine acalls_fn hst mixed tau_ok Tryz.func53 (by kernel_rfl) (by kernel_rfl) (by kernel_rfl) ?_
  intro Q hQ
  cbv
  intro b1 h1
  cbv
  cases b1
  · cbv
    refine litB ?_
    have e := h1.no
    rw [hc.out]
    exact (decide_eq_false (fun q => e (hJ.kind ▸ q.1))).symm
  · cbv
    obtain ⟨e, he⟩ : ∃ e, Is e (fun _ => checkJ x) := ⟨_, ⟨rfl⟩⟩
    refine Or.inl ⟨_, _, hQ _ _ _ _ (hC x k n t KX IX hbig hok hJ e he), ?_⟩
    cbv
    intro b2 h2
    cbv
    refine litB ?_
    have e1 := h1.yes
    have e2 := is_b.1 h2
    have e3 := hJ.kind
    have e4 := he.out
    rw [hc.out]
    unfold rightJ
    rw [e3, ← e4]
    cases b2
    · exact (decide_eq_false (fun q => by have := e2.2 q.2; cases this)).symm
    · exact (decide_eq_true ⟨e1, e2.1 rfl⟩).symm
def bEntity : ByteArray := ⟨#[101, 110, 116, 105, 116, 121]⟩
def bRecommendation : ByteArray := ⟨#[114, 101, 99, 111, 109, 109, 101, 110, 100, 97, 116, 105, 111, 110]⟩
def bReason : ByteArray := ⟨#[114, 101, 97, 115, 111, 110]⟩
def wordD (x : J) (key : ByteArray) : ByteArray := (wordJ x key).getD ⟨#[]⟩
/-- What a rule's body says. -/
def ruleOf (x : J) : Option RB :=
  if rightJ x = true then (if ruledB ⟨wordD x bEntity, wordD x bRecommendation, wordD x bReason⟩ = true then some ⟨wordD x bEntity, wordD x bRecommendation, wordD x bReason⟩ else none) else none
theorem WordR.get {x : J} {key s : ByteArray} {b : Bool} (h : WordR x key s b) : s = wordD x key := by
  unfold wordD
  rcases h.out with ⟨_, h⟩ | ⟨_, h, e⟩
  · rw [h]; rfl
  · rw [h, e]; rfl
structure RuleR (x : J) (s1 s2 s3 : ByteArray) (b : Bool) : Prop where
  out : (b = true ∧ ruleOf x = some ⟨s1, s2, s3⟩) ∨ (b = false ∧ ruleOf x = none ∧ s1 = ⟨#[]⟩ ∧ s2 = ⟨#[]⟩ ∧ s3 = ⟨#[]⟩)
theorem RuleR.of (x : J) : ∃ s1 s2 s3 b, RuleR x s1 s2 s3 b := by
  cases h : ruleOf x with
  | some y => exact ⟨y.1, y.2, y.3, true, ⟨.inl ⟨rfl, h⟩⟩⟩
  | none => exact ⟨_, _, _, _, ⟨.inr ⟨rfl, h, rfl, rfl, rfl⟩⟩⟩
set_option maxRecDepth 100000 in
set_option maxHeartbeats 8000000 in
theorem ruleOf_ac {G : World → Prop} (hst : Stable G) (hV : ValidC G) (hC : CheckC G) (x : J) (k n : Int) (t : ByteArray) (KX IX : List (List PV)) (hbig : x.size ≤ 1000000) (hok : okB x = true) (hJ : JRow x k n t KX IX) (s1 s2 s3 : ByteArray) (b : Bool) (hr : RuleR x s1 s2 s3 b) :
    ACalls G Tryz.prog 36 [jp k n t KX IX] (.tup [.agg [.lit (.string s1), .lit (.string s2), .lit (.string s3)], .lit (.bool b)]) none := by
  refine acalls_fn hst mixed tau_ok Tryz.func36 (by kernel_rfl) (by kernel_rfl) (by kernel_rfl) ?_
  intro Q hQ
  cbv
  obtain ⟨c, hc⟩ : ∃ c, Is c (fun _ => rightJ x) := ⟨_, ⟨rfl⟩⟩
  refine Or.inl ⟨_, _, hQ _ _ _ _ (right_ac hst hC x k n t KX IX hbig hok hJ c hc), ?_⟩
  cbv
  cases c
  · cbv
    intro b1 h1
    cbv
    have e : b1 = true := by have := h1.out; simpa using this
    subst e
    cbv
    rcases hr.out with ⟨_, h⟩ | ⟨rfl, _, rfl, rfl, rfl⟩
    · unfold ruleOf at h
      rw [← hc.out] at h
      simp at h
    · try exact ⟨rfl, trivial⟩
  · cbv
    intro b1 h1
    cbv
    have e : b1 = false := by have := h1.out; simpa using this
    subst e
    cbv
    obtain ⟨w1, d1, hw1⟩ := WordR.of x ⟨#[101, 110, 116, 105, 116, 121]⟩
    obtain ⟨w2, d2, hw2⟩ := WordR.of x ⟨#[114, 101, 99, 111, 109, 109, 101, 110, 100, 97, 116, 105, 111, 110]⟩
    obtain ⟨w3, d3, hw3⟩ := WordR.of x ⟨#[114, 101, 97, 115, 111, 110]⟩
    refine Or.inl ⟨4, ?_⟩
    cbv
    iterate 3
      all_goals
        refine ⟨⟨rfl⟩, fun hov => ?_, fun hf => ?_, fun hf => ?_, fun hf => ?_, trivial⟩
        · exfalso
          have := hov.out 0
          have := hov.out 1
          have := hov.out 2
          simp_all
        all_goals first
          | (exfalso; apply hf.out; simp; done)
          | (clear hf
             cbv
             refine ⟨⟨rfl⟩, ?_⟩
             first
             | refine Or.inl ⟨_, _, hQ _ _ _ _ (word_ac hst x k n t KX IX hbig hJ _ _ _ hw1), ?_⟩
             | refine Or.inl ⟨_, _, hQ _ _ _ _ (word_ac hst x k n t KX IX hbig hJ _ _ _ hw2), ?_⟩
             | refine Or.inl ⟨_, _, hQ _ _ _ _ (word_ac hst x k n t KX IX hbig hJ _ _ _ hw3), ?_⟩
             cbv)
    all_goals
      refine ⟨⟨rfl⟩, fun hov => ?_, fun hf => ?_, fun hf => ?_, fun hf => ?_, trivial⟩
      rotate_left
      · exfalso; apply hf.out; simp; done
      · exfalso; apply hf.out; simp; done
      · exfalso; apply hf.out; simp; done
    all_goals
      clear hov
      cbv
      obtain ⟨c2, h2⟩ : ∃ c2, Is c2 (fun _ => ruledB ⟨w1, w2, w3⟩) := ⟨_, ⟨rfl⟩⟩
      refine Or.inl ⟨_, _, hQ _ _ _ _ (ruled_ac hst hV ⟨w1, w2, w3⟩ c2 h2), ?_⟩
      cbv
      intro b2 h3
      cbv
      have hR : ruleOf x = if ruledB ⟨w1, w2, w3⟩ = true then some ⟨w1, w2, w3⟩ else none := by
        rw [hw1.get, hw2.get, hw3.get]
        exact if_pos hc.out.symm
      rw [← h2.out] at hR
      cases c2
      · have e : b2 = true := by have := h3.out; simpa using this
        subst e
        cbv
        rcases hr.out with ⟨_, h⟩ | ⟨rfl, _, rfl, rfl, rfl⟩
        · rw [hR] at h
          cases h
        · try exact ⟨rfl, trivial⟩
      · have e : b2 = false := by have := h3.out; simpa using this
        subst e
        cbv
        rcases hr.out with ⟨rfl, h⟩ | ⟨_, h, _⟩
        · rw [hR] at h
          cases h
          try exact ⟨rfl, trivial⟩
        · rw [hR] at h
          cases h
end Go.Proofs.YtbjfmkmaghapgaaGreatDoor.B
