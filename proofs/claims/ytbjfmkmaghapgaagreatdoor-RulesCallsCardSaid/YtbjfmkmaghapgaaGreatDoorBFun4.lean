/-
canon.Get; content.word, ruled, right, RuleOf; walked. Condition: utf8's tables in memory.
-/
import Derived.Test.YtbjfmkmaghapgaaGreatDoorBFun3
set_option linter.unusedVariables false
set_option linter.unusedSimpArgs false
namespace Go.Proofs.YtbjfmkmaghapgaaGreatDoor.B
open Go.RowKit
def J.keys : J → List ByteArray
  | .mk _ _ _ ks _ => ks
def J.items : J → List J
  | .mk _ _ _ _ is => is
def J.kind : J → Int
  | .mk k _ _ _ _ => k
def J.text : J → ByteArray
  | .mk _ _ t _ _ => t
def J.zero : J := .mk 0 0 ⟨#[]⟩ [] []
/-- What a key has. -/
def getJ (x : J) (key : ByteArray) : Option J :=
  if x.kind = 6 ∧ x.keys.length = x.items.length then (if 0 ≤ idxBy (fun y => decide (key = y)) x.keys then x.items[(idxBy (fun y => decide (key = y)) x.keys).toNat]? else none) else none
theorem getJ_mk (k n : Int) (t : ByteArray) (ks : List ByteArray) (is : List J) (key : ByteArray) :
    getJ (.mk k n t ks is) key = if k = 6 ∧ ks.length = is.length then (if 0 ≤ idxBy (fun y => decide (key = y)) ks then is[(idxBy (fun y => decide (key = y)) ks).toNat]? else none) else none := rfl
theorem idxFrom_lt {α : Type} (p : α → Bool) : ∀ (l : List α) (n : Nat), idxFrom p n l < n + l.length
  | [], n => by simp only [idxFrom, List.length_nil]; omega
  | a :: l, n => by
    have := idxFrom_lt p l (n + 1)
    simp only [idxFrom, List.length_cons]
    split <;> omega
theorem idxBy_lt {α : Type} (p : α → Bool) (l : List α) : idxBy p l < l.length := by
  have := idxFrom_lt p l 0
  unfold idxBy
  omega
/-- What is returned of a key. -/
structure GetR (x : J) (key : ByteArray) (k n : Int) (t : ByteArray) (KX IX : List (List PV)) (b : Bool) : Prop where
  out : (b = true ∧ ∃ y, getJ x key = some y ∧ JRow y k n t KX IX) ∨ (b = false ∧ getJ x key = none ∧ k = 0 ∧ n = 0 ∧ t = ⟨#[]⟩ ∧ KX = [] ∧ IX = [])
theorem GetR.of (x : J) (key : ByteArray) : ∃ k n t KX IX b, GetR x key k n t KX IX b := by
  cases h : getJ x key with
  | some y =>
    obtain ⟨k, n, t, KX, IX, hJ, _⟩ := JRow.of y
    exact ⟨k, n, t, KX, IX, true, ⟨.inl ⟨rfl, y, h, hJ⟩⟩⟩
  | none => exact ⟨_, _, _, _, _, _, ⟨.inr ⟨rfl, h, rfl, rfl, rfl, rfl, rfl⟩⟩⟩
theorem JRow.eq {x : J} {k k' n n' : Int} {t t' : ByteArray} {KX KX' IX IX' : List (List PV)} (h : JRow x k n t KX IX) (h' : JRow x k' n' t' KX' IX') : k = k' ∧ n = n' ∧ t = t' ∧ KX = KX' ∧ IX = IX' := by
  obtain ⟨ks, is, rfl, rfl, rfl⟩ := h
  obtain ⟨ks', is', e, rfl, rfl⟩ := h'
  cases e
  exact ⟨rfl, rfl, rfl, rfl, rfl⟩
set_option maxRecDepth 100000 in
set_option maxHeartbeats 4000000 in
theorem get_ac {G : World → Prop} (hst : Stable G) (x : J) (k n : Int) (t : ByteArray) (KX IX : List (List PV)) (hbig : x.size ≤ 1000000) (hJ : JRow x k n t KX IX) (key : ByteArray) (k' n' : Int) (t' : ByteArray) (KX' IX' : List (List PV)) (b : Bool) (hr : GetR x key k' n' t' KX' IX' b) :
    ACalls G Tryz.prog 64 [jp k n t KX IX, .lit (.string key)] (.tup [jp k' n' t' KX' IX', .lit (.bool b)]) none := by
  have hJ0 := hJ
  obtain ⟨ks, is, rfl, hK, hI⟩ := hJ
  have hlen := sizes_len is
  have hs1 : sizes is ≤ 1000000 ∧ ks.length ≤ 1000000 := by simp only [J.size] at hbig; omega
  have hKl : KX.length = ks.length := by rw [← hK]; simp
  have hIl : IX.length = is.length := by rw [← hI]; simp
  refine acalls_fn hst mixed tau_ok Tryz.func64 (by kernel_rfl) (by kernel_rfl) (by kernel_rfl) ?_
  intro Q hQ
  cbv
  obtain ⟨i, hi⟩ : ∃ i, Is i (fun _ => idxBy (fun y => decide (key = y)) ks) := ⟨_, ⟨rfl⟩⟩
  refine Or.inl ⟨_, _, hQ _ _ _ _ (indexStr_ac hst ks KX hK hs1.2 key i hi), ?_⟩
  cbv
  obtain ⟨c, hc⟩ : ∃ c, Is c (fun _ => decide (k = 6 ∧ KX.length = IX.length)) := ⟨_, ⟨rfl⟩⟩
  refine Or.inl ⟨_, _, hQ _ _ _ _ (keyed_ac hst k n t KX IX c hc), ?_⟩
  cbv
  cases c
  · cbv
    have h0 := hc.no
    rcases hr.out with ⟨_, y, hy, _⟩ | ⟨rfl, _, rfl, rfl, rfl, rfl, rfl⟩
    · exfalso
      rw [getJ_mk, if_neg (by omega)] at hy
      cases hy
    · try exact ⟨rfl, trivial⟩
  · cbv
    intro b2 h2
    cbv
    cases b2
    · cbv
      have h0 := h2.no
      rcases hr.out with ⟨_, y, hy, _⟩ | ⟨rfl, _, rfl, rfl, rfl, rfl, rfl⟩
      · exfalso
        rw [getJ_mk, ← hi.out] at hy
        split at hy <;> first | cases hy | (rw [if_neg (by omega)] at hy; cases hy)
      · try exact ⟨rfl, trivial⟩
    · cbv
      refine ⟨⟨h2.yes, by have := hi.out; have := idxBy_lt (fun y => decide (key = y)) ks; have := hc.yes; have := h2.yes; omega⟩, ?_⟩
      intro r hr1
      obtain ⟨y, hy, rfl⟩ := hr1.row hI
      obtain ⟨ky, ny, ty, KY, IY, hJy, hey⟩ := JRow.of y
      rw [hey]
      have hsy := size_mem (List.mem_of_getElem? hy)
      cbv
      refine Or.inl ⟨_, _, hQ _ _ _ _ (copy_ac hst y.size y ky ny ty KY IY (Nat.le_refl _) (by omega) hJy), ?_⟩
      cbv
      have hg : getJ (.mk k n t ks is) key = some y := by
        have h0 := hc.yes
        have h3 := h2.yes
        rw [getJ_mk, ← hi.out, if_pos (by omega), if_pos (by omega)]
        exact hy
      rcases hr.out with ⟨rfl, y', hy', hJ'⟩ | ⟨_, hn, _⟩
      · rw [hg] at hy'
        cases hy'
        obtain ⟨rfl, rfl, rfl, rfl, rfl⟩ := hJy.eq hJ'
        try exact ⟨rfl, trivial⟩
      · rw [hg] at hn
        cases hn
/-- The text that a key has. -/
def wordJ (x : J) (key : ByteArray) : Option ByteArray :=
  match getJ x key with
  | some y => if y.kind = 4 then some y.text else none
  | none => none
theorem wordJ_mk {x : J} {key : ByteArray} {k n : Int} {t : ByteArray} {ks : List ByteArray} {is : List J} (h : getJ x key = some (.mk k n t ks is)) :
    wordJ x key = if k = 4 then some t else none := by
  unfold wordJ
  rw [h]
  rfl
structure WordR (x : J) (key : ByteArray) (s : ByteArray) (b : Bool) : Prop where
  out : (b = true ∧ wordJ x key = some s) ∨ (b = false ∧ wordJ x key = none ∧ s = ⟨#[]⟩)
theorem WordR.of (x : J) (key : ByteArray) : ∃ s b, WordR x key s b := by
  cases h : wordJ x key with
  | some y => exact ⟨y, true, ⟨.inl ⟨rfl, h⟩⟩⟩
  | none => exact ⟨_, _, ⟨.inr ⟨rfl, h, rfl⟩⟩⟩
set_option maxRecDepth 100000 in
set_option maxHeartbeats 4000000 in
theorem word_ac {G : World → Prop} (hst : Stable G) (x : J) (k n : Int) (t : ByteArray) (KX IX : List (List PV)) (hbig : x.size ≤ 1000000) (hJ : JRow x k n t KX IX) (key s : ByteArray) (b : Bool) (hr : WordR x key s b) :
    ACalls G Tryz.prog 54 [jp k n t KX IX, .lit (.string key)] (.tup [.lit (.string s), .lit (.bool b)]) none := by
  refine acalls_fn hst mixed tau_ok Tryz.func54 (by kernel_rfl) (by kernel_rfl) (by kernel_rfl) ?_
  intro Q hQ
  cbv
  obtain ⟨k', n', t', KX', IX', c, hg⟩ := GetR.of x key
  refine Or.inl ⟨_, _, hQ _ _ _ _ (get_ac hst x k n t KX IX hbig hJ key k' n' t' KX' IX' c hg), ?_⟩
  cbv
  intro b1 h1
  cbv
  cases c
  · have e : b1 = true := by have := h1.out; simpa using this
    subst e
    cbv
    rcases hg.out with ⟨h, _⟩ | ⟨_, hn, _⟩
    · cases h
    · rcases hr.out with ⟨_, h2⟩ | ⟨rfl, _, rfl⟩
      · rw [wordJ, hn] at h2; cases h2
      · try exact ⟨rfl, trivial⟩
  · have e : b1 = false := by have := h1.out; simpa using this
    subst e
    cbv
    intro b2 h2
    cbv
    rcases hg.out with ⟨_, y, hy, hJy⟩ | ⟨h, _⟩
    · obtain ⟨ks, is, rfl, hK, hI⟩ := hJy
      cases b2
      · cbv
        have e := Decidable.not_not.1 h2.no
        rcases hr.out with ⟨rfl, h3⟩ | ⟨_, h3, _⟩
        · rw [wordJ_mk hy, if_pos (by omega)] at h3
          cases h3
          try exact ⟨rfl, trivial⟩
        · rw [wordJ_mk hy, if_pos (by omega)] at h3
          cases h3
      · cbv
        have e := h2.yes
        rcases hr.out with ⟨_, h3⟩ | ⟨rfl, _, rfl⟩
        · rw [wordJ_mk hy, if_neg (by omega)] at h3
          cases h3
        · try exact ⟨rfl, trivial⟩
    · cases h
/-- So many bytes, and valid. -/
def within (s : ByteArray) (lo hi : Nat) : Bool := decide (lo ≤ s.size ∧ s.size ≤ hi) && validB s
set_option maxRecDepth 100000 in
set_option maxHeartbeats 4000000 in
theorem within_ac {G : World → Prop} (hst : Stable G) (hV : ValidC G) (s : ByteArray) (lo hi : Int) (c : Bool) (hc : Is c (fun _ => decide (lo ≤ s.size ∧ (s.size : Int) ≤ hi) && validB s)) (hhi : hi ≤ 1000000) :
    ACalls G Tryz.prog 65 [.lit (.string s), .lit (.int .i64 lo), .lit (.int .i64 hi)] (.lit (.bool c)) none := by
  refine acalls_fn hst mixed tau_ok Tryz.func65 (by kernel_rfl) (by kernel_rfl) (by kernel_rfl) ?_
  intro Q hQ
  cbv
  intro m1 h1
  cbv
  intro b1 h2
  cbv
  cases b1
  · cbv
    refine litB ?_
    have e1 := h1.out
    have e2 := h2.no
    rw [hc.out, decide_eq_false (fun q => e2 (by rw [e1]; exact q.1))]
    rfl
  · cbv
    intro m2 h3
    cbv
    intro b2 h4
    cbv
    cases b2
    · cbv
      refine litB ?_
      have e1 := h3.out
      have e2 := h4.no
      rw [hc.out, decide_eq_false (fun q => e2 (by rw [e1]; exact q.2))]
      rfl
    · cbv
      have hs : s.size ≤ 9223372036854775807 := by have e1 := h3.len; have e2 := h4.yes; omega
      refine Or.inl ⟨_, _, hQ _ _ _ _ (hV s hs), ?_⟩
      obtain ⟨v, hv⟩ : ∃ v, Is v (fun _ => validB s) := ⟨_, ⟨rfl⟩⟩
      rw [← hv.out]
      cbv
      refine litB ?_
      have e1 := h1.out
      have e2 := h2.yes
      have e3 := h3.out
      have e4 := h4.yes
      rw [hc.out, ← hv.out, decide_eq_true ⟨by rw [← e1]; exact e2, by rw [← e3]; exact e4⟩]
      rfl
structure RB where
  entity : ByteArray
  recommendation : ByteArray
  reason : ByteArray
def encRB (r : RB) : List PV := [.lit (.string r.entity), .lit (.string r.recommendation), .lit (.string r.reason)]
def ruledB (r : RB) : Bool := (decide ((1 : Int) ≤ r.entity.size ∧ (r.entity.size : Int) ≤ 255) && validB r.entity) && ((decide ((1 : Int) ≤ r.recommendation.size ∧ (r.recommendation.size : Int) ≤ 128) && validB r.recommendation) && (decide ((0 : Int) ≤ r.reason.size ∧ (r.reason.size : Int) ≤ 255) && validB r.reason))
set_option maxRecDepth 100000 in
set_option maxHeartbeats 4000000 in
theorem ruled_ac {G : World → Prop} (hst : Stable G) (hV : ValidC G) (r : RB) (c : Bool) (hc : Is c (fun _ => ruledB r)) :
    ACalls G Tryz.prog 55 [.agg (encRB r)] (.lit (.bool c)) none := by
  obtain ⟨e1, e2, e3⟩ := r
  refine acalls_fn hst mixed tau_ok Tryz.func55 (by kernel_rfl) (by kernel_rfl) (by kernel_rfl) ?_
  intro Q hQ
  cbv
  obtain ⟨c1, h1⟩ : ∃ c1, Is c1 (fun _ => decide ((1 : Int) ≤ e1.size ∧ (e1.size : Int) ≤ 255) && validB e1) := ⟨_, ⟨rfl⟩⟩
  refine Or.inl ⟨_, _, hQ _ _ _ _ (within_ac hst hV e1 1 255 c1 h1 (by omega)), ?_⟩
  cbv
  cases c1
  · cbv
    refine litB ?_
    rw [hc.out]
    unfold ruledB
    rw [← h1.out]
    rfl
  · cbv
    obtain ⟨c2, h2⟩ : ∃ c2, Is c2 (fun _ => decide ((1 : Int) ≤ e2.size ∧ (e2.size : Int) ≤ 128) && validB e2) := ⟨_, ⟨rfl⟩⟩
    refine Or.inl ⟨_, _, hQ _ _ _ _ (within_ac hst hV e2 1 128 c2 h2 (by omega)), ?_⟩
    cbv
    cases c2
    · cbv
      refine litB ?_
      rw [hc.out]
      unfold ruledB
      rw [← h1.out, ← h2.out]
      rfl
    · cbv
      obtain ⟨c3, h3⟩ : ∃ c3, Is c3 (fun _ => decide ((0 : Int) ≤ e3.size ∧ (e3.size : Int) ≤ 255) && validB e3) := ⟨_, ⟨rfl⟩⟩
      refine Or.inl ⟨_, _, hQ _ _ _ _ (within_ac hst hV e3 0 255 c3 h3 (by omega)), ?_⟩
      cbv
      refine litB ?_
      rw [hc.out]
      unfold ruledB
      rw [← h1.out, ← h2.out, ← h3.out]
      rfl
end Go.Proofs.YtbjfmkmaghapgaaGreatDoor.B
