/-
The rules of a state: plain law of the map that keeps, by kind and key, the entry that counts. Condition: none.
-/
import Derived.Test.YtbjfmkmaghapgaaGreatDoorBSort0
import Derived.Test.YtbjfmkmaghapgaaGreatDoorBRules1
set_option linter.unusedVariables false
set_option linter.unusedSimpArgs false
namespace Go.Proofs.YtbjfmkmaghapgaaGreatDoor.B
open Go.RowKit
structure En where
  typ : ByteArray
  key : ByteArray
  id : ByteArray
  by_ : ByteArray
  body : J
def encEn (e : En) : List PV := [.lit (.string e.typ), .lit (.string e.key), .lit (.string e.id), .lit (.string e.by_)] ++ encJ e.body
abbrev kP (k : Int) (key : ByteArray) : PV := .agg [.lit (.int .i64 k), .lit (.string key)]
abbrev vP (rk a : Int) : PV := .agg [.lit (.int .i64 rk), .lit (.int .i64 a)]
theorem kP_inj {k k' : Int} {s s' : ByteArray} (h : kP k s = kP k' s') : k = k' ∧ s = s' := by
  unfold kP at h
  simp only [PV.agg.injEq, List.cons.injEq, PV.lit.injEq, Value.int.injEq, Value.string.injEq] at h
  exact ⟨h.1.2, h.2.1⟩
theorem vP_inj {k k' : Int} {s s' : Int} (h : vP k s = vP k' s') : k = k' ∧ s = s' := by
  unfold vP at h
  simp only [PV.agg.injEq, List.cons.injEq, PV.lit.injEq, Value.int.injEq] at h
  exact ⟨h.1.2, h.2.1.2⟩
/-- Of the first so many entries this one counts, of its kind and key. -/
structure IsBest (l : List En) (n : Nat) (k : Int) (key : ByteArray) (rk a : Int) : Prop where
  lo : 0 ≤ a
  hi : a.toNat < n
  one : ∃ e, l[a.toNat]? = some e ∧ kindOf e.typ = some (k, rk) ∧ e.key = key
  all : ∀ (j : Nat) e, j < n → l[j]? = some e → ∀ r, kindOf e.typ = some (k, r) → e.key = key → rk < r ∨ (rk = r ∧ a ≤ j)
theorem IsBest.next {l : List En} {n : Nat} {k : Int} {key : ByteArray} {rk a : Int} (h : IsBest l n k key rk a) {x : En} (hx : l[n]? = some x) (hr : ∀ r, kindOf x.typ = some (k, r) → x.key = key → rk ≤ r) : IsBest l (n + 1) k key rk a := by
  have h1 := h.hi
  have h0 := h.lo
  refine ⟨h.lo, by omega, h.one, fun j e hj he r hk hkey => ?_⟩
  by_cases e1 : j < n
  · exact h.all j e e1 he r hk hkey
  · have e2 : j = n := by omega
    subst e2
    rw [hx] at he
    cases he
    have := hr r hk hkey
    omega
structure Best (l : List En) (i : Int) (es : List ME) (clk : Nat) : Prop where
  lo : 0 ≤ i
  hi : i ≤ l.length
  len : es.length ≤ i.toNat
  form : ∀ e, e ∈ es → e.born < clk ∧ ∃ k key rk a, e.key = kP k key ∧ e.val = vP rk a ∧ IsBest l i.toNat k key rk a
  uniq : ∀ e e', e ∈ es → e' ∈ es → e.born = e'.born → e = e'
  uniqK : ∀ e e', e ∈ es → e' ∈ es → e.key = e'.key → e = e'
  full : ∀ (j : Nat) e, j < i.toNat → l[j]? = some e → ∀ k r, kindOf e.typ = some (k, r) → ∃ x, x ∈ es ∧ x.key = kP k e.key
theorem Best.zero (l : List En) : Best l 0 [] 0 := ⟨by omega, by omega, by simp, by simp, by simp, by simp, by simp⟩
variable {l : List En} {i : Int} {es : List ME} {clk : Nat} {x : En}
theorem Best.skip (h : Best l i es clk) (hx : l[i.toNat]? = some x) (hk : kindOf x.typ = none) {i' : Int} (hi : i' = i + 1) : Best l i' es clk := by
  have h0 := h.lo
  have hlt := (List.getElem?_eq_some_iff.1 hx).1
  have en : i'.toNat = i.toNat + 1 := by omega
  refine ⟨by omega, by omega, by have := h.len; omega, fun e he => ?_, h.uniq, h.uniqK, fun j e hj he k r hk' => ?_⟩
  · obtain ⟨h1, k, key, rk, a, h2, h3, h4⟩ := h.form e he
    refine ⟨h1, k, key, rk, a, h2, h3, ?_⟩
    rw [en]
    exact h4.next hx (fun r hr => by rw [hk] at hr; cases hr)
  · by_cases e1 : j < i.toNat
    · exact h.full j e e1 he k r hk'
    · have e2 : j = i.toNat := by omega
      rw [e2, hx] at he
      cases he
      rw [hk] at hk'
      cases hk'
theorem Best.keep (h : Best l i es clk) (hx : l[i.toNat]? = some x) {k r : Int} (hk : kindOf x.typ = some (k, r)) {e0 : ME} (he0 : e0 ∈ es) (hkey : e0.key = kP k x.key) {rk a : Int} (hv : e0.val = vP rk a) (hlt' : ¬ r < rk) {i' : Int} (hi : i' = i + 1) : Best l i' es clk := by
  have h0 := h.lo
  have hlt := (List.getElem?_eq_some_iff.1 hx).1
  have en : i'.toNat = i.toNat + 1 := by omega
  refine ⟨by omega, by omega, by have := h.len; omega, fun e he => ?_, h.uniq, h.uniqK, fun j e hj he k' r' hk' => ?_⟩
  · obtain ⟨h1, k', key', rk', a', h2, h3, h4⟩ := h.form e he
    refine ⟨h1, k', key', rk', a', h2, h3, ?_⟩
    rw [en]
    refine h4.next hx (fun r' hr' hk'' => ?_)
    rw [hk] at hr'
    cases hr'
    have e1 : e = e0 := h.uniqK e e0 he he0 (by rw [h2, hkey, hk''])
    subst e1
    rw [hv] at h3
    obtain ⟨rfl, rfl⟩ := vP_inj h3
    omega
  · by_cases e1 : j < i.toNat
    · exact h.full j e e1 he k' r' hk'
    · have e2 : j = i.toNat := by omega
      rw [e2, hx] at he
      cases he
      rw [hk] at hk'
      cases hk'
      exact ⟨e0, he0, hkey⟩
theorem IsBest.fresh {n : Nat} {k r : Int} (hx : l[n]? = some x) (hk : kindOf x.typ = some (k, r)) (hp : ∀ (j : Nat) e, j < n → l[j]? = some e → ∀ r', kindOf e.typ = some (k, r') → e.key = x.key → r < r') {i : Int} (h0 : 0 ≤ i) (hn : n = i.toNat) : IsBest l (n + 1) k x.key r i := by
  refine ⟨h0, by omega, ⟨x, hn ▸ hx, hk, rfl⟩, fun j e hj he r' hk' hkey => ?_⟩
  by_cases e1 : j < n
  · exact .inl (hp j e e1 he r' hk' hkey)
  · have e2 : j = n := by omega
    rw [e2, hx] at he
    cases he
    rw [hk] at hk'
    cases hk'
    right
    omega
theorem Best.set (h : Best l i es clk) (hx : l[i.toNat]? = some x) {k r : Int} (hk : kindOf x.typ = some (k, r)) {e0 : ME} (he0 : e0 ∈ es) (hkey : e0.key = kP k x.key) {rk a : Int} (hv : e0.val = vP rk a) (hlt' : r < rk) {i' : Int} (hi : i' = i + 1) : Best l i' (setE es e0.born (vP r i)) clk := by
  have h0 := h.lo
  have hlt := (List.getElem?_eq_some_iff.1 hx).1
  have en : i'.toNat = i.toNat + 1 := by omega
  have hm : ∀ e, e ∈ setE es e0.born (vP r i) → ∃ e1, e1 ∈ es ∧ e.born = e1.born ∧ e.key = e1.key ∧ ((e1 = e0 ∧ e.val = vP r i) ∨ (e1 ≠ e0 ∧ e = e1)) := by
    intro e he
    obtain ⟨e1, h1, h2⟩ := List.mem_map.1 he
    by_cases eb : e1.born = e0.born
    · have := h.uniq e1 e0 h1 he0 eb
      subst this
      rw [if_pos rfl] at h2
      subst h2
      exact ⟨e1, h1, rfl, rfl, .inl ⟨rfl, rfl⟩⟩
    · rw [if_neg eb] at h2
      subst h2
      exact ⟨e1, h1, rfl, rfl, .inr ⟨fun e => eb (e ▸ rfl), rfl⟩⟩
  have hbest : IsBest l i.toNat k x.key rk a := by
    obtain ⟨_, k', key', rk', a', h2, h3, h4⟩ := h.form e0 he0
    rw [hkey] at h2
    obtain ⟨rfl, rfl⟩ := kP_inj h2
    rw [hv] at h3
    obtain ⟨rfl, rfl⟩ := vP_inj h3
    exact h4
  have heq : ∀ e e', e ∈ setE es e0.born (vP r i) → e' ∈ setE es e0.born (vP r i) → e.born = e'.born → e.key = e'.key → e = e' := by
    intro e e' he he' hb hk
    obtain ⟨e1, m1, b1, k1, c1⟩ := hm e he
    obtain ⟨e2, m2, b2, k2, c2⟩ := hm e' he'
    have e12 : e1 = e2 := h.uniq e1 e2 m1 m2 (by rw [← b1, ← b2, hb])
    subst e12
    rcases c1 with ⟨q1, v1⟩ | ⟨q1, v1⟩ <;> rcases c2 with ⟨q2, v2⟩ | ⟨q2, v2⟩
    · cases e; cases e'
      simp only at hb hk v1 v2
      rw [hb, hk, v1, v2]
    · exact absurd q1 q2
    · exact absurd q2 q1
    · rw [v1, v2]
  refine ⟨by omega, by omega, ?_, fun e he => ?_, fun e e' he he' hb => ?_, fun e e' he he' hb => ?_, fun j e hj he k' r' hk' => ?_⟩
  · unfold setE
    rw [List.length_map]
    have := h.len
    omega
  · obtain ⟨e1, m1, b1, k1, c1⟩ := hm e he
    obtain ⟨h1, k', key', rk', a', h2, h3, h4⟩ := h.form e1 m1
    rcases c1 with ⟨rfl, v1⟩ | ⟨q1, rfl⟩
    · refine ⟨b1 ▸ h1, k, x.key, r, i, by rw [k1, hkey], v1, ?_⟩
      rw [en]
      refine IsBest.fresh hx hk (fun j e' hj he' r' hk' hkey' => ?_) h0 rfl
      have := hbest.all j e' hj he' r' hk' hkey'
      omega
    · refine ⟨h1, k', key', rk', a', h2, h3, ?_⟩
      rw [en]
      refine h4.next hx (fun r' hr' hk'' => ?_)
      rw [hk] at hr'
      cases hr'
      exact absurd (h.uniqK e e0 m1 he0 (by rw [h2, hkey, hk''])) q1
  · obtain ⟨e1, m1, b1, k1, c1⟩ := hm e he
    obtain ⟨e2, m2, b2, k2, c2⟩ := hm e' he'
    have e12 : e1 = e2 := h.uniq e1 e2 m1 m2 (by rw [← b1, ← b2, hb])
    exact heq e e' he he' hb (by rw [k1, k2, e12])
  · obtain ⟨e1, m1, b1, k1, c1⟩ := hm e he
    obtain ⟨e2, m2, b2, k2, c2⟩ := hm e' he'
    have e12 : e1 = e2 := h.uniqK e1 e2 m1 m2 (by rw [← k1, ← k2, hb])
    exact heq e e' he he' (by rw [b1, b2, e12]) hb
  · have hex : ∀ y, y ∈ es → ∃ z, z ∈ setE es e0.born (vP r i) ∧ z.key = y.key := fun y hy => ⟨_, List.mem_map.2 ⟨y, hy, rfl⟩, by split <;> rfl⟩
    by_cases e1 : j < i.toNat
    · obtain ⟨y, hy, hyk⟩ := h.full j e e1 he k' r' hk'
      obtain ⟨z, hz, hzk⟩ := hex y hy
      exact ⟨z, hz, hzk.trans hyk⟩
    · have e2 : j = i.toNat := by omega
      rw [e2, hx] at he
      cases he
      rw [hk] at hk'
      cases hk'
      obtain ⟨z, hz, hzk⟩ := hex e0 he0
      exact ⟨z, hz, hzk.trans hkey⟩
theorem Best.new (h : Best l i es clk) (hx : l[i.toNat]? = some x) {k r : Int} (hk : kindOf x.typ = some (k, r)) (hno : ∀ e, e ∈ es → e.key ≠ kP k x.key) {i' : Int} (hi : i' = i + 1) : Best l i' (es ++ [⟨clk, kP k x.key, vP r i⟩]) (clk + 1) := by
  have h0 := h.lo
  have hlt := (List.getElem?_eq_some_iff.1 hx).1
  have en : i'.toNat = i.toNat + 1 := by omega
  have hm : ∀ e, e ∈ es ++ [(⟨clk, kP k x.key, vP r i⟩ : ME)] → e ∈ es ∨ e = ⟨clk, kP k x.key, vP r i⟩ := fun e he => by simpa using he
  have hb : ∀ e, e ∈ es → e.born ≠ clk := fun e he => by have := (h.form e he).1; omega
  refine ⟨by omega, by omega, ?_, fun e he => ?_, fun e e' he he' hb' => ?_, fun e e' he he' hb' => ?_, fun j e hj he k' r' hk' => ?_⟩
  · rw [List.length_append, List.length_singleton]
    have := h.len
    omega
  · rcases hm e he with m | rfl
    · obtain ⟨h1, k', key', rk', a', h2, h3, h4⟩ := h.form e m
      refine ⟨by omega, k', key', rk', a', h2, h3, ?_⟩
      rw [en]
      refine h4.next hx (fun r' hr' hk'' => ?_)
      rw [hk] at hr'
      cases hr'
      exact absurd (by rw [h2, hk'']) (hno e m)
    · refine ⟨by show clk < clk + 1; omega, k, x.key, r, i, rfl, rfl, ?_⟩
      rw [en]
      refine IsBest.fresh hx hk (fun j e' hj he' r' hk' hkey' => ?_) h0 rfl
      obtain ⟨y, hy, hyk⟩ := h.full j e' hj he' k r' hk'
      exact absurd (by rw [hyk, hkey']) (hno y hy)
  · rcases hm e he with m | rfl <;> rcases hm e' he' with m' | rfl
    · exact h.uniq e e' m m' hb'
    · exact absurd hb' (hb e m)
    · exact absurd hb'.symm (hb e' m')
    · rfl
  · rcases hm e he with m | rfl <;> rcases hm e' he' with m' | rfl
    · exact h.uniqK e e' m m' hb'
    · exact absurd hb' (hno e m)
    · exact absurd hb'.symm (hno e' m')
    · rfl
  · by_cases e1 : j < i.toNat
    · obtain ⟨y, hy, hyk⟩ := h.full j e e1 he k' r' hk'
      exact ⟨y, by simp [hy], hyk⟩
    · have e2 : j = i.toNat := by omega
      rw [e2, hx] at he
      cases he
      rw [hk] at hk'
      cases hk'
      exact ⟨_, List.mem_append_right _ (List.mem_singleton.2 rfl), rfl⟩
/-! ### which entries count -/
def precedes (k : Int) (key : ByteArray) (rk : Int) (a : Nat) (e : En) (j : Nat) : Bool :=
  match kindOf e.typ with
  | some (k', r') => decide (k' = k ∧ e.key = key ∧ (r' < rk ∨ (r' = rk ∧ j < a)))
  | none => false
def countsB (l : List En) (e : En) (a : Nat) : Bool :=
  match kindOf e.typ with
  | some (k, rk) => l.zipIdx.all (fun p => !precedes k e.key rk a p.1 p.2)
  | none => false
def rulesOf (l : List En) (room : ByteArray) : List Rl :=
  l.zipIdx.filterMap (fun p => if countsB l p.1 p.2 = true then ofE p.1.typ p.1.key p.1.body room else none)
/-- The rules of a state. -/
def extractR (l : List En) (room : ByteArray) : List Rl := sortU (rulesOf l room)
theorem countsB_iff (l : List En) (e : En) (a : Nat) (he : l[a]? = some e) : countsB l e a = true ↔ ∃ k rk, kindOf e.typ = some (k, rk) ∧ IsBest l l.length k e.key rk a := by
  unfold countsB
  cases hk : kindOf e.typ with
  | none => simp
  | some p =>
    obtain ⟨k, rk⟩ := p
    have hlt := (List.getElem?_eq_some_iff.1 he).1
    simp only [List.all_eq_true, Option.some.injEq, Prod.mk.injEq]
    constructor
    · intro h
      refine ⟨k, rk, ⟨rfl, rfl⟩, by omega, by simpa using hlt, ⟨e, by simpa using he, hk, rfl⟩, fun j x hj hx r hr hkey => ?_⟩
      have h1 := h (x, j) (by rw [List.mk_mem_zipIdx_iff_getElem?]; exact hx)
      unfold precedes at h1
      simp only [hr, Bool.not_eq_true', decide_eq_false_iff_not] at h1
      by_cases h2 : rk < r
      · exact .inl h2
      · right
        by_cases h3 : r < rk
        · exact absurd ⟨trivial, hkey, .inl h3⟩ h1
        · refine ⟨by omega, ?_⟩
          by_cases h4 : j < a
          · exact absurd ⟨trivial, hkey, .inr ⟨by omega, h4⟩⟩ h1
          · omega
    · rintro ⟨k', rk', ⟨rfl, rfl⟩, h⟩ ⟨x, j⟩ hp
      have hx : l[j]? = some x := by rwa [List.mk_mem_zipIdx_iff_getElem?] at hp
      unfold precedes
      cases hr : kindOf x.typ with
      | none => rfl
      | some p =>
        obtain ⟨k', r'⟩ := p
        simp only [Bool.not_eq_true', decide_eq_false_iff_not]
        rintro ⟨rfl, hkey, h1⟩
        have := h.all j x (List.getElem?_eq_some_iff.1 hx).1 hx r' hr hkey
        omega
theorem mem_rulesOf (l : List En) (room : ByteArray) (r : Rl) : r ∈ rulesOf l room ↔ ∃ (a : Nat) (e : En) (k rk : Int), l[a]? = some e ∧ kindOf e.typ = some (k, rk) ∧ IsBest l l.length k e.key rk a ∧ ofE e.typ e.key e.body room = some r := by
  unfold rulesOf
  rw [List.mem_filterMap]
  constructor
  · rintro ⟨⟨e, a⟩, hp, h⟩
    have he : l[a]? = some e := by rwa [List.mk_mem_zipIdx_iff_getElem?] at hp
    simp only at h
    split at h
    · rename_i hc
      obtain ⟨k, rk, h1, h2⟩ := (countsB_iff l e a he).1 hc
      exact ⟨a, e, k, rk, he, h1, h2, h⟩
    · cases h
  · rintro ⟨a, e, k, rk, he, h1, h2, h⟩
    refine ⟨(e, a), by rw [List.mk_mem_zipIdx_iff_getElem?]; exact he, ?_⟩
    simp only
    rw [if_pos ((countsB_iff l e a he).2 ⟨k, rk, h1, h2⟩), h]
/-! ### the entries of the map, gone through in any order -/
def fromE (l : List En) (room : ByteArray) (x : ME) (r : Rl) : Prop := ∃ k key rk a e, x.key = kP k key ∧ x.val = vP rk a ∧ 0 ≤ a ∧ l[a.toNat]? = some e ∧ ofE e.typ e.key e.body room = some r
def left (es : List ME) (seen : List Nat) : Nat := (es.filter (fun e => !decide (e.born ∈ seen))).length
structure Out (l : List En) (room : ByteArray) (es : List ME) (seen : List Nat) (O : List Rl) : Prop where
  sound : ∀ r, r ∈ O → ∃ x, x ∈ es ∧ fromE l room x r
  full : ∀ x, x ∈ es → x.born ∈ seen → ∀ r, fromE l room x r → r ∈ O
  len : O.length + left es seen ≤ es.length
theorem Out.zero (l : List En) (room : ByteArray) (es : List ME) : Out l room es [] [] := ⟨by simp, by simp, by show 0 + _ ≤ _; rw [Nat.zero_add]; exact List.length_filter_le _ _⟩
theorem left_lt : ∀ (es : List ME) (seen : List Nat) (x : ME), x ∈ es → x.born ∉ seen → left es (x.born :: seen) < left es seen := by
  intro es seen x hx hn
  unfold left
  induction es with
  | nil => simp at hx
  | cons e es ih =>
    have hle : ∀ (es : List ME), (es.filter (fun e => !decide (e.born ∈ x.born :: seen))).length ≤ (es.filter (fun e => !decide (e.born ∈ seen))).length := by
      intro es
      induction es with
      | nil => simp
      | cons e es ih =>
        simp only [List.filter_cons]
        by_cases h1 : e.born ∈ seen
        · simp [h1]
          simpa using ih
        · by_cases h2 : e.born = x.born
          · simp [h1, h2]
            have : x.born ∉ seen := hn
            simp [this]
            have := ih
            simp at this
            omega
          · simp [h1, h2]
            simpa using ih
    simp only [List.filter_cons]
    rcases List.mem_cons.1 hx with rfl | hx
    · have := hle es
      simp [hn]
      simp at this
      omega
    · have ih := ih hx
      by_cases h1 : e.born ∈ seen
      · simp [h1]
        simpa using ih
      · by_cases h2 : e.born = x.born
        · simp [h1, h2, hn]
          simp at ih
          omega
        · simp [h1, h2]
          simpa using ih
theorem fromE_one (h : Best l i es clk) {room : ByteArray} {y : ME} (hy : y ∈ es) {k rk a : Int} {key : ByteArray} (hk : y.key = kP k key) (hv : y.val = vP rk a) {e : En} (he : l[a.toNat]? = some e) {r : Rl} (hf : fromE l room y r) : ofE e.typ e.key e.body room = some r := by
  obtain ⟨k', key', rk', a', e', h1, h2, h3, h4, h5⟩ := hf
  rw [hv] at h2
  obtain ⟨rfl, rfl⟩ := vP_inj h2
  rw [he] at h4
  cases h4
  exact h5
theorem Out.told {room : ByteArray} {seen : List Nat} {O : List Rl} (h : Best l i es clk) (ho : Out l room es seen O) {y : ME} (hy : y ∈ es) (hn : y.born ∉ seen) {k rk a : Int} {key : ByteArray} (hk : y.key = kP k key) (hv : y.val = vP rk a) (h0 : 0 ≤ a) {e : En} (he : l[a.toNat]? = some e) {r : Rl} (hr : ofE e.typ e.key e.body room = some r) : Out l room es (y.born :: seen) (O ++ [r]) := by
  have hl := left_lt es seen y hy hn
  refine ⟨fun q hq => ?_, fun z hz hb q hq => ?_, by have := ho.len; rw [List.length_append, List.length_singleton]; omega⟩
  · rcases List.mem_append.1 hq with hq | hq
    · exact ho.sound q hq
    · rw [List.mem_singleton.1 hq]
      exact ⟨y, hy, k, key, rk, a, e, hk, hv, h0, he, hr⟩
  · rcases List.mem_cons.1 hb with hb | hb
    · have := h.uniq z y hz hy hb
      subst this
      have := fromE_one h hz hk hv he hq
      rw [hr] at this
      cases this
      simp
    · exact List.mem_append_left _ (ho.full z hz hb q hq)
theorem Out.not {room : ByteArray} {seen : List Nat} {O : List Rl} (h : Best l i es clk) (ho : Out l room es seen O) {y : ME} (hy : y ∈ es) (hn : y.born ∉ seen) {k rk a : Int} {key : ByteArray} (hk : y.key = kP k key) (hv : y.val = vP rk a) {e : En} (he : l[a.toNat]? = some e) (hr : ofE e.typ e.key e.body room = none) : Out l room es (y.born :: seen) O := by
  have hl := left_lt es seen y hy hn
  refine ⟨ho.sound, fun z hz hb q hq => ?_, by have := ho.len; omega⟩
  rcases List.mem_cons.1 hb with hb | hb
  · have := h.uniq z y hz hy hb
    subst this
    have := fromE_one h hz hk hv he hq
    rw [hr] at this
    cases this
  · exact ho.full z hz hb q hq
theorem Out.done {room : ByteArray} {seen : List Nat} {O : List Rl} (h : Best l i es clk) (hi : i.toNat = l.length) (ho : Out l room es seen O) (hov : ∀ b, b ∈ es.map ME.born → b ∈ seen) : sortU O = extractR l room := by
  refine sortU_congr (fun r => ?_)
  rw [mem_rulesOf]
  constructor
  · intro hr
    obtain ⟨x, hx, k, key, rk, a, e, h1, h2, h3, h4, h5⟩ := ho.sound r hr
    obtain ⟨_, k', key', rk', a', q1, q2, q3⟩ := h.form x hx
    rw [h1] at q1
    obtain ⟨rfl, rfl⟩ := kP_inj q1
    rw [h2] at q2
    obtain ⟨rfl, rfl⟩ := vP_inj q2
    obtain ⟨e', g1, g2, g3⟩ := q3.one
    rw [h4] at g1
    cases g1
    refine ⟨a.toNat, e, k, rk, h4, g2, ?_, h5⟩
    rw [g3, ← hi, show ((a.toNat : Nat) : Int) = a by omega]
    exact q3
  · rintro ⟨a, e, k, rk, he, hk, hb, hr⟩
    have hlt := (List.getElem?_eq_some_iff.1 he).1
    obtain ⟨x, hx, hxk⟩ := h.full a e (by omega) he k rk hk
    obtain ⟨_, k', key', rk', a', q1, q2, q3⟩ := h.form x hx
    rw [hxk] at q1
    obtain ⟨rfl, rfl⟩ := kP_inj q1
    obtain ⟨e', g1, g2, g3⟩ := q3.one
    rw [hi] at q3
    have z1 := q3.all a e hlt he rk hk rfl
    have z2 := hb.all a'.toNat e' (List.getElem?_eq_some_iff.1 g1).1 g1 rk' g2 g3
    have z3 := q3.lo
    have z4 : a'.toNat = a := by omega
    rw [z4, he] at g1
    cases g1
    refine ho.full x hx (hov _ (List.mem_map.2 ⟨x, hx, rfl⟩)) r ⟨k, e.key, rk', a', e, hxk, q2, z3, by rw [z4]; exact he, hr⟩
end Go.Proofs.YtbjfmkmaghapgaaGreatDoor.B
