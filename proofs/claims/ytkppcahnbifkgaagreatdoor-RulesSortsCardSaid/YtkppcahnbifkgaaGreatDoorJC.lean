/-
rules.Types, KindOf, Of; walked. Conditions: json.Check's contract, scan.Valid's.
The rules of a state: plain law of the map that keeps, by kind and key, the entry that counts. Condition: none.
rules.Extract, walked. Conditions: json.Check's contract, scan.Valid's, the library's sort.
The law's helpers at rules: Own, Same, LightRules, Pick; walked. Condition: none.
The law's examples, walked. Conditions: the contracts of outlawref06.RuleBody, json.Check, scan.Valid, the library's sort.
-/
import Derived.Test.YtkppcahnbifkgaaGreatDoorBFun5
import Derived.Test.YtkppcahnbifkgaaGreatDoorBSort
import Derived.Test.YtkppcahnbifkgaaGreatDoorBSort0
import Derived.Test.YtkppcahnbifkgaaGreatDoorBOrd
set_option linter.unusedVariables false
set_option linter.unusedSimpArgs false
namespace Go.Proofs.YtkppcahnbifkgaaGreatDoor.B
open Go.RowKit
def bT10 : ByteArray := ⟨#[109, 46, 112, 111, 108, 105, 99, 121, 46, 114, 117, 108, 101, 46, 117, 115, 101, 114]⟩
def bT11 : ByteArray := ⟨#[109, 46, 114, 111, 111, 109, 46, 114, 117, 108, 101, 46, 117, 115, 101, 114]⟩
def bT12 : ByteArray := ⟨#[111, 114, 103, 46, 109, 97, 116, 114, 105, 120, 46, 109, 106, 111, 108, 110, 105, 114, 46, 114, 117, 108, 101, 46, 117, 115, 101, 114]⟩
def bT20 : ByteArray := ⟨#[109, 46, 112, 111, 108, 105, 99, 121, 46, 114, 117, 108, 101, 46, 114, 111, 111, 109]⟩
def bT21 : ByteArray := ⟨#[109, 46, 114, 111, 111, 109, 46, 114, 117, 108, 101, 46, 114, 111, 111, 109]⟩
def bT22 : ByteArray := ⟨#[111, 114, 103, 46, 109, 97, 116, 114, 105, 120, 46, 109, 106, 111, 108, 110, 105, 114, 46, 114, 117, 108, 101, 46, 114, 111, 111, 109]⟩
def bT30 : ByteArray := ⟨#[109, 46, 112, 111, 108, 105, 99, 121, 46, 114, 117, 108, 101, 46, 115, 101, 114, 118, 101, 114]⟩
def bT31 : ByteArray := ⟨#[109, 46, 114, 111, 111, 109, 46, 114, 117, 108, 101, 46, 115, 101, 114, 118, 101, 114]⟩
def bT32 : ByteArray := ⟨#[111, 114, 103, 46, 109, 97, 116, 114, 105, 120, 46, 109, 106, 111, 108, 110, 105, 114, 46, 114, 117, 108, 101, 46, 115, 101, 114, 118, 101, 114]⟩
def typesOf (k : Int) : List ByteArray := if k = 1 then [bT10, bT11, bT12] else if k = 2 then [bT20, bT21, bT22] else if k = 3 then [bT30, bT31, bT32] else []
def tX1 : List (List PV) := [[.lit (.string ⟨#[109, 46, 112, 111, 108, 105, 99, 121, 46, 114, 117, 108, 101, 46, 117, 115, 101, 114]⟩)], [.lit (.string ⟨#[109, 46, 114, 111, 111, 109, 46, 114, 117, 108, 101, 46, 117, 115, 101, 114]⟩)], [.lit (.string ⟨#[111, 114, 103, 46, 109, 97, 116, 114, 105, 120, 46, 109, 106, 111, 108, 110, 105, 114, 46, 114, 117, 108, 101, 46, 117, 115, 101, 114]⟩)]]
def tX2 : List (List PV) := [[.lit (.string ⟨#[109, 46, 112, 111, 108, 105, 99, 121, 46, 114, 117, 108, 101, 46, 114, 111, 111, 109]⟩)], [.lit (.string ⟨#[109, 46, 114, 111, 111, 109, 46, 114, 117, 108, 101, 46, 114, 111, 111, 109]⟩)], [.lit (.string ⟨#[111, 114, 103, 46, 109, 97, 116, 114, 105, 120, 46, 109, 106, 111, 108, 110, 105, 114, 46, 114, 117, 108, 101, 46, 114, 111, 111, 109]⟩)]]
def tX3 : List (List PV) := [[.lit (.string ⟨#[109, 46, 112, 111, 108, 105, 99, 121, 46, 114, 117, 108, 101, 46, 115, 101, 114, 118, 101, 114]⟩)], [.lit (.string ⟨#[109, 46, 114, 111, 111, 109, 46, 114, 117, 108, 101, 46, 115, 101, 114, 118, 101, 114]⟩)], [.lit (.string ⟨#[111, 114, 103, 46, 109, 97, 116, 114, 105, 120, 46, 109, 106, 111, 108, 110, 105, 114, 46, 114, 117, 108, 101, 46, 115, 101, 114, 118, 101, 114]⟩)]]
def kindOf (s : ByteArray) : Option (Int × Int) :=
  if s = bT10 then some (1, 0) else if s = bT11 then some (1, 1) else if s = bT12 then some (1, 2) else if s = bT20 then some (2, 0) else if s = bT21 then some (2, 1) else if s = bT22 then some (2, 2) else if s = bT30 then some (3, 0) else if s = bT31 then some (3, 1) else if s = bT32 then some (3, 2) else none
theorem kindOf_10 : kindOf bT10 = some (1, 0) := by kernel_rfl
theorem kindOf_11 : kindOf bT11 = some (1, 1) := by kernel_rfl
theorem kindOf_12 : kindOf bT12 = some (1, 2) := by kernel_rfl
theorem kindOf_20 : kindOf bT20 = some (2, 0) := by kernel_rfl
theorem kindOf_21 : kindOf bT21 = some (2, 1) := by kernel_rfl
theorem kindOf_22 : kindOf bT22 = some (2, 2) := by kernel_rfl
theorem kindOf_30 : kindOf bT30 = some (3, 0) := by kernel_rfl
theorem kindOf_31 : kindOf bT31 = some (3, 1) := by kernel_rfl
theorem kindOf_32 : kindOf bT32 = some (3, 2) := by kernel_rfl
structure KindR (s : ByteArray) (k r : Int) (b : Bool) : Prop where
  out : (b = true ∧ kindOf s = some (k, r)) ∨ (b = false ∧ kindOf s = none ∧ k = 0 ∧ r = 0)
theorem KindR.of (s : ByteArray) : ∃ k r b, KindR s k r b := by
  cases h : kindOf s with
  | some y => exact ⟨y.1, y.2, true, ⟨.inl ⟨rfl, h⟩⟩⟩
  | none => exact ⟨_, _, _, ⟨.inr ⟨rfl, h, rfl, rfl⟩⟩⟩
set_option maxRecDepth 100000 in
set_option maxHeartbeats 4000000 in
theorem types_ac {G : World → Prop} (hst : Stable G) (k : Int) (X : List (List PV)) (hX : Is X (fun _ => (typesOf k).map encS)) :
    ACalls G Tryz.prog 22 [.lit (.int .i64 k)] (.sl X) none := by
  refine acalls_fn hst mixed tau_ok Tryz.func22 (by kernel_rfl) (by kernel_rfl) (by kernel_rfl) ?_
  intro Q hQ
  cbv
  intro b1 h1
  cbv
  cases b1
  · cbv
    intro b2 h2
    cbv
    cases b2
    · cbv
      intro b3 h3
      cbv
      cases b3
      · cbv
        have e : X = [] := by rw [hX.out]; unfold typesOf; rw [if_neg h1.no, if_neg h2.no, if_neg h3.no]; rfl
        subst e
        try exact ⟨rfl, trivial⟩
      · cbv
        have e : X = tX3 := by rw [hX.out]; unfold typesOf; rw [if_neg h1.no, if_neg h2.no, if_pos h3.yes]; rfl
        subst e
        try exact ⟨rfl, trivial⟩
    · cbv
      have e : X = tX2 := by rw [hX.out]; unfold typesOf; rw [if_neg h1.no, if_pos h2.yes]; rfl
      subst e
      try exact ⟨rfl, trivial⟩
  · cbv
    have e : X = tX1 := by rw [hX.out]; unfold typesOf; rw [if_pos h1.yes]; rfl
    subst e
    try exact ⟨rfl, trivial⟩
set_option maxRecDepth 100000 in
set_option maxHeartbeats 4000000 in
theorem kindOf_ac {G : World → Prop} (hst : Stable G) (s : ByteArray) (k r : Int) (b : Bool) (hr : KindR s k r b) :
    ACalls G Tryz.prog 18 [.lit (.string s)] (.tup [.lit (.int .i64 k), .lit (.int .i64 r), .lit (.bool b)]) none := by
  refine acalls_fn hst mixed tau_ok Tryz.func18 (by kernel_rfl) (by kernel_rfl) (by kernel_rfl) ?_
  intro Q hQ
  cbv
  intro b10 h10
  cbv
  cases b10
  rotate_left
  · cbv
    have e : s = bT10 := h10.yes
    refine Or.inl ⟨_, _, hQ _ _ _ _ (types_ac hst 1 tX1 ⟨rfl⟩), ?_⟩
    cbv
    refine Or.inl ⟨_, _, hQ _ _ _ _ (indexStr_ac hst [bT10, bT11, bT12] tX1 rfl (by decide) s 0 ⟨by rw [e]; kernel_rfl⟩), ?_⟩
    cbv
    rcases hr.out with ⟨rfl, h⟩ | ⟨_, h, _⟩
    · rw [e, kindOf_10] at h
      cases h
      try exact ⟨rfl, trivial⟩
    · rw [e, kindOf_10] at h
      cases h
  cbv
  intro b11 h11
  cbv
  cases b11
  rotate_left
  · cbv
    have e : s = bT11 := h11.yes
    refine Or.inl ⟨_, _, hQ _ _ _ _ (types_ac hst 1 tX1 ⟨rfl⟩), ?_⟩
    cbv
    refine Or.inl ⟨_, _, hQ _ _ _ _ (indexStr_ac hst [bT10, bT11, bT12] tX1 rfl (by decide) s 1 ⟨by rw [e]; kernel_rfl⟩), ?_⟩
    cbv
    rcases hr.out with ⟨rfl, h⟩ | ⟨_, h, _⟩
    · rw [e, kindOf_11] at h
      cases h
      try exact ⟨rfl, trivial⟩
    · rw [e, kindOf_11] at h
      cases h
  cbv
  intro b12 h12
  cbv
  cases b12
  rotate_left
  · cbv
    have e : s = bT12 := h12.yes
    refine Or.inl ⟨_, _, hQ _ _ _ _ (types_ac hst 1 tX1 ⟨rfl⟩), ?_⟩
    cbv
    refine Or.inl ⟨_, _, hQ _ _ _ _ (indexStr_ac hst [bT10, bT11, bT12] tX1 rfl (by decide) s 2 ⟨by rw [e]; kernel_rfl⟩), ?_⟩
    cbv
    rcases hr.out with ⟨rfl, h⟩ | ⟨_, h, _⟩
    · rw [e, kindOf_12] at h
      cases h
      try exact ⟨rfl, trivial⟩
    · rw [e, kindOf_12] at h
      cases h
  cbv
  intro b20 h20
  cbv
  cases b20
  rotate_left
  · cbv
    have e : s = bT20 := h20.yes
    refine Or.inl ⟨_, _, hQ _ _ _ _ (types_ac hst 2 tX2 ⟨rfl⟩), ?_⟩
    cbv
    refine Or.inl ⟨_, _, hQ _ _ _ _ (indexStr_ac hst [bT20, bT21, bT22] tX2 rfl (by decide) s 0 ⟨by rw [e]; kernel_rfl⟩), ?_⟩
    cbv
    rcases hr.out with ⟨rfl, h⟩ | ⟨_, h, _⟩
    · rw [e, kindOf_20] at h
      cases h
      try exact ⟨rfl, trivial⟩
    · rw [e, kindOf_20] at h
      cases h
  cbv
  intro b21 h21
  cbv
  cases b21
  rotate_left
  · cbv
    have e : s = bT21 := h21.yes
    refine Or.inl ⟨_, _, hQ _ _ _ _ (types_ac hst 2 tX2 ⟨rfl⟩), ?_⟩
    cbv
    refine Or.inl ⟨_, _, hQ _ _ _ _ (indexStr_ac hst [bT20, bT21, bT22] tX2 rfl (by decide) s 1 ⟨by rw [e]; kernel_rfl⟩), ?_⟩
    cbv
    rcases hr.out with ⟨rfl, h⟩ | ⟨_, h, _⟩
    · rw [e, kindOf_21] at h
      cases h
      try exact ⟨rfl, trivial⟩
    · rw [e, kindOf_21] at h
      cases h
  cbv
  intro b22 h22
  cbv
  cases b22
  rotate_left
  · cbv
    have e : s = bT22 := h22.yes
    refine Or.inl ⟨_, _, hQ _ _ _ _ (types_ac hst 2 tX2 ⟨rfl⟩), ?_⟩
    cbv
    refine Or.inl ⟨_, _, hQ _ _ _ _ (indexStr_ac hst [bT20, bT21, bT22] tX2 rfl (by decide) s 2 ⟨by rw [e]; kernel_rfl⟩), ?_⟩
    cbv
    rcases hr.out with ⟨rfl, h⟩ | ⟨_, h, _⟩
    · rw [e, kindOf_22] at h
      cases h
      try exact ⟨rfl, trivial⟩
    · rw [e, kindOf_22] at h
      cases h
  cbv
  intro b30 h30
  cbv
  cases b30
  rotate_left
  · cbv
    have e : s = bT30 := h30.yes
    refine Or.inl ⟨_, _, hQ _ _ _ _ (types_ac hst 3 tX3 ⟨rfl⟩), ?_⟩
    cbv
    refine Or.inl ⟨_, _, hQ _ _ _ _ (indexStr_ac hst [bT30, bT31, bT32] tX3 rfl (by decide) s 0 ⟨by rw [e]; kernel_rfl⟩), ?_⟩
    cbv
    rcases hr.out with ⟨rfl, h⟩ | ⟨_, h, _⟩
    · rw [e, kindOf_30] at h
      cases h
      try exact ⟨rfl, trivial⟩
    · rw [e, kindOf_30] at h
      cases h
  cbv
  intro b31 h31
  cbv
  cases b31
  rotate_left
  · cbv
    have e : s = bT31 := h31.yes
    refine Or.inl ⟨_, _, hQ _ _ _ _ (types_ac hst 3 tX3 ⟨rfl⟩), ?_⟩
    cbv
    refine Or.inl ⟨_, _, hQ _ _ _ _ (indexStr_ac hst [bT30, bT31, bT32] tX3 rfl (by decide) s 1 ⟨by rw [e]; kernel_rfl⟩), ?_⟩
    cbv
    rcases hr.out with ⟨rfl, h⟩ | ⟨_, h, _⟩
    · rw [e, kindOf_31] at h
      cases h
      try exact ⟨rfl, trivial⟩
    · rw [e, kindOf_31] at h
      cases h
  cbv
  intro b32 h32
  cbv
  cases b32
  rotate_left
  · cbv
    have e : s = bT32 := h32.yes
    refine Or.inl ⟨_, _, hQ _ _ _ _ (types_ac hst 3 tX3 ⟨rfl⟩), ?_⟩
    cbv
    refine Or.inl ⟨_, _, hQ _ _ _ _ (indexStr_ac hst [bT30, bT31, bT32] tX3 rfl (by decide) s 2 ⟨by rw [e]; kernel_rfl⟩), ?_⟩
    cbv
    rcases hr.out with ⟨rfl, h⟩ | ⟨_, h, _⟩
    · rw [e, kindOf_32] at h
      cases h
      try exact ⟨rfl, trivial⟩
    · rw [e, kindOf_32] at h
      cases h
  cbv
  have hn : kindOf s = none := by
    unfold kindOf
    rw [if_neg (show ¬ s = bT10 from h10.no), if_neg (show ¬ s = bT11 from h11.no), if_neg (show ¬ s = bT12 from h12.no), if_neg (show ¬ s = bT20 from h20.no), if_neg (show ¬ s = bT21 from h21.no), if_neg (show ¬ s = bT22 from h22.no), if_neg (show ¬ s = bT30 from h30.no), if_neg (show ¬ s = bT31 from h31.no), if_neg (show ¬ s = bT32 from h32.no)]
  rcases hr.out with ⟨_, h⟩ | ⟨rfl, _, rfl, rfl⟩
  · rw [hn] at h
    cases h
  · try exact ⟨rfl, trivial⟩
/-- The rule that an entry tells by itself. -/
def ofE (typ key : ByteArray) (body : J) (room : ByteArray) : Option Rl :=
  match kindOf typ, ruleOf body with
  | some (k, _), some b => if b.recommendation = wMban ∨ b.recommendation = wOban then some ⟨k, b.entity, b.reason, room, key⟩ else none
  | _, _ => none
structure OfR (typ key : ByteArray) (body : J) (room : ByteArray) (r : Rl) (b : Bool) : Prop where
  out : (b = true ∧ ofE typ key body room = some r) ∨ (b = false ∧ ofE typ key body room = none ∧ r = ⟨0, ⟨#[]⟩, ⟨#[]⟩, ⟨#[]⟩, ⟨#[]⟩⟩)
theorem OfR.of (typ key : ByteArray) (body : J) (room : ByteArray) : ∃ r b, OfR typ key body room r b := by
  cases h : ofE typ key body room with
  | some y => exact ⟨y, true, ⟨.inl ⟨rfl, h⟩⟩⟩
  | none => exact ⟨_, _, ⟨.inr ⟨rfl, h, rfl⟩⟩⟩
set_option maxRecDepth 100000 in
set_option maxHeartbeats 4000000 in
theorem of_ac {G : World → Prop} (hst : Stable G) (hV : ValidC G) (hC : CheckC G) (typ key id by_ : ByteArray) (x : J) (k n : Int) (t : ByteArray) (KX IX : List (List PV)) (hbig : x.size ≤ 1000000) (hok : okB x = true) (hJ : JRow x k n t KX IX) (room : ByteArray) (r : Rl) (b : Bool) (hr : OfR typ key x room r b) :
    ACalls G Tryz.prog 19 [.agg [.lit (.string typ), .lit (.string key), .lit (.string id), .lit (.string by_), .lit (.int .i64 k), .lit (.int .i64 n), .lit (.string t), .sl KX, .sl IX], .lit (.string room)] (.tup [.agg (encR r), .lit (.bool b)]) none := by
  obtain ⟨r1, r2, r3, r4, r5⟩ := r
  refine acalls_fn hst mixed tau_ok Tryz.func19 (by kernel_rfl) (by kernel_rfl) (by kernel_rfl) ?_
  intro Q hQ
  cbv
  obtain ⟨kd, rk, d, hk⟩ := KindR.of typ
  refine Or.inl ⟨_, _, hQ _ _ _ _ (kindOf_ac hst typ kd rk d hk), ?_⟩
  cbv
  intro b1 h1
  cbv
  cases d
  · have e : b1 = true := by have := h1.out; simpa using this
    subst e
    cbv
    have hn : ofE typ key x room = none := by
      rcases hk.out with ⟨h, _⟩ | ⟨_, h, _⟩
      · cases h
      · unfold ofE; rw [h]
    rcases hr.out with ⟨_, h⟩ | ⟨rfl, _, h⟩
    · rw [hn] at h
      cases h
    · cases h
      try exact ⟨rfl, trivial⟩
  · have e : b1 = false := by have := h1.out; simpa using this
    subst e
    cbv
    obtain ⟨s1, s2, s3, d2, hB⟩ := RuleR.of x
    refine Or.inl ⟨_, _, hQ _ _ _ _ (ruleOf_ac hst hV hC x k n t KX IX hbig hok hJ s1 s2 s3 d2 hB), ?_⟩
    cbv
    intro b2 h2
    cbv
    have hk' : kindOf typ = some (kd, rk) := by
      rcases hk.out with ⟨_, h⟩ | ⟨h, _⟩
      · exact h
      · cases h
    cases d2
    · have e : b2 = true := by have := h2.out; simpa using this
      subst e
      cbv
      have hn : ofE typ key x room = none := by
        rcases hB.out with ⟨h, _⟩ | ⟨_, h, _⟩
        · cases h
        · unfold ofE; rw [h, hk']
      rcases hr.out with ⟨_, h⟩ | ⟨rfl, _, h⟩
      · rw [hn] at h
        cases h
      · cases h
        try exact ⟨rfl, trivial⟩
    · have e : b2 = false := by have := h2.out; simpa using this
      subst e
      cbv
      have hB' : ruleOf x = some ⟨s1, s2, s3⟩ := by
        rcases hB.out with ⟨_, h⟩ | ⟨h, _⟩
        · exact h
        · cases h
      obtain ⟨c, hc⟩ : ∃ c, Is c (fun _ => decide (s2 = wMban ∨ s2 = wOban)) := ⟨_, ⟨rfl⟩⟩
      refine Or.inl ⟨_, _, hQ _ _ _ _ (takes_ac hst s2 c hc), ?_⟩
      cbv
      intro b3 h3
      cbv
      have hE : ofE typ key x room = if s2 = wMban ∨ s2 = wOban then some ⟨kd, s1, s3, room, key⟩ else none := by
        unfold ofE; rw [hB', hk']
      cases c
      · have e : b3 = true := by have := h3.out; simpa using this
        subst e
        cbv
        rcases hr.out with ⟨_, h⟩ | ⟨rfl, _, h⟩
        · rw [hE, if_neg hc.no] at h
          cases h
        · cases h
          try exact ⟨rfl, trivial⟩
      · have e : b3 = false := by have := h3.out; simpa using this
        subst e
        cbv
        rcases hr.out with ⟨rfl, h⟩ | ⟨_, h, _⟩
        · rw [hE, if_pos hc.yes] at h
          cases h
          try exact ⟨rfl, trivial⟩
        · rw [hE, if_pos hc.yes] at h
          cases h
end Go.Proofs.YtkppcahnbifkgaaGreatDoor.B

set_option linter.unusedVariables false
set_option linter.unusedSimpArgs false
namespace Go.Proofs.YtkppcahnbifkgaaGreatDoor.B
open Go.RowKit
structure En where
  typ : ByteArray
  key : ByteArray
  id : ByteArray
  by_ : ByteArray
  body : J
def encEn (e : En) : List PV := [.lit (.string e.typ), .lit (.string e.key), .lit (.string e.id), .lit (.string e.by_)] ++ encJ e.body
abbrev kP (k : Int) (key : ByteArray) : PV := .agg [.lit (.int .i64 k), .lit (.string key)]
abbrev vP (rk a : Int) : PV := .agg [.lit (.int .i64 rk), .lit (.int .i64 a)]
theorem kP_inj {k k' : Int} {s s' : ByteArray} (h : kP k s = kP k' s') : k = k' ∧ s = s' := by
  unfold kP at h
  simp only [PV.agg.injEq, List.cons.injEq, PV.lit.injEq, Value.int.injEq, Value.string.injEq] at h
  exact ⟨h.1.2, h.2.1⟩
theorem vP_inj {k k' : Int} {s s' : Int} (h : vP k s = vP k' s') : k = k' ∧ s = s' := by
  unfold vP at h
  simp only [PV.agg.injEq, List.cons.injEq, PV.lit.injEq, Value.int.injEq] at h
  exact ⟨h.1.2, h.2.1.2⟩
/-- Of the first so many entries this one counts, of its kind and key. -/
structure IsBest (l : List En) (n : Nat) (k : Int) (key : ByteArray) (rk a : Int) : Prop where
  lo : 0 ≤ a
  hi : a.toNat < n
  one : ∃ e, l[a.toNat]? = some e ∧ kindOf e.typ = some (k, rk) ∧ e.key = key
  all : ∀ (j : Nat) e, j < n → l[j]? = some e → ∀ r, kindOf e.typ = some (k, r) → e.key = key → rk < r ∨ (rk = r ∧ a ≤ j)
theorem IsBest.next {l : List En} {n : Nat} {k : Int} {key : ByteArray} {rk a : Int} (h : IsBest l n k key rk a) {x : En} (hx : l[n]? = some x) (hr : ∀ r, kindOf x.typ = some (k, r) → x.key = key → rk ≤ r) : IsBest l (n + 1) k key rk a := by
  have h1 := h.hi
  have h0 := h.lo
  refine ⟨h.lo, by omega, h.one, fun j e hj he r hk hkey => ?_⟩
  by_cases e1 : j < n
  · exact h.all j e e1 he r hk hkey
  · have e2 : j = n := by omega
    subst e2
    rw [hx] at he
    cases he
    have := hr r hk hkey
    omega
structure Best (l : List En) (i : Int) (es : List ME) (clk : Nat) : Prop where
  lo : 0 ≤ i
  hi : i ≤ l.length
  len : es.length ≤ i.toNat
  form : ∀ e, e ∈ es → e.born < clk ∧ ∃ k key rk a, e.key = kP k key ∧ e.val = vP rk a ∧ IsBest l i.toNat k key rk a
  uniq : ∀ e e', e ∈ es → e' ∈ es → e.born = e'.born → e = e'
  uniqK : ∀ e e', e ∈ es → e' ∈ es → e.key = e'.key → e = e'
  full : ∀ (j : Nat) e, j < i.toNat → l[j]? = some e → ∀ k r, kindOf e.typ = some (k, r) → ∃ x, x ∈ es ∧ x.key = kP k e.key
theorem Best.zero (l : List En) : Best l 0 [] 0 := ⟨by omega, by omega, by simp, by simp, by simp, by simp, by simp⟩
variable {l : List En} {i : Int} {es : List ME} {clk : Nat} {x : En}
theorem Best.skip (h : Best l i es clk) (hx : l[i.toNat]? = some x) (hk : kindOf x.typ = none) {i' : Int} (hi : i' = i + 1) : Best l i' es clk := by
  have h0 := h.lo
  have hlt := (List.getElem?_eq_some_iff.1 hx).1
  have en : i'.toNat = i.toNat + 1 := by omega
  refine ⟨by omega, by omega, by have := h.len; omega, fun e he => ?_, h.uniq, h.uniqK, fun j e hj he k r hk' => ?_⟩
  · obtain ⟨h1, k, key, rk, a, h2, h3, h4⟩ := h.form e he
    refine ⟨h1, k, key, rk, a, h2, h3, ?_⟩
    rw [en]
    exact h4.next hx (fun r hr => by rw [hk] at hr; cases hr)
  · by_cases e1 : j < i.toNat
    · exact h.full j e e1 he k r hk'
    · have e2 : j = i.toNat := by omega
      rw [e2, hx] at he
      cases he
      rw [hk] at hk'
      cases hk'
theorem Best.keep (h : Best l i es clk) (hx : l[i.toNat]? = some x) {k r : Int} (hk : kindOf x.typ = some (k, r)) {e0 : ME} (he0 : e0 ∈ es) (hkey : e0.key = kP k x.key) {rk a : Int} (hv : e0.val = vP rk a) (hlt' : ¬ r < rk) {i' : Int} (hi : i' = i + 1) : Best l i' es clk := by
  have h0 := h.lo
  have hlt := (List.getElem?_eq_some_iff.1 hx).1
  have en : i'.toNat = i.toNat + 1 := by omega
  refine ⟨by omega, by omega, by have := h.len; omega, fun e he => ?_, h.uniq, h.uniqK, fun j e hj he k' r' hk' => ?_⟩
  · obtain ⟨h1, k', key', rk', a', h2, h3, h4⟩ := h.form e he
    refine ⟨h1, k', key', rk', a', h2, h3, ?_⟩
    rw [en]
    refine h4.next hx (fun r' hr' hk'' => ?_)
    rw [hk] at hr'
    cases hr'
    have e1 : e = e0 := h.uniqK e e0 he he0 (by rw [h2, hkey, hk''])
    subst e1
    rw [hv] at h3
    obtain ⟨rfl, rfl⟩ := vP_inj h3
    omega
  · by_cases e1 : j < i.toNat
    · exact h.full j e e1 he k' r' hk'
    · have e2 : j = i.toNat := by omega
      rw [e2, hx] at he
      cases he
      rw [hk] at hk'
      cases hk'
      exact ⟨e0, he0, hkey⟩
theorem IsBest.fresh {n : Nat} {k r : Int} (hx : l[n]? = some x) (hk : kindOf x.typ = some (k, r)) (hp : ∀ (j : Nat) e, j < n → l[j]? = some e → ∀ r', kindOf e.typ = some (k, r') → e.key = x.key → r < r') {i : Int} (h0 : 0 ≤ i) (hn : n = i.toNat) : IsBest l (n + 1) k x.key r i := by
  refine ⟨h0, by omega, ⟨x, hn ▸ hx, hk, rfl⟩, fun j e hj he r' hk' hkey => ?_⟩
  by_cases e1 : j < n
  · exact .inl (hp j e e1 he r' hk' hkey)
  · have e2 : j = n := by omega
    rw [e2, hx] at he
    cases he
    rw [hk] at hk'
    cases hk'
    right
    omega
theorem Best.set (h : Best l i es clk) (hx : l[i.toNat]? = some x) {k r : Int} (hk : kindOf x.typ = some (k, r)) {e0 : ME} (he0 : e0 ∈ es) (hkey : e0.key = kP k x.key) {rk a : Int} (hv : e0.val = vP rk a) (hlt' : r < rk) {i' : Int} (hi : i' = i + 1) : Best l i' (setE es e0.born (vP r i)) clk := by
  have h0 := h.lo
  have hlt := (List.getElem?_eq_some_iff.1 hx).1
  have en : i'.toNat = i.toNat + 1 := by omega
  have hm : ∀ e, e ∈ setE es e0.born (vP r i) → ∃ e1, e1 ∈ es ∧ e.born = e1.born ∧ e.key = e1.key ∧ ((e1 = e0 ∧ e.val = vP r i) ∨ (e1 ≠ e0 ∧ e = e1)) := by
    intro e he
    obtain ⟨e1, h1, h2⟩ := List.mem_map.1 he
    by_cases eb : e1.born = e0.born
    · have := h.uniq e1 e0 h1 he0 eb
      subst this
      rw [if_pos rfl] at h2
      subst h2
      exact ⟨e1, h1, rfl, rfl, .inl ⟨rfl, rfl⟩⟩
    · rw [if_neg eb] at h2
      subst h2
      exact ⟨e1, h1, rfl, rfl, .inr ⟨fun e => eb (e ▸ rfl), rfl⟩⟩
  have hbest : IsBest l i.toNat k x.key rk a := by
    obtain ⟨_, k', key', rk', a', h2, h3, h4⟩ := h.form e0 he0
    rw [hkey] at h2
    obtain ⟨rfl, rfl⟩ := kP_inj h2
    rw [hv] at h3
    obtain ⟨rfl, rfl⟩ := vP_inj h3
    exact h4
  have heq : ∀ e e', e ∈ setE es e0.born (vP r i) → e' ∈ setE es e0.born (vP r i) → e.born = e'.born → e.key = e'.key → e = e' := by
    intro e e' he he' hb hk
    obtain ⟨e1, m1, b1, k1, c1⟩ := hm e he
    obtain ⟨e2, m2, b2, k2, c2⟩ := hm e' he'
    have e12 : e1 = e2 := h.uniq e1 e2 m1 m2 (by rw [← b1, ← b2, hb])
    subst e12
    rcases c1 with ⟨q1, v1⟩ | ⟨q1, v1⟩ <;> rcases c2 with ⟨q2, v2⟩ | ⟨q2, v2⟩
    · cases e; cases e'
      simp only at hb hk v1 v2
      rw [hb, hk, v1, v2]
    · exact absurd q1 q2
    · exact absurd q2 q1
    · rw [v1, v2]
  refine ⟨by omega, by omega, ?_, fun e he => ?_, fun e e' he he' hb => ?_, fun e e' he he' hb => ?_, fun j e hj he k' r' hk' => ?_⟩
  · unfold setE
    rw [List.length_map]
    have := h.len
    omega
  · obtain ⟨e1, m1, b1, k1, c1⟩ := hm e he
    obtain ⟨h1, k', key', rk', a', h2, h3, h4⟩ := h.form e1 m1
    rcases c1 with ⟨rfl, v1⟩ | ⟨q1, rfl⟩
    · refine ⟨b1 ▸ h1, k, x.key, r, i, by rw [k1, hkey], v1, ?_⟩
      rw [en]
      refine IsBest.fresh hx hk (fun j e' hj he' r' hk' hkey' => ?_) h0 rfl
      have := hbest.all j e' hj he' r' hk' hkey'
      omega
    · refine ⟨h1, k', key', rk', a', h2, h3, ?_⟩
      rw [en]
      refine h4.next hx (fun r' hr' hk'' => ?_)
      rw [hk] at hr'
      cases hr'
      exact absurd (h.uniqK e e0 m1 he0 (by rw [h2, hkey, hk''])) q1
  · obtain ⟨e1, m1, b1, k1, c1⟩ := hm e he
    obtain ⟨e2, m2, b2, k2, c2⟩ := hm e' he'
    have e12 : e1 = e2 := h.uniq e1 e2 m1 m2 (by rw [← b1, ← b2, hb])
    exact heq e e' he he' hb (by rw [k1, k2, e12])
  · obtain ⟨e1, m1, b1, k1, c1⟩ := hm e he
    obtain ⟨e2, m2, b2, k2, c2⟩ := hm e' he'
    have e12 : e1 = e2 := h.uniqK e1 e2 m1 m2 (by rw [← k1, ← k2, hb])
    exact heq e e' he he' (by rw [b1, b2, e12]) hb
  · have hex : ∀ y, y ∈ es → ∃ z, z ∈ setE es e0.born (vP r i) ∧ z.key = y.key := fun y hy => ⟨_, List.mem_map.2 ⟨y, hy, rfl⟩, by split <;> rfl⟩
    by_cases e1 : j < i.toNat
    · obtain ⟨y, hy, hyk⟩ := h.full j e e1 he k' r' hk'
      obtain ⟨z, hz, hzk⟩ := hex y hy
      exact ⟨z, hz, hzk.trans hyk⟩
    · have e2 : j = i.toNat := by omega
      rw [e2, hx] at he
      cases he
      rw [hk] at hk'
      cases hk'
      obtain ⟨z, hz, hzk⟩ := hex e0 he0
      exact ⟨z, hz, hzk.trans hkey⟩
theorem Best.new (h : Best l i es clk) (hx : l[i.toNat]? = some x) {k r : Int} (hk : kindOf x.typ = some (k, r)) (hno : ∀ e, e ∈ es → e.key ≠ kP k x.key) {i' : Int} (hi : i' = i + 1) : Best l i' (es ++ [⟨clk, kP k x.key, vP r i⟩]) (clk + 1) := by
  have h0 := h.lo
  have hlt := (List.getElem?_eq_some_iff.1 hx).1
  have en : i'.toNat = i.toNat + 1 := by omega
  have hm : ∀ e, e ∈ es ++ [(⟨clk, kP k x.key, vP r i⟩ : ME)] → e ∈ es ∨ e = ⟨clk, kP k x.key, vP r i⟩ := fun e he => by simpa using he
  have hb : ∀ e, e ∈ es → e.born ≠ clk := fun e he => by have := (h.form e he).1; omega
  refine ⟨by omega, by omega, ?_, fun e he => ?_, fun e e' he he' hb' => ?_, fun e e' he he' hb' => ?_, fun j e hj he k' r' hk' => ?_⟩
  · rw [List.length_append, List.length_singleton]
    have := h.len
    omega
  · rcases hm e he with m | rfl
    · obtain ⟨h1, k', key', rk', a', h2, h3, h4⟩ := h.form e m
      refine ⟨by omega, k', key', rk', a', h2, h3, ?_⟩
      rw [en]
      refine h4.next hx (fun r' hr' hk'' => ?_)
      rw [hk] at hr'
      cases hr'
      exact absurd (by rw [h2, hk'']) (hno e m)
    · refine ⟨by show clk < clk + 1; omega, k, x.key, r, i, rfl, rfl, ?_⟩
      rw [en]
      refine IsBest.fresh hx hk (fun j e' hj he' r' hk' hkey' => ?_) h0 rfl
      obtain ⟨y, hy, hyk⟩ := h.full j e' hj he' k r' hk'
      exact absurd (by rw [hyk, hkey']) (hno y hy)
  · rcases hm e he with m | rfl <;> rcases hm e' he' with m' | rfl
    · exact h.uniq e e' m m' hb'
    · exact absurd hb' (hb e m)
    · exact absurd hb'.symm (hb e' m')
    · rfl
  · rcases hm e he with m | rfl <;> rcases hm e' he' with m' | rfl
    · exact h.uniqK e e' m m' hb'
    · exact absurd hb' (hno e m)
    · exact absurd hb'.symm (hno e' m')
    · rfl
  · by_cases e1 : j < i.toNat
    · obtain ⟨y, hy, hyk⟩ := h.full j e e1 he k' r' hk'
      exact ⟨y, by simp [hy], hyk⟩
    · have e2 : j = i.toNat := by omega
      rw [e2, hx] at he
      cases he
      rw [hk] at hk'
      cases hk'
      exact ⟨_, List.mem_append_right _ (List.mem_singleton.2 rfl), rfl⟩
/-! ### which entries count -/
def precedes (k : Int) (key : ByteArray) (rk : Int) (a : Nat) (e : En) (j : Nat) : Bool :=
  match kindOf e.typ with
  | some (k', r') => decide (k' = k ∧ e.key = key ∧ (r' < rk ∨ (r' = rk ∧ j < a)))
  | none => false
def countsB (l : List En) (e : En) (a : Nat) : Bool :=
  match kindOf e.typ with
  | some (k, rk) => l.zipIdx.all (fun p => !precedes k e.key rk a p.1 p.2)
  | none => false
def rulesOf (l : List En) (room : ByteArray) : List Rl :=
  l.zipIdx.filterMap (fun p => if countsB l p.1 p.2 = true then ofE p.1.typ p.1.key p.1.body room else none)
/-- The rules of a state. -/
def extractR (l : List En) (room : ByteArray) : List Rl := sortU (rulesOf l room)
theorem countsB_iff (l : List En) (e : En) (a : Nat) (he : l[a]? = some e) : countsB l e a = true ↔ ∃ k rk, kindOf e.typ = some (k, rk) ∧ IsBest l l.length k e.key rk a := by
  unfold countsB
  cases hk : kindOf e.typ with
  | none => simp
  | some p =>
    obtain ⟨k, rk⟩ := p
    have hlt := (List.getElem?_eq_some_iff.1 he).1
    simp only [List.all_eq_true, Option.some.injEq, Prod.mk.injEq]
    constructor
    · intro h
      refine ⟨k, rk, ⟨rfl, rfl⟩, by omega, by simpa using hlt, ⟨e, by simpa using he, hk, rfl⟩, fun j x hj hx r hr hkey => ?_⟩
      have h1 := h (x, j) (by rw [List.mk_mem_zipIdx_iff_getElem?]; exact hx)
      unfold precedes at h1
      simp only [hr, Bool.not_eq_true', decide_eq_false_iff_not] at h1
      by_cases h2 : rk < r
      · exact .inl h2
      · right
        by_cases h3 : r < rk
        · exact absurd ⟨trivial, hkey, .inl h3⟩ h1
        · refine ⟨by omega, ?_⟩
          by_cases h4 : j < a
          · exact absurd ⟨trivial, hkey, .inr ⟨by omega, h4⟩⟩ h1
          · omega
    · rintro ⟨k', rk', ⟨rfl, rfl⟩, h⟩ ⟨x, j⟩ hp
      have hx : l[j]? = some x := by rwa [List.mk_mem_zipIdx_iff_getElem?] at hp
      unfold precedes
      cases hr : kindOf x.typ with
      | none => rfl
      | some p =>
        obtain ⟨k', r'⟩ := p
        simp only [Bool.not_eq_true', decide_eq_false_iff_not]
        rintro ⟨rfl, hkey, h1⟩
        have := h.all j x (List.getElem?_eq_some_iff.1 hx).1 hx r' hr hkey
        omega
theorem mem_rulesOf (l : List En) (room : ByteArray) (r : Rl) : r ∈ rulesOf l room ↔ ∃ (a : Nat) (e : En) (k rk : Int), l[a]? = some e ∧ kindOf e.typ = some (k, rk) ∧ IsBest l l.length k e.key rk a ∧ ofE e.typ e.key e.body room = some r := by
  unfold rulesOf
  rw [List.mem_filterMap]
  constructor
  · rintro ⟨⟨e, a⟩, hp, h⟩
    have he : l[a]? = some e := by rwa [List.mk_mem_zipIdx_iff_getElem?] at hp
    simp only at h
    split at h
    · rename_i hc
      obtain ⟨k, rk, h1, h2⟩ := (countsB_iff l e a he).1 hc
      exact ⟨a, e, k, rk, he, h1, h2, h⟩
    · cases h
  · rintro ⟨a, e, k, rk, he, h1, h2, h⟩
    refine ⟨(e, a), by rw [List.mk_mem_zipIdx_iff_getElem?]; exact he, ?_⟩
    simp only
    rw [if_pos ((countsB_iff l e a he).2 ⟨k, rk, h1, h2⟩), h]
/-! ### the entries of the map, gone through in any order -/
def fromE (l : List En) (room : ByteArray) (x : ME) (r : Rl) : Prop := ∃ k key rk a e, x.key = kP k key ∧ x.val = vP rk a ∧ 0 ≤ a ∧ l[a.toNat]? = some e ∧ ofE e.typ e.key e.body room = some r
def left (es : List ME) (seen : List Nat) : Nat := (es.filter (fun e => !decide (e.born ∈ seen))).length
structure Out (l : List En) (room : ByteArray) (es : List ME) (seen : List Nat) (O : List Rl) : Prop where
  sound : ∀ r, r ∈ O → ∃ x, x ∈ es ∧ fromE l room x r
  full : ∀ x, x ∈ es → x.born ∈ seen → ∀ r, fromE l room x r → r ∈ O
  len : O.length + left es seen ≤ es.length
theorem Out.zero (l : List En) (room : ByteArray) (es : List ME) : Out l room es [] [] := ⟨by simp, by simp, by show 0 + _ ≤ _; rw [Nat.zero_add]; exact List.length_filter_le _ _⟩
theorem left_lt : ∀ (es : List ME) (seen : List Nat) (x : ME), x ∈ es → x.born ∉ seen → left es (x.born :: seen) < left es seen := by
  intro es seen x hx hn
  unfold left
  induction es with
  | nil => simp at hx
  | cons e es ih =>
    have hle : ∀ (es : List ME), (es.filter (fun e => !decide (e.born ∈ x.born :: seen))).length ≤ (es.filter (fun e => !decide (e.born ∈ seen))).length := by
      intro es
      induction es with
      | nil => simp
      | cons e es ih =>
        simp only [List.filter_cons]
        by_cases h1 : e.born ∈ seen
        · simp [h1]
          simpa using ih
        · by_cases h2 : e.born = x.born
          · simp [h1, h2]
            have : x.born ∉ seen := hn
            simp [this]
            have := ih
            simp at this
            omega
          · simp [h1, h2]
            simpa using ih
    simp only [List.filter_cons]
    rcases List.mem_cons.1 hx with rfl | hx
    · have := hle es
      simp [hn]
      simp at this
      omega
    · have ih := ih hx
      by_cases h1 : e.born ∈ seen
      · simp [h1]
        simpa using ih
      · by_cases h2 : e.born = x.born
        · simp [h1, h2, hn]
          simp at ih
          omega
        · simp [h1, h2]
          simpa using ih
theorem fromE_one (h : Best l i es clk) {room : ByteArray} {y : ME} (hy : y ∈ es) {k rk a : Int} {key : ByteArray} (hk : y.key = kP k key) (hv : y.val = vP rk a) {e : En} (he : l[a.toNat]? = some e) {r : Rl} (hf : fromE l room y r) : ofE e.typ e.key e.body room = some r := by
  obtain ⟨k', key', rk', a', e', h1, h2, h3, h4, h5⟩ := hf
  rw [hv] at h2
  obtain ⟨rfl, rfl⟩ := vP_inj h2
  rw [he] at h4
  cases h4
  exact h5
theorem Out.told {room : ByteArray} {seen : List Nat} {O : List Rl} (h : Best l i es clk) (ho : Out l room es seen O) {y : ME} (hy : y ∈ es) (hn : y.born ∉ seen) {k rk a : Int} {key : ByteArray} (hk : y.key = kP k key) (hv : y.val = vP rk a) (h0 : 0 ≤ a) {e : En} (he : l[a.toNat]? = some e) {r : Rl} (hr : ofE e.typ e.key e.body room = some r) : Out l room es (y.born :: seen) (O ++ [r]) := by
  have hl := left_lt es seen y hy hn
  refine ⟨fun q hq => ?_, fun z hz hb q hq => ?_, by have := ho.len; rw [List.length_append, List.length_singleton]; omega⟩
  · rcases List.mem_append.1 hq with hq | hq
    · exact ho.sound q hq
    · rw [List.mem_singleton.1 hq]
      exact ⟨y, hy, k, key, rk, a, e, hk, hv, h0, he, hr⟩
  · rcases List.mem_cons.1 hb with hb | hb
    · have := h.uniq z y hz hy hb
      subst this
      have := fromE_one h hz hk hv he hq
      rw [hr] at this
      cases this
      simp
    · exact List.mem_append_left _ (ho.full z hz hb q hq)
theorem Out.not {room : ByteArray} {seen : List Nat} {O : List Rl} (h : Best l i es clk) (ho : Out l room es seen O) {y : ME} (hy : y ∈ es) (hn : y.born ∉ seen) {k rk a : Int} {key : ByteArray} (hk : y.key = kP k key) (hv : y.val = vP rk a) {e : En} (he : l[a.toNat]? = some e) (hr : ofE e.typ e.key e.body room = none) : Out l room es (y.born :: seen) O := by
  have hl := left_lt es seen y hy hn
  refine ⟨ho.sound, fun z hz hb q hq => ?_, by have := ho.len; omega⟩
  rcases List.mem_cons.1 hb with hb | hb
  · have := h.uniq z y hz hy hb
    subst this
    have := fromE_one h hz hk hv he hq
    rw [hr] at this
    cases this
  · exact ho.full z hz hb q hq
theorem Out.done {room : ByteArray} {seen : List Nat} {O : List Rl} (h : Best l i es clk) (hi : i.toNat = l.length) (ho : Out l room es seen O) (hov : ∀ b, b ∈ es.map ME.born → b ∈ seen) : sortU O = extractR l room := by
  refine sortU_congr (fun r => ?_)
  rw [mem_rulesOf]
  constructor
  · intro hr
    obtain ⟨x, hx, k, key, rk, a, e, h1, h2, h3, h4, h5⟩ := ho.sound r hr
    obtain ⟨_, k', key', rk', a', q1, q2, q3⟩ := h.form x hx
    rw [h1] at q1
    obtain ⟨rfl, rfl⟩ := kP_inj q1
    rw [h2] at q2
    obtain ⟨rfl, rfl⟩ := vP_inj q2
    obtain ⟨e', g1, g2, g3⟩ := q3.one
    rw [h4] at g1
    cases g1
    refine ⟨a.toNat, e, k, rk, h4, g2, ?_, h5⟩
    rw [g3, ← hi, show ((a.toNat : Nat) : Int) = a by omega]
    exact q3
  · rintro ⟨a, e, k, rk, he, hk, hb, hr⟩
    have hlt := (List.getElem?_eq_some_iff.1 he).1
    obtain ⟨x, hx, hxk⟩ := h.full a e (by omega) he k rk hk
    obtain ⟨_, k', key', rk', a', q1, q2, q3⟩ := h.form x hx
    rw [hxk] at q1
    obtain ⟨rfl, rfl⟩ := kP_inj q1
    obtain ⟨e', g1, g2, g3⟩ := q3.one
    rw [hi] at q3
    have z1 := q3.all a e hlt he rk hk rfl
    have z2 := hb.all a'.toNat e' (List.getElem?_eq_some_iff.1 g1).1 g1 rk' g2 g3
    have z3 := q3.lo
    have z4 : a'.toNat = a := by omega
    rw [z4, he] at g1
    cases g1
    refine ho.full x hx (hov _ (List.mem_map.2 ⟨x, hx, rfl⟩)) r ⟨k, e.key, rk', a', e, hxk, q2, z3, by rw [z4]; exact he, hr⟩
end Go.Proofs.YtkppcahnbifkgaaGreatDoor.B

set_option linter.unusedVariables false
set_option linter.unusedSimpArgs false
namespace Go.Proofs.YtkppcahnbifkgaaGreatDoor.B
open Go.RowKit
structure EnRow (x : En) (typ key id by_ : ByteArray) (k n : Int) (t : ByteArray) (KX IX : List (List PV)) : Prop where
  h1 : x.typ = typ
  h2 : x.key = key
  hJ : JRow x.body k n t KX IX
theorem EnRow.of (x : En) : ∃ typ key id by_ k n t KX IX, EnRow x typ key id by_ k n t KX IX ∧ encEn x = [.lit (.string typ), .lit (.string key), .lit (.string id), .lit (.string by_), .lit (.int .i64 k), .lit (.int .i64 n), .lit (.string t), .sl KX, .sl IX] := by
  obtain ⟨k, n, t, KX, IX, hJ, he⟩ := JRow.of x.body
  refine ⟨x.typ, x.key, x.id, x.by_, k, n, t, KX, IX, ⟨rfl, rfl, hJ⟩, ?_⟩
  unfold encEn
  rw [he]
  rfl
theorem lenEn (l : List En) : ∀ r, r ∈ l.map encEn → r.length = 9 := by
  intro r hr
  obtain ⟨x, _, rfl⟩ := List.mem_map.1 hr
  obtain ⟨typ, key, id, by_, k, n, t, KX, IX, _, e⟩ := EnRow.of x
  rw [e]
  rfl
set_option maxRecDepth 100000 in
theorem shapeK (k : Int) (key : ByteArray) : keyShape tau 109 (kP k key) = true := by cbv
theorem allE_of {p : ME → Prop} : ∀ (es : List ME), (∀ e, e ∈ es → p e) → allE es p
  | [], _ => trivial
  | e :: es, h => ⟨h e (by simp), allE_of es (fun x hx => h x (by simp [hx]))⟩
theorem allE_m {p : ME → Prop} (es : List ME) : (∀ e, e ∈ es → p e) → (match es, p with
  | [], _ => True
  | e :: r, p => p e ∧ allE r p) := by
  intro h
  have := allE_of es h
  cases es with
  | nil => trivial
  | cons e r => exact this
/-- An entry of the map is there. -/
structure Fnd (l : List En) (i : Int) (es : List ME) (b : Nat) (k : Int) (key : ByteArray) (rk a : Int) : Prop where
  mem : (⟨b, kP k key, vP rk a⟩ : ME) ∈ es
  look : LookR es (kP k key) (some ⟨b, kP k key, vP rk a⟩)
  best : IsBest l i.toNat k key rk a
structure NoE (es : List ME) (k : Int) (key : ByteArray) : Prop where
  out : ∀ e, e ∈ es → e.key ≠ kP k key
structure Shp (es : List ME) (k : Int) (key : ByteArray) : Prop where
  out : keyShape tau 109 (kP k key) = true ∧ ∀ e, e ∈ es → keyShape tau 109 e.key = true
theorem Best.shp {l : List En} {i : Int} {es : List ME} {clk : Nat} (h : Best l i es clk) (k : Int) (key : ByteArray) : Shp es k key :=
  ⟨shapeK k key, fun e he => by obtain ⟨_, k', key', _, _, h1, _⟩ := h.form e he; rw [h1]; exact shapeK k' key'⟩
theorem Best.fnd {l : List En} {i : Int} {es : List ME} {clk : Nat} (h : Best l i es clk) {e : ME} (he : e ∈ es) : ∃ b k key rk a, e = ⟨b, kP k key, vP rk a⟩ ∧ Fnd l i es b k key rk a := by
  obtain ⟨_, k, key, rk, a, h1, h2, h3⟩ := h.form e he
  obtain ⟨b, kk, vv⟩ := e
  simp only at h1 h2
  subst h1 h2
  exact ⟨b, k, key, rk, a, rfl, he, ⟨he, rfl, fun e' he' hk => h.uniqK _ _ he' he hk⟩, h3⟩
theorem Best.seek {l : List En} {i : Int} {es : List ME} {clk : Nat} (h : Best l i es clk) (k : Int) (key : ByteArray) : (∃ b rk a, Fnd l i es b k key rk a) ∨ NoE es k key := by
  by_cases hx : ∃ e, e ∈ es ∧ e.key = kP k key
  · obtain ⟨e, he, hk⟩ := hx
    obtain ⟨b, k', key', rk, a, rfl, hf⟩ := h.fnd he
    obtain ⟨rfl, rfl⟩ := kP_inj hk
    exact .inl ⟨b, rk, a, hf⟩
  · exact .inr ⟨fun e he hk => hx ⟨e, he, hk⟩⟩
/-- An entry of the state that an entry of the map names. -/
structure Nam (l : List En) (X : List (List PV)) (a : Int) (x : En) : Prop where
  req : 0 ≤ a ∧ a.toNat < X.length
  at_ : l[a.toNat]? = some x
theorem Fnd.nam {l : List En} {i : Int} {es : List ME} {b : Nat} {k : Int} {key : ByteArray} {rk a : Int} (h : Fnd l i es b k key rk a) {X : List (List PV)} (hX : l.map encEn = X) : ∃ x, Nam l X a x := by
  obtain ⟨x, hx, _, _⟩ := h.best.one
  have hlt := (List.getElem?_eq_some_iff.1 hx).1
  have h0 := h.best.lo
  refine ⟨x, ⟨h0, ?_⟩, hx⟩
  rw [← hX, List.length_map]
  omega
theorem OfR.row (r : Rl) : ∃ a b c d e, r = ⟨a, b, c, d, e⟩ := ⟨_, _, _, _, _, rfl⟩
/-- The rules that were told, as rows. -/
structure OutR (l : List En) (room : ByteArray) (es : List ME) (seen : List Nat) (O : List (List PV)) : Prop where
  out : ∃ o, Out l room es seen o ∧ o.map encR = O
set_option maxRecDepth 100000 in
set_option maxHeartbeats 8000000 in
theorem extract_ac {G : World → Prop} (hst : Stable G) (hV : ValidC G) (hC : CheckC G) (hS : SortC G) (h0 : SortNilC G) (l : List En) (X : List (List PV)) (hX : l.map encEn = X) (hl : l.length ≤ 1000000) (hbig : ∀ x, x ∈ l → x.body.size ≤ 1000000 ∧ okB x.body = true)
    (c1 c2 c3 : ByteArray) (MX UX VX : List (List PV)) (n1 n2 n3 n4 n5 n6 n7 : Int) (room : ByteArray) (Z : List (List PV)) (hZ : Is Z (fun _ => (extractR l room).map encR)) :
    ACalls G Tryz.prog 16 [.agg [.lit (.string c1), .lit (.string c2), .sl MX, .sl UX, .sl VX, .lit (.int .i64 n1), .lit (.int .i64 n2), .lit (.int .i64 n3), .lit (.int .i64 n4), .lit (.int .i64 n5), .lit (.int .i64 n6), .lit (.int .i64 n7), .lit (.string c3), .sl X], .lit (.string room)] (.sl Z) none := by
  have hXl : X.length = l.length := by rw [← hX]; simp
  refine acalls_fn hst mixed tau_ok Tryz.func16 (by kernel_rfl) (by kernel_rfl) (by kernel_rfl) ?_
  intro Q hQ
  cbv
  intro m1 h1
  cbv
  refine Or.inr ⟨[1, 2, 5, 21, 22], [560002, 20019], Int × List ME × Nat, fun p => [(.t 23, ⟨.pv (.lit (.int .i64 p.1)), none, none⟩), (.b 20019 0, ⟨.ents p.2.1 p.2.2, none, none⟩)], fun p => Best l p.1 p.2.1 p.2.2, fun p => X.length - p.1.toNat, (0, [], 0), Best.zero l, ?_, ?_⟩
  · cbv
    simp
  · intro ⟨i, es, clk⟩ hp
    have hp : Best l i es clk := hp
    cbv
    intro b1 h2
    cbv
    cases b1
    · cbv
      have hend : i.toNat = l.length := by have e1 := h1.len; have e2 := h2.no; have e3 := hp.hi; have e4 := hp.lo; omega
      refine Or.inr ⟨[1, 2, 62], [560002, 20019, 20062], List Nat × List (List PV), fun p => [(.b 20062 0, ⟨.iter 20019 clk p.1, none, none⟩), (.t 14, ⟨.pv (.sl p.2), some (36, 5), none⟩)], fun p => OutR l room es p.1 p.2, fun p => left es p.1, ([], []), (show OutR l room es [] [] from ⟨[], Out.zero l room es, rfl⟩), ?_, ?_⟩
      · cbv
        simp
      · intro ⟨seen, O⟩ ho
        have ho : OutR l room es seen O := ho
        cbv
        refine ⟨⟨rfl⟩, fun hov => ?_, allE_m es (fun e he hf => ?_)⟩
        · obtain ⟨o, ho1, ho2⟩ := ho.out
          have hol : o.length ≤ 1000000 := by have e1 := ho1.len; have e2 := hp.len; omega
          have hfin : Is Z (fun _ => (sortU o).map encR) := ⟨by rw [hZ.out, ho1.done hp hend (fun b hb => hov.out b hb)]⟩
          clear hov
          cbv
          refine Or.inl ⟨_, _, hQ _ _ _ _ (sortAny_ac hst hS h0 o O ho2 hol Z hfin), ?_⟩
          cbv
          try exact ⟨rfl, trivial⟩
        · obtain ⟨b, k, key, rk, a, rfl, hb⟩ := hp.fnd he
          obtain ⟨x, hx⟩ := hb.nam hX
          cbv
          refine ⟨⟨rfl⟩, ⟨b, kP k key, vP rk a⟩, ⟨hb.mem, rfl⟩, ?_⟩
          cbv
          refine ⟨⟨hx.req⟩, ?_⟩
          intro r hr
          obtain ⟨x', hx', rfl⟩ := hr.row hX
          have ex : x' = x := by have := hx.at_; rw [hx'] at this; cases this; rfl
          subst ex
          obtain ⟨typ, key', id, by_, k', n, t, KX, IX, hE, hee⟩ := EnRow.of x'
          rw [hee]
          cbv
          obtain ⟨ru, d, hru⟩ := OfR.of typ key' x'.body room
          refine Or.inl ⟨_, _, hQ _ _ _ _ (of_ac hst hV hC typ key' id by_ x'.body k' n t KX IX (hbig x' (List.mem_of_getElem? hx')).1 (hbig x' (List.mem_of_getElem? hx')).2 hE.hJ room ru d hru), ?_⟩
          obtain ⟨r1, r2, r3, r4, r5⟩ := ru
          cbv
          cases d
          · cbv
            refine ⟨(b :: seen, O), ?_, ?_, ?_⟩
            · obtain ⟨o, ho1, ho2⟩ := ho.out
              refine ⟨o, ho1.not hp hb.mem hf.out rfl rfl hx' ?_, ho2⟩
              rcases hru.out with ⟨h, _⟩ | ⟨_, h, _⟩
              · cases h
              · rw [hE.h1, hE.h2]; exact h
            · exact left_lt es seen _ hb.mem hf.out
            · cbv
              simp
          · cbv
            have hOl : O.length ≤ 1000000 ∧ ∀ r, r ∈ O → r.length = 5 := by
              obtain ⟨o, ho1, ho2⟩ := ho.out
              have e1 := ho1.len
              have e2 := hp.len
              rw [← ho2]
              refine ⟨by rw [List.length_map]; omega, lenR o⟩
            refine ⟨⟨by have := hOl.1; simp; omega, fun r hr => hOl.2 r hr, fun r hr => ?_⟩, ?_⟩
            · simp at hr; subst hr; rfl
            · intro Y' hY'
              cbv
              refine ⟨(b :: seen, Y'), ?_, ?_, ?_⟩
              · obtain ⟨o, ho1, ho2⟩ := ho.out
                refine ⟨o ++ [⟨r1, r2, r3, r4, r5⟩], ho1.told hp hb.mem hf.out rfl rfl hb.best.lo hx' ?_, ?_⟩
                · rcases hru.out with ⟨_, h⟩ | ⟨h, _⟩
                  · rw [hE.h1, hE.h2]; exact h
                  · cases h
                · rw [hY'.out, List.map_append, ho2]
                  rfl
              · exact left_lt es seen _ hb.mem hf.out
              · cbv
                simp
    · cbv
      refine ⟨h1.atL hp.lo h2.yes, ?_⟩
      intro r hr
      obtain ⟨x, hx, rfl⟩ := hr.row hX
      obtain ⟨typ, key, id, by_, k, n, t, KX, IX, hE, he⟩ := EnRow.of x
      rw [he]
      cbv
      obtain ⟨kd, rk, d, hk⟩ := KindR.of typ
      refine Or.inl ⟨_, _, hQ _ _ _ _ (kindOf_ac hst typ kd rk d hk), ?_⟩
      cbv
      intro b2 h3
      cbv
      cases d
      · have e : b2 = true := by have := h3.out; simpa using this
        subst e
        cbv
        intro i' hi'
        cbv
        have e1 := h1.len
        have e2 := h2.yes
        have e4 := hi'.add1 (by have := hp.lo; omega) (by omega)
        have hkn : kindOf x.typ = none := by
          rcases hk.out with ⟨h, _⟩ | ⟨_, h, _⟩
          · cases h
          · rw [hE.h1]; exact h
        refine ⟨(i', es, clk), hp.skip hx hkn e4, ?_, ?_⟩
        · show X.length - i'.toNat < X.length - i.toNat
          have := hp.lo
          omega
        · cbv
          simp
      · have e : b2 = false := by have := h3.out; simpa using this
        subst e
        cbv
        have hkn : KindR x.typ kd rk true := hE.h1 ▸ hk
        refine ⟨⟨(hp.shp kd key).out⟩, ?_⟩
        rcases hp.seek kd key with ⟨b0, rk0, a0, hf⟩ | hno
        · refine ⟨some ⟨b0, kP kd key, vP rk0 a0⟩, ⟨hf.look⟩, ?_⟩
          cbv
          intro b5 h5
          have e5 : b5 = false := by have := h5.out; simpa using this
          subst e5
          cbv
          intro b6 h6
          cbv
          cases b6
          · cbv
            intro i' hi'
            cbv
            have e1 := h1.len
            have e2 := h2.yes
            have e4 := hi'.add1 (by have := hp.lo; omega) (by omega)
            refine ⟨(i', es, clk), ?_, ?_, ?_⟩
            · rcases hkn.out with ⟨_, h⟩ | ⟨h, _⟩
              · exact hp.keep hx h hf.mem (hE.h2 ▸ rfl) rfl h6.no e4
              · cases h
            · show X.length - i'.toNat < X.length - i.toNat
              have := hp.lo
              omega
            · cbv
              simp
          · cbv
            refine ⟨⟨(hp.shp kd key).out⟩, ?_⟩
            refine ⟨some ⟨b0, kP kd key, vP rk0 a0⟩, ⟨hf.look⟩, ?_⟩
            cbv
            intro es' hes
            cbv
            intro i' hi'
            cbv
            have e1 := h1.len
            have e2 := h2.yes
            have e4 := hi'.add1 (by have := hp.lo; omega) (by omega)
            refine ⟨(i', es', clk), ?_, ?_, ?_⟩
            · rcases hkn.out with ⟨_, h⟩ | ⟨h, _⟩
              · have := hp.set hx h hf.mem (hE.h2 ▸ rfl) rfl h6.yes e4
                rw [hes.out]
                exact this
              · cases h
            · show X.length - i'.toNat < X.length - i.toNat
              have := hp.lo
              omega
            · cbv
              simp
        · refine ⟨none, ⟨hno.out⟩, ?_⟩
          cbv
          intro b5 h5
          have e5 : b5 = true := by have := h5.out; simpa using this
          subst e5
          cbv
          refine ⟨⟨(hp.shp kd key).out⟩, ?_⟩
          refine ⟨none, ⟨hno.out⟩, ?_⟩
          cbv
          intro es' hes clk' hclk
          cbv
          intro i' hi'
          cbv
          have e1 := h1.len
          have e2 := h2.yes
          have e4 := hi'.add1 (by have := hp.lo; omega) (by omega)
          refine ⟨(i', es', clk'), ?_, ?_, ?_⟩
          · rcases hkn.out with ⟨_, h⟩ | ⟨h, _⟩
            · have := hp.new hx h (fun e he => hE.h2 ▸ hno.out e he) e4
              rw [hE.h2] at this
              rw [hes.out, hclk.out]
              exact this
            · cases h
          · show X.length - i'.toNat < X.length - i.toNat
            have := hp.lo
            omega
          · cbv
            simp
end Go.Proofs.YtkppcahnbifkgaaGreatDoor.B

set_option linter.unusedVariables false
set_option linter.unusedSimpArgs false
namespace Go.Proofs.YtkppcahnbifkgaaGreatDoor.B
open Go.RowKit
set_option maxRecDepth 100000 in
set_option maxHeartbeats 2000000 in
theorem ownR_ac {G : World → Prop} (hst : Stable G) (X : List (List PV)) (hX : ∀ r, r ∈ X → r.length = 5) (hl : X.length ≤ 1000000) :
    ACalls G Tryz.prog 26 [.sl X] (.sl X) (some (36, 5)) := by
  refine acalls_fn hst mixed tau_ok Tryz.func26 (by kernel_rfl) (by kernel_rfl) (by kernel_rfl) ?_
  intro Q hQ
  cbv
  refine ⟨⟨by simp only [List.length_nil]; omega, fun r hr => by simp at hr, hX⟩, ?_⟩
  intro M hM
  obtain rfl : M = X := hM.out
  cbv
  try first | exact ⟨rfl, trivial⟩ | exact Or.inr trivial | exact Or.inl rfl
/-- So far the same. -/
structure SameAt (a b : List Rl) (k : Int) : Prop where
  lo : 0 ≤ k
  hi : k ≤ a.length
  all : a.take k.toNat = b.take k.toNat
theorem SameAt.next {a b : List Rl} {k : Int} (h : SameAt a b k) {x y : Rl} (hx : a[k.toNat]? = some x) (hy : b[k.toNat]? = some y) (e : x = y) {k' : Int} (hk : k' = k + 1) : SameAt a b k' := by
  have h0 := h.lo
  have hlt := (List.getElem?_eq_some_iff.1 hx).1
  refine ⟨by omega, by omega, ?_⟩
  rw [hk, show (k + 1).toNat = k.toNat + 1 by omega, List.take_add_one, List.take_add_one, h.all, hx, hy, e]
set_option maxRecDepth 100000 in
set_option maxHeartbeats 4000000 in
theorem sameR_ac {G : World → Prop} (hst : Stable G) (a b : List Rl) (X Y : List (List PV)) (hX : a.map encR = X) (hY : b.map encR = Y) (hl : a.length ≤ 1000000) (c : Bool) (hc : Is c (fun _ => decide (a = b))) :
    ACalls G Tryz.prog 27 [.sl X, .sl Y] (.lit (.bool c)) none := by
  have hXl : X.length = a.length := by rw [← hX]; simp
  have hYl : Y.length = b.length := by rw [← hY]; simp
  refine acalls_fn hst mixed tau_ok Tryz.func27 (by kernel_rfl) (by kernel_rfl) (by kernel_rfl) ?_
  intro Q hQ
  cbv
  intro m1 h1
  cbv
  intro m2 h2
  cbv
  intro b1 h3
  cbv
  cases b1
  · cbv
    have hlen : a.length = b.length := by
      have e1 := h1.len
      have e2 := h2.len
      have e3 := Decidable.not_not.1 h3.no
      omega
    refine Or.inr ⟨[0, 1], [], Int, fun k => [(.t 5, ⟨.pv (.lit (.int .i64 k)), none, none⟩)], SameAt a b, fun k => X.length - k.toNat, 0, (show SameAt a b 0 from ⟨by omega, by omega, by simp⟩), ?_, ?_⟩
    · cbv
      simp
    · intro k hk
      have hk : SameAt a b k := hk
      cbv
      intro m3 h4
      cbv
      intro b2 h5
      cbv
      cases b2
      · cbv
        refine litB ?_
        have e1 := h4.len
        have e2 := h5.no
        have e3 := hk.all
        rw [List.take_of_length_le (by omega), List.take_of_length_le (by omega)] at e3
        rw [hc.out]
        exact (decide_eq_true e3).symm
      · cbv
        refine ⟨h4.atL hk.lo h5.yes, ?_⟩
        intro r hr
        obtain ⟨x, hx, rfl⟩ := hr.row hX
        obtain ⟨x1, x2, x3, x4, x5⟩ := x
        cbv
        refine ⟨⟨hk.lo, by have e1 := h4.len; have e2 := h5.yes; have := hk.lo; omega⟩, ?_⟩
        intro r hr
        obtain ⟨y, hy, rfl⟩ := hr.row hY
        obtain ⟨y1, y2, y3, y4, y5⟩ := y
        cbv
        intro b3 h6
        cbv
        have hq : b3 = decide ((⟨x1, x2, x3, x4, x5⟩ : Rl) ≠ ⟨y1, y2, y3, y4, y5⟩) := h6.out.trans (neR ⟨x1, x2, x3, x4, x5⟩ ⟨y1, y2, y3, y4, y5⟩)
        cases b3
        · cbv
          intro k' hk'
          cbv
          have e1 := h4.len
          have e2 := h5.yes
          have e4 := hk'.add1 (by have := hk.lo; omega) (by omega)
          refine ⟨k', ?_, ?_, ?_⟩
          · exact hk.next hx hy (Decidable.not_not.1 (of_decide_eq_false hq.symm)) e4
          · show X.length - k'.toNat < X.length - k.toNat
            have := hk.lo
            omega
          · cbv
            simp
        · cbv
          refine litB ?_
          rw [hc.out]
          refine (decide_eq_false (fun e => ?_)).symm
          rw [e] at hx
          rw [hx] at hy
          cases hy
          exact of_decide_eq_true hq.symm rfl
  · cbv
    refine litB ?_
    have e1 := h1.len
    have e2 := h2.len
    have e3 := h3.yes
    rw [hc.out]
    refine (decide_eq_false (fun e => ?_)).symm
    subst e
    omega
def smallR (r : Rl) : Prop := r.entity.size ≤ 300 ∧ r.reason.size ≤ 300 ∧ r.room.size ≤ 300 ∧ r.key.size ≤ 300
structure LightR (l : List Rl) : Prop where
  len : l.length ≤ 40
  all : ∀ (i : Nat) (x : Rl), l[i]? = some x → smallR x
structure LightAt (l : List Rl) (k : Int) : Prop where
  lo : 0 ≤ k
  hi : k ≤ l.length
  all : ∀ (i : Nat) (x : Rl), i < k.toNat → l[i]? = some x → smallR x
theorem LightAt.next {l : List Rl} {k : Int} (h : LightAt l k) {x : Rl} (hx : l[k.toNat]? = some x) (hs : smallR x) {k' : Int} (hk : k' = k + 1) : LightAt l k' := by
  have h0 := h.lo
  have hlt := (List.getElem?_eq_some_iff.1 hx).1
  refine ⟨by omega, by omega, fun i y hi hy => ?_⟩
  by_cases e : i < k.toNat
  · exact h.all i y e hy
  · have : i = k.toNat := by omega
    subst this
    rw [hx] at hy
    cases hy
    exact hs
theorem dec_no {c : Bool} {p : Prop} (hc : c = true ↔ p) (h : ¬ p) : false = c := by
  cases c with
  | false => rfl
  | true => exact absurd (hc.1 rfl) h
set_option maxRecDepth 100000 in
set_option maxHeartbeats 4000000 in
theorem lightR_ac {G : World → Prop} (hst : Stable G) (l : List Rl) (X : List (List PV)) (hX : l.map encR = X) (hl : l.length ≤ 9223372036854775807) (c : Bool) (hc : c = true ↔ LightR l) :
    ACalls G Tryz.prog 24 [.sl X, .lit (.int .i64 40)] (.lit (.bool c)) none := by
  have hXl : X.length = l.length := by rw [← hX]; simp
  refine acalls_fn hst mixed tau_ok Tryz.func24 (by kernel_rfl) (by kernel_rfl) (by kernel_rfl) ?_
  intro Q hQ
  cbv
  refine Or.inr ⟨[0, 1], [], Int, fun k => [(.t 5, ⟨.pv (.lit (.int .i64 k)), none, none⟩)], LightAt l, fun k => X.length - k.toNat, 0, (show LightAt l 0 from ⟨by omega, by omega, by simp⟩), ?_, ?_⟩
  · cbv
    simp
  · intro k hk
    have hk : LightAt l k := hk
    cbv
    intro m1 h1
    cbv
    intro b1 h2
    cbv
    cases b1
    · cbv
      intro m2 h3
      cbv
      intro b2 h4
      cbv
      refine litB ?_
      have e1 := h1.len
      have e2 := h2.no
      have e3 := h3.len
      have e4 := hk.all
      have e5 := hk.hi
      have e6 := is_b.1 h4
      cases b2
      · refine dec_no hc (fun q => ?_)
        have := e6.2 (by have := q.len; omega)
        cases this
      · exact (hc.2 ⟨by have := e6.1 rfl; omega, fun i x hx => e4 i x (by have := (List.getElem?_eq_some_iff.1 hx).1; omega) hx⟩).symm
    · cbv
      refine ⟨h1.atL hk.lo h2.yes, ?_⟩
      intro r hr
      obtain ⟨x, hx, rfl⟩ := hr.row hX
      obtain ⟨x1, x2, x3, x4, x5⟩ := x
      cbv
      intro s1 g1
      cbv
      intro c1 j1
      cbv
      have bad : (¬ smallR ⟨x1, x2, x3, x4, x5⟩) → false = c := fun h => dec_no hc (fun q => h (q.all _ _ hx))
      cases c1
      rotate_left
      · cbv
        refine litB (bad (fun q => ?_))
        have e1 := g1.len
        have e2 := j1.yes
        have e3 := q.1
        simp only at e3
        omega
      cbv
      refine ⟨⟨hk.lo, by have e1 := h1.len; have e2 := h2.yes; have := hk.lo; omega⟩, ?_⟩
      intro r hr
      obtain ⟨y, hy, rfl⟩ := hr.row hX
      obtain rfl : y = ⟨x1, x2, x3, x4, x5⟩ := by rw [hx] at hy; cases hy; rfl
      cbv
      intro s2 g2
      cbv
      intro c2 j2
      cbv
      cases c2
      rotate_left
      · cbv
        refine litB (bad (fun q => ?_))
        have e1 := g2.len
        have e2 := j2.yes
        have e3 := q.2.1
        simp only at e3
        omega
      cbv
      refine ⟨⟨hk.lo, by have e1 := h1.len; have e2 := h2.yes; have := hk.lo; omega⟩, ?_⟩
      intro r hr
      obtain ⟨y, hy, rfl⟩ := hr.row hX
      obtain rfl : y = ⟨x1, x2, x3, x4, x5⟩ := by rw [hx] at hy; cases hy; rfl
      cbv
      intro s3 g3
      cbv
      intro c3 j3
      cbv
      cases c3
      rotate_left
      · cbv
        refine litB (bad (fun q => ?_))
        have e1 := g3.len
        have e2 := j3.yes
        have e3 := q.2.2.1
        simp only at e3
        omega
      cbv
      refine ⟨⟨hk.lo, by have e1 := h1.len; have e2 := h2.yes; have := hk.lo; omega⟩, ?_⟩
      intro r hr
      obtain ⟨y, hy, rfl⟩ := hr.row hX
      obtain rfl : y = ⟨x1, x2, x3, x4, x5⟩ := by rw [hx] at hy; cases hy; rfl
      cbv
      intro s4 g4
      cbv
      intro c4 j4
      cbv
      cases c4
      rotate_left
      · cbv
        refine litB (bad (fun q => ?_))
        have e1 := g4.len
        have e2 := j4.yes
        have e3 := q.2.2.2
        simp only at e3
        omega
      cbv
      intro k' hk'
      cbv
      have e1 := h1.len
      have e2 := h2.yes
      have e4 := hk'.i64 (by have := hk.lo; omega) (by omega)
      refine ⟨k', ?_, ?_, ?_⟩
      · refine hk.next hx ⟨?_, ?_, ?_, ?_⟩ e4
        · have := g1.len; have := j1.no; simp only; omega
        · have := g2.len; have := j2.no; simp only; omega
        · have := g3.len; have := j3.no; simp only; omega
        · have := g4.len; have := j4.no; simp only; omega
      · show X.length - k'.toNat < X.length - k.toNat
        have := hk.lo
        omega
      · cbv
        simp
/-- A number from 0 on, below another. -/
def pickI (n m : Int) : Int := if m < 1 then 0 else if n.tmod m < 0 then n.tmod m + m else n.tmod m
theorem pickI_lt {n m : Int} (hm : 1 ≤ m) : 0 ≤ pickI n m ∧ pickI n m < m := by
  unfold pickI
  have h1 := Int.tmod_lt_of_pos n (show 0 < m by omega)
  have h2 : -m < n.tmod m := by
    have := Int.neg_tmod n m
    have h3 := Int.tmod_lt_of_pos (-n) (show 0 < m by omega)
    omega
  rw [if_neg (by omega)]
  split <;> omega
set_option maxRecDepth 100000 in
set_option maxHeartbeats 4000000 in
theorem pick_ac {G : World → Prop} (hst : Stable G) (n m r : Int) (hm : m ≤ 4611686018427387904) (hr : Is r (fun _ => pickI n m)) :
    ACalls G Tryz.prog 21 [.lit (.int .i64 n), .lit (.int .i64 m)] (.lit (.int .i64 r)) none := by
  refine acalls_fn hst mixed tau_ok Tryz.func21 (by kernel_rfl) (by kernel_rfl) (by kernel_rfl) ?_
  intro Q hQ
  cbv
  intro b1 h1
  cbv
  cases b1
  · cbv
    refine ⟨⟨by have := h1.no; omega⟩, ?_⟩
    intro q hq
    cbv
    intro b2 h2
    cbv
    have e1 := h1.no
    have e2 := hq.out
    cases b2
    · cbv
      refine litI ?_
      have e3 := h2.no
      rw [hr.out]
      unfold pickI
      rw [if_neg e1, ← e2, if_neg e3]
    · cbv
      intro r2 h3
      cbv
      refine litI ?_
      have e3 := h2.yes
      rw [hr.out]
      have h4 : -m < n.tmod m := by
        have := Int.neg_tmod n m
        have h5 := Int.tmod_lt_of_pos (-n) (show 0 < m by omega)
        omega
      have e4 := h3.add (by omega) (by omega)
      unfold pickI
      rw [if_neg e1, ← e2, if_pos e3]
      exact e4
  · cbv
    refine litI ?_
    rw [hr.out]
    unfold pickI
    rw [if_pos h1.yes]
end Go.Proofs.YtkppcahnbifkgaaGreatDoor.B

set_option linter.unusedVariables false
set_option linter.unusedSimpArgs false
namespace Go.Proofs.YtkppcahnbifkgaaGreatDoor.B
open Go.RowKit
def textJ (s : ByteArray) : J := .mk 4 0 s [] []
/-- The body that is made of a rule. -/
def bodyJ (r : RB) : J := if r.reason = ⟨#[]⟩ then .mk 6 0 ⟨#[]⟩ [bEntity, bRecommendation] [textJ r.entity, textJ r.recommendation]
  else .mk 6 0 ⟨#[]⟩ [bEntity, bReason, bRecommendation] [textJ r.entity, textJ r.reason, textJ r.recommendation]
/-- The contract of outlawref06.RuleBody. -/
structure RuleBodyC (G : World → Prop) : Prop where
  yes : ∀ (r : RB) (k n : Int) (t : ByteArray) (KX IX : List (List PV)), ruledB r = true → JRow (bodyJ r) k n t KX IX → ACalls G Tryz.prog 23 [.agg (encRB r)] (.tup [jp k n t KX IX, .lit (.bool true)]) none
  no : ∀ (r : RB), ruledB r = false → ACalls G Tryz.prog 23 [.agg (encRB r)] (.tup [jp 0 0 ⟨#[]⟩ [] [], .lit (.bool false)]) none
/-- What the walks rest on. -/
structure Base (G : World → Prop) : Prop where
  st : Stable G
  valid : ValidC G
  check : CheckC G
  sort : SortC G
  sort0 : SortNilC G
  body : RuleBodyC G
def sSpam : ByteArray := ⟨#[115, 112, 97, 109]⟩
def sA : ByteArray := ⟨#[64, 97, 42, 58, 98]⟩
def sC : ByteArray := ⟨#[64, 99, 58, 100]⟩
def sK : ByteArray := ⟨#[107]⟩
def sRoom : ByteArray := ⟨#[33, 112, 58, 120]⟩
def sAB : ByteArray := ⟨#[64, 97, 58, 98]⟩
def sWarn : ByteArray := ⟨#[109, 46, 119, 97, 114, 110]⟩
def bodyA : J := bodyJ ⟨sA, wMban, sSpam⟩
def bodyC : J := bodyJ ⟨sC, wMban, sSpam⟩
def entA : En := ⟨bT10, sK, ⟨#[]⟩, ⟨#[]⟩, bodyA⟩
def entC : En := ⟨bT11, sK, ⟨#[]⟩, ⟨#[]⟩, bodyC⟩
def want : Rl := ⟨1, sA, sSpam, sRoom, sK⟩
theorem rulesOf_1 : rulesOf [entA] sRoom = [want] := by kernel_rfl
theorem rulesOf_2 : rulesOf [entA, entC] sRoom = [want] := by kernel_rfl
theorem sortU_1 (r : Rl) : sortU [r] = [r] := sortU_self (List.pairwise_singleton _ _)
theorem extract_1 : extractR [entA] sRoom = [want] := by unfold extractR; rw [rulesOf_1, sortU_1]
theorem extract_2 : extractR [entA, entC] sRoom = [want] := by unfold extractR; rw [rulesOf_2, sortU_1]
theorem ruled_A : ruledB ⟨sA, wMban, sSpam⟩ = true := by kernel_rfl
theorem ruled_C : ruledB ⟨sC, wMban, sSpam⟩ = true := by kernel_rfl
set_option maxRecDepth 100000 in
set_option maxHeartbeats 4000000 in
theorem body_ac {G : World → Prop} (hB : Base G) (e r : ByteArray) (k n : Int) (t : ByteArray) (KX IX : List (List PV)) (hr : ruledB ⟨e, r, sSpam⟩ = true) (hJ : JRow (bodyJ ⟨e, r, sSpam⟩) k n t KX IX) :
    ACalls G Tryz.prog 29 [.lit (.string e), .lit (.string r)] (jp k n t KX IX) none := by
  refine acalls_fn hB.st mixed tau_ok Tryz.func29 (by kernel_rfl) (by kernel_rfl) (by kernel_rfl) ?_
  intro Q hQ
  cbv
  refine Or.inl ⟨_, _, hQ _ _ _ _ (hB.body.yes ⟨e, r, sSpam⟩ k n t KX IX hr hJ), ?_⟩
  cbv
  try exact ⟨rfl, trivial⟩
set_option maxRecDepth 100000 in
set_option maxHeartbeats 4000000 in
theorem two_ac {G : World → Prop} (hB : Base G) (X : List (List PV)) (hX : Is X (fun _ => [entA, entC].map encEn)) :
    ACalls G Tryz.prog 28 [] (.sl X) none := by
  refine acalls_fn hB.st mixed tau_ok Tryz.func28 (by kernel_rfl) (by kernel_rfl) (by kernel_rfl) ?_
  intro Q hQ
  cbv
  obtain ⟨k, n, t, KX, IX, hJ, he⟩ := JRow.of bodyA
  refine Or.inl ⟨_, _, hQ _ _ _ _ (body_ac hB sA wMban k n t KX IX ruled_A hJ), ?_⟩
  cbv
  obtain ⟨k', n', t', KX', IX', hJ', he'⟩ := JRow.of bodyC
  refine Or.inl ⟨_, _, hQ _ _ _ _ (body_ac hB sC wMban k' n' t' KX' IX' ruled_C hJ'), ?_⟩
  cbv
  have e : X = [[.lit (.string bT10), .lit (.string sK), .lit (.string ⟨#[]⟩), .lit (.string ⟨#[]⟩), .lit (.int .i64 k), .lit (.int .i64 n), .lit (.string t), .sl KX, .sl IX],
      [.lit (.string bT11), .lit (.string sK), .lit (.string ⟨#[]⟩), .lit (.string ⟨#[]⟩), .lit (.int .i64 k'), .lit (.int .i64 n'), .lit (.string t'), .sl KX', .sl IX']] := by
    rw [hX.out]
    show [encEn entA, encEn entC] = _
    unfold encEn
    show [_ ++ encJ bodyA, _ ++ encJ bodyC] = _
    rw [he, he']
    rfl
  subst e
  try exact ⟨rfl, trivial⟩
set_option maxRecDepth 100000 in
set_option maxHeartbeats 4000000 in
theorem lives_ac {G : World → Prop} (hB : Base G) : ACalls G Tryz.prog 14 [] (.lit (.bool true)) none := by
  refine acalls_fn hB.st mixed tau_ok Tryz.func14 (by kernel_rfl) (by kernel_rfl) (by kernel_rfl) ?_
  intro Q hQ
  cbv
  obtain ⟨X, hX⟩ : ∃ X, Is X (fun _ => [entA, entC].map encEn) := ⟨_, ⟨rfl⟩⟩
  refine Or.inl ⟨_, _, hQ _ _ _ _ (two_ac hB X hX), ?_⟩
  cbv
  have hXl : X.length = 2 := by rw [hX.out]; rfl
  have hX9 : ∀ r, r ∈ X → r.length = 9 := by rw [hX.out]; exact lenEn _
  have hq : 0 ≤ (1 : Int) ∧ (1 : Int) ≤ (X.length : Int) ∧ ∀ r, r ∈ X → r.length = 9 := ⟨by omega, by omega, hX9⟩
  refine ⟨⟨hq⟩, ?_⟩
  intro Y hY
  have hY1 : [entA].map encEn = Y := by rw [hY.out, hX.out]; rfl
  cbv
  have hs1 : ∀ (x : En), x ∈ [entA] → x.body.size ≤ 1000000 ∧ okB x.body = true := by
    intro x hx
    obtain rfl : x = entA := by simpa using hx
    exact ⟨of_decide_eq_true (by kernel_rfl), by kernel_rfl⟩
  obtain ⟨W, hW⟩ : ∃ W, Is W (fun _ => [want].map encR) := ⟨_, ⟨rfl⟩⟩
  refine Or.inl ⟨_, _, hQ _ _ _ _ (extract_ac hB.st hB.valid hB.check hB.sort hB.sort0 [entA] Y hY1 (by simp) hs1 ⟨#[]⟩ ⟨#[]⟩ ⟨#[]⟩ [] [] [] 0 0 0 0 0 0 0 sRoom W ⟨by rw [hW.out, extract_1]⟩), ?_⟩
  cbv
  obtain ⟨X2, hX2⟩ : ∃ X, Is X (fun _ => [entA, entC].map encEn) := ⟨_, ⟨rfl⟩⟩
  refine Or.inl ⟨_, _, hQ _ _ _ _ (two_ac hB X2 hX2), ?_⟩
  cbv
  have hs2 : ∀ (x : En), x ∈ [entA, entC] → x.body.size ≤ 1000000 ∧ okB x.body = true := by
    intro x hx
    have hx' : x = entA ∨ x = entC := by simpa using hx
    rcases hx' with rfl | rfl
    · exact ⟨of_decide_eq_true (by kernel_rfl), by kernel_rfl⟩
    · exact ⟨of_decide_eq_true (by kernel_rfl), by kernel_rfl⟩
  refine Or.inl ⟨_, _, hQ _ _ _ _ (extract_ac hB.st hB.valid hB.check hB.sort hB.sort0 [entA, entC] X2 hX2.out.symm (by simp) hs2 ⟨#[]⟩ ⟨#[]⟩ ⟨#[]⟩ [] [] [] 0 0 0 0 0 0 0 sRoom W ⟨by rw [hW.out, extract_2]⟩), ?_⟩
  cbv
  have hw : [want].map encR = [encR want] := rfl
  refine Or.inl ⟨_, _, hQ _ _ _ _ (sameR_ac hB.st [want] [want] W [encR want] hW.out.symm rfl (by simp) true ⟨by simp⟩), ?_⟩
  cbv
  refine Or.inl ⟨_, _, hQ _ _ _ _ (sameR_ac hB.st [want] [want] W [encR want] hW.out.symm rfl (by simp) true ⟨by simp⟩), ?_⟩
  cbv
  done
end Go.Proofs.YtkppcahnbifkgaaGreatDoor.B
