/-
rules.Types, KindOf, Of; walked. Conditions: json.Check's contract, scan.Valid's.
-/
import Derived.Test.YtbjfmkmaghapgaaGreatDoorBFun5
import Derived.Test.YtbjfmkmaghapgaaGreatDoorBSort
set_option linter.unusedVariables false
set_option linter.unusedSimpArgs false
namespace Go.Proofs.YtbjfmkmaghapgaaGreatDoor.B
open Go.RowKit
def bT10 : ByteArray := ⟨#[109, 46, 112, 111, 108, 105, 99, 121, 46, 114, 117, 108, 101, 46, 117, 115, 101, 114]⟩
def bT11 : ByteArray := ⟨#[109, 46, 114, 111, 111, 109, 46, 114, 117, 108, 101, 46, 117, 115, 101, 114]⟩
def bT12 : ByteArray := ⟨#[111, 114, 103, 46, 109, 97, 116, 114, 105, 120, 46, 109, 106, 111, 108, 110, 105, 114, 46, 114, 117, 108, 101, 46, 117, 115, 101, 114]⟩
def bT20 : ByteArray := ⟨#[109, 46, 112, 111, 108, 105, 99, 121, 46, 114, 117, 108, 101, 46, 114, 111, 111, 109]⟩
def bT21 : ByteArray := ⟨#[109, 46, 114, 111, 111, 109, 46, 114, 117, 108, 101, 46, 114, 111, 111, 109]⟩
def bT22 : ByteArray := ⟨#[111, 114, 103, 46, 109, 97, 116, 114, 105, 120, 46, 109, 106, 111, 108, 110, 105, 114, 46, 114, 117, 108, 101, 46, 114, 111, 111, 109]⟩
def bT30 : ByteArray := ⟨#[109, 46, 112, 111, 108, 105, 99, 121, 46, 114, 117, 108, 101, 46, 115, 101, 114, 118, 101, 114]⟩
def bT31 : ByteArray := ⟨#[109, 46, 114, 111, 111, 109, 46, 114, 117, 108, 101, 46, 115, 101, 114, 118, 101, 114]⟩
def bT32 : ByteArray := ⟨#[111, 114, 103, 46, 109, 97, 116, 114, 105, 120, 46, 109, 106, 111, 108, 110, 105, 114, 46, 114, 117, 108, 101, 46, 115, 101, 114, 118, 101, 114]⟩
def typesOf (k : Int) : List ByteArray := if k = 1 then [bT10, bT11, bT12] else if k = 2 then [bT20, bT21, bT22] else if k = 3 then [bT30, bT31, bT32] else []
def tX1 : List (List PV) := [[.lit (.string ⟨#[109, 46, 112, 111, 108, 105, 99, 121, 46, 114, 117, 108, 101, 46, 117, 115, 101, 114]⟩)], [.lit (.string ⟨#[109, 46, 114, 111, 111, 109, 46, 114, 117, 108, 101, 46, 117, 115, 101, 114]⟩)], [.lit (.string ⟨#[111, 114, 103, 46, 109, 97, 116, 114, 105, 120, 46, 109, 106, 111, 108, 110, 105, 114, 46, 114, 117, 108, 101, 46, 117, 115, 101, 114]⟩)]]
def tX2 : List (List PV) := [[.lit (.string ⟨#[109, 46, 112, 111, 108, 105, 99, 121, 46, 114, 117, 108, 101, 46, 114, 111, 111, 109]⟩)], [.lit (.string ⟨#[109, 46, 114, 111, 111, 109, 46, 114, 117, 108, 101, 46, 114, 111, 111, 109]⟩)], [.lit (.string ⟨#[111, 114, 103, 46, 109, 97, 116, 114, 105, 120, 46, 109, 106, 111, 108, 110, 105, 114, 46, 114, 117, 108, 101, 46, 114, 111, 111, 109]⟩)]]
def tX3 : List (List PV) := [[.lit (.string ⟨#[109, 46, 112, 111, 108, 105, 99, 121, 46, 114, 117, 108, 101, 46, 115, 101, 114, 118, 101, 114]⟩)], [.lit (.string ⟨#[109, 46, 114, 111, 111, 109, 46, 114, 117, 108, 101, 46, 115, 101, 114, 118, 101, 114]⟩)], [.lit (.string ⟨#[111, 114, 103, 46, 109, 97, 116, 114, 105, 120, 46, 109, 106, 111, 108, 110, 105, 114, 46, 114, 117, 108, 101, 46, 115, 101, 114, 118, 101, 114]⟩)]]
def kindOf (s : ByteArray) : Option (Int × Int) :=
  if s = bT10 then some (1, 0) else if s = bT11 then some (1, 1) else if s = bT12 then some (1, 2) else if s = bT20 then some (2, 0) else if s = bT21 then some (2, 1) else if s = bT22 then some (2, 2) else if s = bT30 then some (3, 0) else if s = bT31 then some (3, 1) else if s = bT32 then some (3, 2) else none
theorem kindOf_10 : kindOf bT10 = some (1, 0) := by kernel_rfl
theorem kindOf_11 : kindOf bT11 = some (1, 1) := by kernel_rfl
theorem kindOf_12 : kindOf bT12 = some (1, 2) := by kernel_rfl
theorem kindOf_20 : kindOf bT20 = some (2, 0) := by kernel_rfl
theorem kindOf_21 : kindOf bT21 = some (2, 1) := by kernel_rfl
theorem kindOf_22 : kindOf bT22 = some (2, 2) := by kernel_rfl
theorem kindOf_30 : kindOf bT30 = some (3, 0) := by kernel_rfl
theorem kindOf_31 : kindOf bT31 = some (3, 1) := by kernel_rfl
theorem kindOf_32 : kindOf bT32 = some (3, 2) := by kernel_rfl
structure KindR (s : ByteArray) (k r : Int) (b : Bool) : Prop where
  out : (b = true ∧ kindOf s = some (k, r)) ∨ (b = false ∧ kindOf s = none ∧ k = 0 ∧ r = 0)
theorem KindR.of (s : ByteArray) : ∃ k r b, KindR s k r b := by
  cases h : kindOf s with
  | some y => exact ⟨y.1, y.2, true, ⟨.inl ⟨rfl, h⟩⟩⟩
  | none => exact ⟨_, _, _, ⟨.inr ⟨rfl, h, rfl, rfl⟩⟩⟩
set_option maxRecDepth 100000 in
set_option maxHeartbeats 4000000 in
theorem types_ac {G : World → Prop} (hst : Stable G) (k : Int) (X : List (List PV)) (hX : Is X (fun _ => (typesOf k).map encS)) :
    ACalls G Tryz.prog 14 [.lit (.int .i64 k)] (.sl X) none := by
  refine acalls_fn hst mixed tau_ok Tryz.func14 (by kernel_rfl) (by kernel_rfl) (by kernel_rfl) ?_
  intro Q hQ
  cbv
  intro b1 h1
  cbv
  cases b1
  · cbv
    intro b2 h2
    cbv
    cases b2
    · cbv
      intro b3 h3
      cbv
      cases b3
      · cbv
        have e : X = [] := by rw [hX.out]; unfold typesOf; rw [if_neg h1.no, if_neg h2.no, if_neg h3.no]; rfl
        subst e
        try exact ⟨rfl, trivial⟩
      · cbv
        have e : X = tX3 := by rw [hX.out]; unfold typesOf; rw [if_neg h1.no, if_neg h2.no, if_pos h3.yes]; rfl
        subst e
        try exact ⟨rfl, trivial⟩
    · cbv
      have e : X = tX2 := by rw [hX.out]; unfold typesOf; rw [if_neg h1.no, if_pos h2.yes]; rfl
      subst e
      try exact ⟨rfl, trivial⟩
  · cbv
    have e : X = tX1 := by rw [hX.out]; unfold typesOf; rw [if_pos h1.yes]; rfl
    subst e
    try exact ⟨rfl, trivial⟩
set_option maxRecDepth 100000 in
set_option maxHeartbeats 4000000 in
theorem kindOf_ac {G : World → Prop} (hst : Stable G) (s : ByteArray) (k r : Int) (b : Bool) (hr : KindR s k r b) :
    ACalls G Tryz.prog 10 [.lit (.string s)] (.tup [.lit (.int .i64 k), .lit (.int .i64 r), .lit (.bool b)]) none := by
  refine acalls_fn hst mixed tau_ok Tryz.func10 (by kernel_rfl) (by kernel_rfl) (by kernel_rfl) ?_
  intro Q hQ
  cbv
  intro b10 h10
  cbv
  cases b10
  rotate_left
  · cbv
    have e : s = bT10 := h10.yes
    refine Or.inl ⟨_, _, hQ _ _ _ _ (types_ac hst 1 tX1 ⟨rfl⟩), ?_⟩
    cbv
    refine Or.inl ⟨_, _, hQ _ _ _ _ (indexStr_ac hst [bT10, bT11, bT12] tX1 rfl (by decide) s 0 ⟨by rw [e]; kernel_rfl⟩), ?_⟩
    cbv
    rcases hr.out with ⟨rfl, h⟩ | ⟨_, h, _⟩
    · rw [e, kindOf_10] at h
      cases h
      try exact ⟨rfl, trivial⟩
    · rw [e, kindOf_10] at h
      cases h
  cbv
  intro b11 h11
  cbv
  cases b11
  rotate_left
  · cbv
    have e : s = bT11 := h11.yes
    refine Or.inl ⟨_, _, hQ _ _ _ _ (types_ac hst 1 tX1 ⟨rfl⟩), ?_⟩
    cbv
    refine Or.inl ⟨_, _, hQ _ _ _ _ (indexStr_ac hst [bT10, bT11, bT12] tX1 rfl (by decide) s 1 ⟨by rw [e]; kernel_rfl⟩), ?_⟩
    cbv
    rcases hr.out with ⟨rfl, h⟩ | ⟨_, h, _⟩
    · rw [e, kindOf_11] at h
      cases h
      try exact ⟨rfl, trivial⟩
    · rw [e, kindOf_11] at h
      cases h
  cbv
  intro b12 h12
  cbv
  cases b12
  rotate_left
  · cbv
    have e : s = bT12 := h12.yes
    refine Or.inl ⟨_, _, hQ _ _ _ _ (types_ac hst 1 tX1 ⟨rfl⟩), ?_⟩
    cbv
    refine Or.inl ⟨_, _, hQ _ _ _ _ (indexStr_ac hst [bT10, bT11, bT12] tX1 rfl (by decide) s 2 ⟨by rw [e]; kernel_rfl⟩), ?_⟩
    cbv
    rcases hr.out with ⟨rfl, h⟩ | ⟨_, h, _⟩
    · rw [e, kindOf_12] at h
      cases h
      try exact ⟨rfl, trivial⟩
    · rw [e, kindOf_12] at h
      cases h
  cbv
  intro b20 h20
  cbv
  cases b20
  rotate_left
  · cbv
    have e : s = bT20 := h20.yes
    refine Or.inl ⟨_, _, hQ _ _ _ _ (types_ac hst 2 tX2 ⟨rfl⟩), ?_⟩
    cbv
    refine Or.inl ⟨_, _, hQ _ _ _ _ (indexStr_ac hst [bT20, bT21, bT22] tX2 rfl (by decide) s 0 ⟨by rw [e]; kernel_rfl⟩), ?_⟩
    cbv
    rcases hr.out with ⟨rfl, h⟩ | ⟨_, h, _⟩
    · rw [e, kindOf_20] at h
      cases h
      try exact ⟨rfl, trivial⟩
    · rw [e, kindOf_20] at h
      cases h
  cbv
  intro b21 h21
  cbv
  cases b21
  rotate_left
  · cbv
    have e : s = bT21 := h21.yes
    refine Or.inl ⟨_, _, hQ _ _ _ _ (types_ac hst 2 tX2 ⟨rfl⟩), ?_⟩
    cbv
    refine Or.inl ⟨_, _, hQ _ _ _ _ (indexStr_ac hst [bT20, bT21, bT22] tX2 rfl (by decide) s 1 ⟨by rw [e]; kernel_rfl⟩), ?_⟩
    cbv
    rcases hr.out with ⟨rfl, h⟩ | ⟨_, h, _⟩
    · rw [e, kindOf_21] at h
      cases h
      try exact ⟨rfl, trivial⟩
    · rw [e, kindOf_21] at h
      cases h
  cbv
  intro b22 h22
  cbv
  cases b22
  rotate_left
  · cbv
    have e : s = bT22 := h22.yes
    refine Or.inl ⟨_, _, hQ _ _ _ _ (types_ac hst 2 tX2 ⟨rfl⟩), ?_⟩
    cbv
    refine Or.inl ⟨_, _, hQ _ _ _ _ (indexStr_ac hst [bT20, bT21, bT22] tX2 rfl (by decide) s 2 ⟨by rw [e]; kernel_rfl⟩), ?_⟩
    cbv
    rcases hr.out with ⟨rfl, h⟩ | ⟨_, h, _⟩
    · rw [e, kindOf_22] at h
      cases h
      try exact ⟨rfl, trivial⟩
    · rw [e, kindOf_22] at h
      cases h
  cbv
  intro b30 h30
  cbv
  cases b30
  rotate_left
  · cbv
    have e : s = bT30 := h30.yes
    refine Or.inl ⟨_, _, hQ _ _ _ _ (types_ac hst 3 tX3 ⟨rfl⟩), ?_⟩
    cbv
    refine Or.inl ⟨_, _, hQ _ _ _ _ (indexStr_ac hst [bT30, bT31, bT32] tX3 rfl (by decide) s 0 ⟨by rw [e]; kernel_rfl⟩), ?_⟩
    cbv
    rcases hr.out with ⟨rfl, h⟩ | ⟨_, h, _⟩
    · rw [e, kindOf_30] at h
      cases h
      try exact ⟨rfl, trivial⟩
    · rw [e, kindOf_30] at h
      cases h
  cbv
  intro b31 h31
  cbv
  cases b31
  rotate_left
  · cbv
    have e : s = bT31 := h31.yes
    refine Or.inl ⟨_, _, hQ _ _ _ _ (types_ac hst 3 tX3 ⟨rfl⟩), ?_⟩
    cbv
    refine Or.inl ⟨_, _, hQ _ _ _ _ (indexStr_ac hst [bT30, bT31, bT32] tX3 rfl (by decide) s 1 ⟨by rw [e]; kernel_rfl⟩), ?_⟩
    cbv
    rcases hr.out with ⟨rfl, h⟩ | ⟨_, h, _⟩
    · rw [e, kindOf_31] at h
      cases h
      try exact ⟨rfl, trivial⟩
    · rw [e, kindOf_31] at h
      cases h
  cbv
  intro b32 h32
  cbv
  cases b32
  rotate_left
  · cbv
    have e : s = bT32 := h32.yes
    refine Or.inl ⟨_, _, hQ _ _ _ _ (types_ac hst 3 tX3 ⟨rfl⟩), ?_⟩
    cbv
    refine Or.inl ⟨_, _, hQ _ _ _ _ (indexStr_ac hst [bT30, bT31, bT32] tX3 rfl (by decide) s 2 ⟨by rw [e]; kernel_rfl⟩), ?_⟩
    cbv
    rcases hr.out with ⟨rfl, h⟩ | ⟨_, h, _⟩
    · rw [e, kindOf_32] at h
      cases h
      try exact ⟨rfl, trivial⟩
    · rw [e, kindOf_32] at h
      cases h
  cbv
  have hn : kindOf s = none := by
    unfold kindOf
    rw [if_neg (show ¬ s = bT10 from h10.no), if_neg (show ¬ s = bT11 from h11.no), if_neg (show ¬ s = bT12 from h12.no), if_neg (show ¬ s = bT20 from h20.no), if_neg (show ¬ s = bT21 from h21.no), if_neg (show ¬ s = bT22 from h22.no), if_neg (show ¬ s = bT30 from h30.no), if_neg (show ¬ s = bT31 from h31.no), if_neg (show ¬ s = bT32 from h32.no)]
  rcases hr.out with ⟨_, h⟩ | ⟨rfl, _, rfl, rfl⟩
  · rw [hn] at h
    cases h
  · try exact ⟨rfl, trivial⟩
/-- The rule that an entry tells by itself. -/
def ofE (typ key : ByteArray) (body : J) (room : ByteArray) : Option Rl :=
  match kindOf typ, ruleOf body with
  | some (k, _), some b => if b.recommendation = wMban ∨ b.recommendation = wOban then some ⟨k, b.entity, b.reason, room, key⟩ else none
  | _, _ => none
structure OfR (typ key : ByteArray) (body : J) (room : ByteArray) (r : Rl) (b : Bool) : Prop where
  out : (b = true ∧ ofE typ key body room = some r) ∨ (b = false ∧ ofE typ key body room = none ∧ r = ⟨0, ⟨#[]⟩, ⟨#[]⟩, ⟨#[]⟩, ⟨#[]⟩⟩)
theorem OfR.of (typ key : ByteArray) (body : J) (room : ByteArray) : ∃ r b, OfR typ key body room r b := by
  cases h : ofE typ key body room with
  | some y => exact ⟨y, true, ⟨.inl ⟨rfl, h⟩⟩⟩
  | none => exact ⟨_, _, ⟨.inr ⟨rfl, h, rfl⟩⟩⟩
set_option maxRecDepth 100000 in
set_option maxHeartbeats 4000000 in
theorem of_ac {G : World → Prop} (hst : Stable G) (hV : ValidC G) (hC : CheckC G) (typ key id by_ : ByteArray) (x : J) (k n : Int) (t : ByteArray) (KX IX : List (List PV)) (hbig : x.size ≤ 1000000) (hok : okB x = true) (hJ : JRow x k n t KX IX) (room : ByteArray) (r : Rl) (b : Bool) (hr : OfR typ key x room r b) :
    ACalls G Tryz.prog 11 [.agg [.lit (.string typ), .lit (.string key), .lit (.string id), .lit (.string by_), .lit (.int .i64 k), .lit (.int .i64 n), .lit (.string t), .sl KX, .sl IX], .lit (.string room)] (.tup [.agg (encR r), .lit (.bool b)]) none := by
  obtain ⟨r1, r2, r3, r4, r5⟩ := r
  refine acalls_fn hst mixed tau_ok Tryz.func11 (by kernel_rfl) (by kernel_rfl) (by kernel_rfl) ?_
  intro Q hQ
  cbv
  obtain ⟨kd, rk, d, hk⟩ := KindR.of typ
  refine Or.inl ⟨_, _, hQ _ _ _ _ (kindOf_ac hst typ kd rk d hk), ?_⟩
  cbv
  intro b1 h1
  cbv
  cases d
  · have e : b1 = true := by have := h1.out; simpa using this
    subst e
    cbv
    have hn : ofE typ key x room = none := by
      rcases hk.out with ⟨h, _⟩ | ⟨_, h, _⟩
      · cases h
      · unfold ofE; rw [h]
    rcases hr.out with ⟨_, h⟩ | ⟨rfl, _, h⟩
    · rw [hn] at h
      cases h
    · cases h
      try exact ⟨rfl, trivial⟩
  · have e : b1 = false := by have := h1.out; simpa using this
    subst e
    cbv
    obtain ⟨s1, s2, s3, d2, hB⟩ := RuleR.of x
    refine Or.inl ⟨_, _, hQ _ _ _ _ (ruleOf_ac hst hV hC x k n t KX IX hbig hok hJ s1 s2 s3 d2 hB), ?_⟩
    cbv
    intro b2 h2
    cbv
    have hk' : kindOf typ = some (kd, rk) := by
      rcases hk.out with ⟨_, h⟩ | ⟨h, _⟩
      · exact h
      · cases h
    cases d2
    · have e : b2 = true := by have := h2.out; simpa using this
      subst e
      cbv
      have hn : ofE typ key x room = none := by
        rcases hB.out with ⟨h, _⟩ | ⟨_, h, _⟩
        · cases h
        · unfold ofE; rw [h, hk']
      rcases hr.out with ⟨_, h⟩ | ⟨rfl, _, h⟩
      · rw [hn] at h
        cases h
      · cases h
        try exact ⟨rfl, trivial⟩
    · have e : b2 = false := by have := h2.out; simpa using this
      subst e
      cbv
      have hB' : ruleOf x = some ⟨s1, s2, s3⟩ := by
        rcases hB.out with ⟨_, h⟩ | ⟨h, _⟩
        · exact h
        · cases h
      obtain ⟨c, hc⟩ : ∃ c, Is c (fun _ => decide (s2 = wMban ∨ s2 = wOban)) := ⟨_, ⟨rfl⟩⟩
      refine Or.inl ⟨_, _, hQ _ _ _ _ (takes_ac hst s2 c hc), ?_⟩
      cbv
      intro b3 h3
      cbv
      have hE : ofE typ key x room = if s2 = wMban ∨ s2 = wOban then some ⟨kd, s1, s3, room, key⟩ else none := by
        unfold ofE; rw [hB', hk']
      cases c
      · have e : b3 = true := by have := h3.out; simpa using this
        subst e
        cbv
        rcases hr.out with ⟨_, h⟩ | ⟨rfl, _, h⟩
        · rw [hE, if_neg hc.no] at h
          cases h
        · cases h
          try exact ⟨rfl, trivial⟩
      · have e : b3 = false := by have := h3.out; simpa using this
        subst e
        cbv
        rcases hr.out with ⟨rfl, h⟩ | ⟨_, h, _⟩
        · rw [hE, if_pos hc.yes] at h
          cases h
          try exact ⟨rfl, trivial⟩
        · rw [hE, if_pos hc.yes] at h
          cases h
end Go.Proofs.YtbjfmkmaghapgaaGreatDoor.B
