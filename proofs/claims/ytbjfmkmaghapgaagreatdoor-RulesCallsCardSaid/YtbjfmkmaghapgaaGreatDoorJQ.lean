/-
The reference of chapter 16, walked: Types, KindOf, Takes, Compare, Text; rules.Text. Condition: none.
Rules as texts, by the program and by the reference; the reference's sort; walked. Condition: none.
The law RulesOnce, walked. Conditions: those of the law's examples.
The reference's sort of rules, walked. Condition: none.
The references of chapters 3, 6 and 16, walked: Get, what a rule's body says, what an entry declares, the rules of a state. Condition: the contract of the reference's Valid.
The references of chapters 6 and 16, walked: what a rule's body says, what an entry declares, the rules of a state. Condition: the contract of the reference's Valid.
The reference of chapter 16, walked: what an entry declares, which entries count, the rules of a state. Condition: the contract of the reference's Valid.
The reference of chapter 16, walked: the rules of a state; lists of texts compared. Condition: the contract of the reference's Valid.
The law RulesCalls, walked. Conditions: those of the law's examples; the contract of the reference's Valid.
A list of rules that is handed in: its values. Condition: none.
The law RulesCalls: its call, from a world whose arguments are read.
-/
import Derived.Test.YtbjfmkmaghapgaaGreatDoorBRules1
import Derived.Test.YtbjfmkmaghapgaaGreatDoorJL
import Derived.Test.YtbjfmkmaghapgaaGreatDoorJM
import Derived.Test.YtbjfmkmaghapgaaGreatDoorJB
import Derived.Deep.Slices
import Derived.ChangeArms
import Derived.WideShapes
set_option linter.unusedVariables false
set_option linter.unusedSimpArgs false
namespace Go.Proofs.YtbjfmkmaghapgaaGreatDoor.B
open Go.RowKit
set_option maxRecDepth 100000 in
set_option maxHeartbeats 4000000 in
theorem rtypes_ac {G : World → Prop} (hst : Stable G) (k : Int) (X : List (List PV)) (hX : Is X (fun _ => (typesOf k).map encS)) :
    ACalls G Tryz.prog 20 [.lit (.int .i64 k)] (.sl X) none := by
  refine acalls_fn hst mixed tau_ok Tryz.func20 (by kernel_rfl) (by kernel_rfl) (by kernel_rfl) ?_
  intro Q hQ
  cbv
  intro b1 h1
  cbv
  cases b1
  · cbv
    intro b2 h2
    cbv
    cases b2
    · cbv
      intro b3 h3
      cbv
      cases b3
      · cbv
        have e : X = [] := by rw [hX.out]; unfold typesOf; rw [if_neg h1.no, if_neg h2.no, if_neg h3.no]; rfl
        subst e
        try exact ⟨rfl, trivial⟩
      · cbv
        refine ⟨⟨by decide⟩, ?_⟩
        intro s1 g1
        cbv
        refine ⟨⟨by decide⟩, ?_⟩
        intro s2 g2
        cbv
        refine ⟨⟨by decide⟩, ?_⟩
        intro s3 g3
        cbv
        have e : X = [[.lit (.string s1)], [.lit (.string s2)], [.lit (.string s3)]] := by rw [hX.out, g1.out, g2.out, g3.out]; unfold typesOf; rw [if_neg h1.no, if_neg h2.no, if_pos h3.yes]; kernel_rfl
        subst e
        try exact ⟨rfl, trivial⟩
    · cbv
      refine ⟨⟨by decide⟩, ?_⟩
      intro s1 g1
      cbv
      refine ⟨⟨by decide⟩, ?_⟩
      intro s2 g2
      cbv
      refine ⟨⟨by decide⟩, ?_⟩
      intro s3 g3
      cbv
      have e : X = [[.lit (.string s1)], [.lit (.string s2)], [.lit (.string s3)]] := by rw [hX.out, g1.out, g2.out, g3.out]; unfold typesOf; rw [if_neg h1.no, if_pos h2.yes]; kernel_rfl
      subst e
      try exact ⟨rfl, trivial⟩
  · cbv
    refine ⟨⟨by decide⟩, ?_⟩
    intro s1 g1
    cbv
    refine ⟨⟨by decide⟩, ?_⟩
    intro s2 g2
    cbv
    refine ⟨⟨by decide⟩, ?_⟩
    intro s3 g3
    cbv
    have e : X = [[.lit (.string s1)], [.lit (.string s2)], [.lit (.string s3)]] := by rw [hX.out, g1.out, g2.out, g3.out]; unfold typesOf; rw [if_pos h1.yes]; kernel_rfl
    subst e
    try exact ⟨rfl, trivial⟩
set_option maxRecDepth 100000 in
set_option maxHeartbeats 4000000 in
theorem rtakes_ac {G : World → Prop} (hst : Stable G) (s : ByteArray) (c : Bool) (hc : Is c (fun _ => decide (s = wMban ∨ s = wOban))) :
    ACalls G Tryz.prog 22 [.lit (.string s)] (.lit (.bool c)) none := by
  refine acalls_fn hst mixed tau_ok Tryz.func22 (by kernel_rfl) (by kernel_rfl) (by kernel_rfl) ?_
  intro Q hQ
  cbv
  intro b1 h1
  have h1 : Is b1 (fun _ => decide (s = wMban)) := h1
  cbv
  cases b1
  · cbv
    intro b2 h2
    have h2 : Is b2 (fun _ => decide (s = wOban)) := h2
    cbv
    refine litB ?_
    rw [hc.out, h2.out, decide_eq_decide]
    exact ⟨fun q => Or.inr q, fun q => q.resolve_left h1.no⟩
  · cbv
    refine litB ?_
    rw [hc.out]
    exact (decide_eq_true (.inl h1.yes)).symm
set_option maxRecDepth 100000 in
set_option maxHeartbeats 4000000 in
theorem rtext_ac {G : World → Prop} (hst : Stable G) (a b : ByteArray) (c : Int) (hc : Is c (fun _ => cmpS a b)) : ACalls G Tryz.prog 44 [.lit (.string a), .lit (.string b)] (.lit (.int .i64 c)) none := by
  refine acalls_fn hst mixed tau_ok Tryz.func44 (by kernel_rfl) (by kernel_rfl) (by kernel_rfl) ?_
  intro Q hQ
  cbv
  intro b1 h1
  have h1 : Is b1 (fun _ => Op.bytesLess a.toList b.toList) := h1
  cbv
  cases b1
  · cbv
    intro b2 h2
    have h2 : Is b2 (fun _ => !(Op.bytesLess a.toList b.toList || a.toList == b.toList)) := h2
    cbv
    cases b2
    · cbv
      refine litI ?_
      rw [hc.out]
      have e1 := h1.out
      have e2 := h2.out
      rw [← e1] at e2
      have e3 : a = b := by
        rw [str_eq] at e2
        simpa using e2
      simp only [cmpS]
      rw [← e1, if_neg (by simp), if_pos e3]
    · cbv
      refine litI ?_
      rw [hc.out]
      have e1 := h1.out
      have e2 := h2.out
      rw [← e1] at e2
      have e3 : ¬ a = b := by
        rw [str_eq] at e2
        simpa using e2
      simp only [cmpS]
      rw [← e1, if_neg (by simp), if_neg e3]
  · cbv
    refine litI ?_
    rw [hc.out]
    have e1 := h1.out
    simp only [cmpS]
    rw [← e1, if_pos rfl]
theorem cmpR_lt {a1 b1 : Int} {a2 a3 a4 a5 b2 b3 b4 b5 : ByteArray} (h : a1 < b1) : cmpR ⟨a1, a2, a3, a4, a5⟩ ⟨b1, b2, b3, b4, b5⟩ = -1 := by
  have e : cmpI a1 b1 = -1 := if_pos h
  show orI [cmpI a1 b1, _, _, _, _] = -1
  rw [e]
  rfl
theorem cmpR_gt {a1 b1 : Int} {a2 a3 a4 a5 b2 b3 b4 b5 : ByteArray} (h : b1 < a1) : cmpR ⟨a1, a2, a3, a4, a5⟩ ⟨b1, b2, b3, b4, b5⟩ = 1 := by
  have e : cmpI a1 b1 = 1 := by unfold cmpI; rw [if_neg (by omega), if_neg (by omega)]
  show orI [cmpI a1 b1, _, _, _, _] = 1
  rw [e]
  rfl
set_option maxRecDepth 100000 in
set_option maxHeartbeats 4000000 in
theorem rcompareR_ac {G : World → Prop} (hst : Stable G) (a b : Rl) (c : Int) (hc : Is c (fun _ => cmpR a b)) : ACalls G Tryz.prog 23 [.agg (encR a), .agg (encR b)] (.lit (.int .i64 c)) none := by
  refine acalls_fn hst mixed tau_ok Tryz.func23 (by kernel_rfl) (by kernel_rfl) (by kernel_rfl) ?_
  intro Q hQ
  obtain ⟨a1, a2, a3, a4, a5⟩ := a
  obtain ⟨b1, b2, b3, b4, b5⟩ := b
  cbv
  intro b1' h1
  cbv
  cases b1'
  rotate_left
  · cbv
    refine litI ?_
    rw [hc.out]
    exact (cmpR_lt h1.yes).symm
  cbv
  intro b2' h2
  cbv
  cases b2'
  rotate_left
  · cbv
    refine litI ?_
    rw [hc.out]
    exact (cmpR_gt h2.yes).symm
  have he : a1 = b1 := by have := h1.no; have := h2.no; omega
  clear h1 h2
  cbv
  obtain ⟨c2, hc2⟩ : ∃ c2, Is c2 (fun _ => cmpS a2 b2) := ⟨_, ⟨rfl⟩⟩
  refine Or.inl ⟨_, _, hQ _ _ _ _ (rtext_ac hst a2 b2 c2 hc2), ?_⟩
  cbv
  obtain ⟨c3, hc3⟩ : ∃ c3, Is c3 (fun _ => cmpS a4 b4) := ⟨_, ⟨rfl⟩⟩
  refine Or.inl ⟨_, _, hQ _ _ _ _ (rtext_ac hst a4 b4 c3 hc3), ?_⟩
  cbv
  obtain ⟨c4, hc4⟩ : ∃ c4, Is c4 (fun _ => cmpS a5 b5) := ⟨_, ⟨rfl⟩⟩
  refine Or.inl ⟨_, _, hQ _ _ _ _ (rtext_ac hst a5 b5 c4 hc4), ?_⟩
  cbv
  obtain ⟨c5, hc5⟩ : ∃ c5, Is c5 (fun _ => cmpS a3 b3) := ⟨_, ⟨rfl⟩⟩
  refine Or.inl ⟨_, _, hQ _ _ _ _ (rtext_ac hst a3 b3 c5 hc5), ?_⟩
  have hfin : Is c (fun _ => orI [c2, c3, c4, c5]) := ⟨by rw [hc.out, hc2.out, hc3.out, hc4.out, hc5.out]; simp [cmpR, orI, cmpI, he]⟩
  clear hc2 hc3 hc4 hc5 he hc
  have hX : [c2, c3, c4, c5].map encI = [[.lit (.int .i64 c2)], [.lit (.int .i64 c3)], [.lit (.int .i64 c4)], [.lit (.int .i64 c5)]] := rfl
  obtain ⟨l, hl⟩ : ∃ l, l = [c2, c3, c4, c5] := ⟨_, rfl⟩
  rw [← hl] at hX
  have hl4 : l.length = 4 := by rw [hl]; rfl
  rw [← hl] at hfin
  clear hl
  cbv
  refine Or.inr ⟨[5], [], Int, fun k => [(.t 6, ⟨.pv (.lit (.int .i64 k)), none, none⟩)], Zeros l, fun k => 4 - k.toNat, 0, ⟨by omega, by omega, fun i x h => by simp at h⟩, ?_, ?_⟩
  · cbv
    simp
  intro k hk
  have hk : Zeros l k := hk
  cbv
  intro m1 h1
  cbv
  intro b2 h2
  cbv
  have e1 : m1 = 4 := h1.out
  clear h1
  cases b2
  · cbv
    refine litI ?_
    have e2 := h2.no
    rw [hfin.out, orI_drop l k.toNat hk.all, List.drop_eq_nil_of_le (by omega)]
    rfl
  · have hkr : 0 ≤ k ∧ k.toNat < 4 := ⟨hk.lo, by have e2 := h2.yes; have e3 := hk.lo; omega⟩
    cbv
    refine ⟨⟨hkr⟩, ?_⟩
    intro r hr
    obtain ⟨x, hx, rfl⟩ := hr.row hX
    cbv
    intro b3 h3
    cbv
    cases b3
    · cbv
      intro k' hk'
      cbv
      have e4 := hk'.add1 (by omega) (by omega)
      refine ⟨k', ?_, ?_, ?_⟩
      · refine ⟨by omega, by omega, fun i y hi hy => ?_⟩
        by_cases e : i < k.toNat
        · exact hk.all i y e hy
        · have : i = k.toNat := by omega
          rw [this, hx] at hy
          cases hy
          exact Decidable.not_not.1 h3.no
      · show 4 - k'.toNat < 4 - k.toNat
        omega
      · cbv
        simp
    · cbv
      refine ⟨⟨hkr⟩, ?_⟩
      intro r hr2
      obtain ⟨y, hy, rfl⟩ := hr2.row hX
      obtain rfl : y = x := by rw [hx] at hy; cases hy; rfl
      cbv
      refine litI ?_
      have e3 := h3.yes
      have hlt := (List.getElem?_eq_some_iff.1 hx).1
      rw [hfin.out, orI_drop l k.toNat hk.all, List.drop_eq_getElem_cons hlt]
      simp only [orI]
      have e4 : l[k.toNat] = y := by rw [List.getElem?_eq_getElem hlt] at hx; simpa using hx
      rw [e4, if_neg e3]
/-- The types of a kind, by place. -/
theorem kindOf_types {k : Int} (hk : 1 ≤ k ∧ k ≤ 3) : ∃ a b c, typesOf k = [a, b, c] ∧ kindOf a = some (k, 0) ∧ kindOf b = some (k, 1) ∧ kindOf c = some (k, 2) := by
  obtain rfl | rfl | rfl : k = 1 ∨ k = 2 ∨ k = 3 := by omega
  · exact ⟨_, _, _, rfl, kindOf_10, kindOf_11, kindOf_12⟩
  · exact ⟨_, _, _, rfl, kindOf_20, kindOf_21, kindOf_22⟩
  · exact ⟨_, _, _, rfl, kindOf_30, kindOf_31, kindOf_32⟩
/-- The types of a kind, as rows. -/
structure Tys (kd : Int) (T : List ByteArray) (TX : List (List PV)) : Prop where
  z : T.map encS = TX
  n : TX.length = 3
  at_ : ∀ (i : Nat) s, T[i]? = some s → kindOf s = some (kd, (i : Int))
theorem Tys.of {kd : Int} (h : 1 ≤ kd ∧ kd ≤ 3) : ∃ T TX, Tys kd T TX ∧ T = typesOf kd := by
  obtain ⟨a, b, c, e, ha, hb, hc⟩ := kindOf_types h
  refine ⟨_, _, ⟨rfl, by rw [e]; rfl, fun i s hs => ?_⟩, rfl⟩
  rw [e] at hs
  have hlt := (List.getElem?_eq_some_iff.1 hs).1
  simp at hlt
  obtain rfl | rfl | rfl : i = 0 ∨ i = 1 ∨ i = 2 := by omega
  · cases hs; exact ha
  · cases hs; exact hb
  · cases hs; exact hc
structure KOf (s : ByteArray) (kd i : Int) : Prop where
  out : kindOf s = some (kd, i)
theorem kindOf_inv {s : ByteArray} {k r : Int} (h : kindOf s = some (k, r)) : (1 ≤ k ∧ k ≤ 3) ∧ (0 ≤ r ∧ r ≤ 2) ∧ (typesOf k)[r.toNat]? = some s := by
  unfold kindOf at h
  repeat' (split at h; · rename_i e; subst e; cases h; exact ⟨by omega, by omega, rfl⟩)
  cases h
/-- Under no kind so far. -/
structure NoK (s : ByteArray) (kd : Int) : Prop where
  lo : 1 ≤ kd
  hi : kd ≤ 4
  no : ∀ k r, kindOf s = some (k, r) → kd ≤ k
/-- Not among the first types of a kind. -/
structure NoI (s : ByteArray) (kd i : Int) : Prop where
  lo : 0 ≤ i
  hi : i ≤ 3
  no : ∀ r, kindOf s = some (kd, r) → i ≤ r
set_option maxRecDepth 100000 in
set_option maxHeartbeats 4000000 in
theorem rkindOf_ac {G : World → Prop} (hst : Stable G) (s : ByteArray) (k r : Int) (b : Bool) (hr : KindR s k r b) :
    ACalls G Tryz.prog 17 [.lit (.string s)] (.tup [.lit (.int .i64 k), .lit (.int .i64 r), .lit (.bool b)]) none := by
  refine acalls_fn hst mixed tau_ok Tryz.func17 (by kernel_rfl) (by kernel_rfl) (by kernel_rfl) ?_
  intro Q hQ
  cbv
  refine Or.inr ⟨[0], [], Int, fun kd => [(.t 5, ⟨.pv (.lit (.int .i64 kd)), none, none⟩)], NoK s, fun kd => 4 - kd.toNat, 1, ⟨by omega, by omega, fun k r h => (kindOf_inv h).1.1⟩, ?_, ?_⟩
  · cbv
    simp
  intro kd hkd
  have hkd : NoK s kd := hkd
  cbv
  intro b1 h1
  cbv
  cases b1
  · have hn : kindOf s = none := by
      cases hq : kindOf s with
      | none => rfl
      | some p =>
        have e1 := hkd.no p.1 p.2 hq
        have e2 := (kindOf_inv hq).1.2
        have e3 := h1.no
        omega
    rcases hr.out with ⟨_, h⟩ | ⟨rfl, _, rfl, rfl⟩
    · rw [hn] at h
      cases h
    · cbv
      try exact ⟨rfl, trivial⟩
  obtain ⟨T, TX, hT, eT⟩ := Tys.of (kd := kd) ⟨hkd.lo, h1.yes⟩
  have h3 : kd ≤ 3 := h1.yes
  clear h1
  cbv
  refine Or.inl ⟨_, _, hQ _ _ _ _ (rtypes_ac hst kd TX ⟨by rw [← hT.z, eT]⟩), ?_⟩
  cbv
  refine Or.inr ⟨[0, 5, 6], [], Int, fun i => [(.t 7, ⟨.pv (.lit (.int .i64 i)), none, none⟩)], NoI s kd, fun i => 3 - i.toNat, 0, ⟨by omega, by omega, fun r h => (kindOf_inv h).2.1.1⟩, ?_, ?_⟩
  · cbv
    simp
  intro i hi
  have hi : NoI s kd i := hi
  cbv
  intro m1 g1
  cbv
  intro b2 h2
  cbv
  cases b2
  · cbv
    intro kd' hkd'
    cbv
    have e1 := hkd'.add1 (by have := hkd.lo; omega) (by omega)
    have e2 := g1.len
    have e3 := h2.no
    have e4 := hT.n
    refine ⟨kd', ⟨by have := hkd.lo; omega, by omega, fun k r h => ?_⟩, ?_, ?_⟩
    · have q1 := hkd.no k r h
      by_cases q2 : k = kd
      · subst q2
        have q3 := hi.no r h
        have q4 := (kindOf_inv h).2.1.2
        omega
      · omega
    · show 4 - kd'.toNat < 4 - kd.toNat
      have := hkd.lo
      omega
    · cbv
      simp
  cbv
  refine ⟨g1.atL hi.lo h2.yes, ?_⟩
  intro r1 hr1
  obtain ⟨z, hz, rfl⟩ := hr1.row hT.z
  cbv
  intro b3 h3'
  cbv
  cases b3
  · cbv
    intro i' hi'
    cbv
    have e1 := g1.len
    have e2 := h2.yes
    have e3 := hT.n
    have e4 := hi'.add1 (by have := hi.lo; omega) (by omega)
    refine ⟨i', ⟨by have := hi.lo; omega, by omega, fun r h => ?_⟩, ?_, ?_⟩
    · have q1 := hi.no r h
      by_cases q2 : r = i
      · subst q2
        have q3 := (kindOf_inv h).2.2
        rw [← eT, hz] at q3
        cases q3
        exact absurd rfl h3'.no
      · omega
    · show 3 - i'.toNat < 3 - i.toNat
      have := hi.lo
      omega
    · cbv
      simp
  · have e : z = s := h3'.yes
    subst e
    have hk := hT.at_ _ _ hz
    have hi0 : ((i.toNat : Nat) : Int) = i := by have := hi.lo; omega
    rw [hi0] at hk
    rcases hr.out with ⟨rfl, h⟩ | ⟨_, h, _⟩
    · rw [hk] at h
      cases h
      cbv
      try exact ⟨rfl, trivial⟩
    · rw [hk] at h
      cases h
end Go.Proofs.YtbjfmkmaghapgaaGreatDoor.B

set_option linter.unusedVariables false
set_option linter.unusedSimpArgs false
namespace Go.Proofs.YtbjfmkmaghapgaaGreatDoor.B
open Go.RowKit
def wUser : ByteArray := ⟨#[117, 115, 101, 114]⟩
def wRoom : ByteArray := ⟨#[114, 111, 111, 109]⟩
def wServer : ByteArray := ⟨#[115, 101, 114, 118, 101, 114]⟩
def wordK (k : Int) : ByteArray := if k = 1 then wUser else if k = 2 then wRoom else if k = 3 then wServer else ⟨#[63]⟩
def sp : ByteArray := ⟨#[32]⟩
/-- A rule as a text. -/
def textR (r : Rl) : ByteArray :=
  if r.reason = ⟨#[]⟩ then wordK r.kind ++ sp ++ r.entity ++ sp ++ r.room ++ sp ++ r.key
  else wordK r.kind ++ sp ++ r.entity ++ sp ++ r.room ++ sp ++ r.key ++ ⟨#[32, 40]⟩ ++ r.reason ++ ⟨#[41]⟩
structure Sz (s : ByteArray) (n : Nat) : Prop where
  out : s.size ≤ n
theorem Sz.app {s a b : ByteArray} {m n : Nat} (h : Is s (fun _ => a ++ b)) (ha : Sz a m) (hb : Sz b n) : Sz s (m + n) := ⟨by
  have h1 := ha.out
  have h2 := hb.out
  rw [h.out]
  show (a ++ b).size ≤ m + n
  rw [ByteArray.size_append]
  omega⟩
theorem Sz.req {a b : ByteArray} {m n : Nat} (ha : Sz a m) (hb : Sz b n) (hmn : m + n ≤ 100000) : Req (fun _ => a.size + b.size ≤ 9223372036854775807) := ⟨by
  have h1 := ha.out
  have h2 := hb.out
  show a.size + b.size ≤ 9223372036854775807
  omega⟩
structure SzR (a2 a3 a4 a5 : ByteArray) : Prop where
  h2 : Sz a2 300
  h3 : Sz a3 300
  h4 : Sz a4 300
  h5 : Sz a5 300
theorem SzR.of {r : Rl} (h : smallR r) : SzR r.entity r.reason r.room r.key := ⟨⟨h.1⟩, ⟨h.2.1⟩, ⟨h.2.2.1⟩, ⟨h.2.2.2⟩⟩
theorem Sz.l (s : ByteArray) (h : decide (s.size ≤ 100) = true) : Sz s 100 := ⟨of_decide_eq_true h⟩
structure WK (k : Int) (w : ByteArray) : Prop where
  out : wordK k = w
set_option maxRecDepth 100000 in
set_option maxHeartbeats 8000000 in
theorem ptext_ac {G : World → Prop} (hst : Stable G) (a1 : Int) (a2 a3 a4 a5 : ByteArray) (hs : SzR a2 a3 a4 a5) (t : ByteArray) (ht : Is t (fun _ => textR ⟨a1, a2, a3, a4, a5⟩)) :
    ACalls G Tryz.prog 24 [.agg [.lit (.int .i64 a1), .lit (.string a2), .lit (.string a3), .lit (.string a4), .lit (.string a5)]] (.lit (.string t)) none := by
  refine acalls_fn hst mixed tau_ok Tryz.func24 (by kernel_rfl) (by kernel_rfl) (by kernel_rfl) ?_
  intro Q hQ
  cbv
  intro b1 h1
  cbv
  cases b1
  rotate_left
  have hw : WK a1 wUser := ⟨if_pos h1.yes⟩
  rotate_right
  cbv
  intro b2 h2
  cbv
  cases b2
  rotate_left
  have hw : WK a1 wRoom := ⟨(if_neg h1.no).trans (if_pos h2.yes)⟩
  rotate_right
  cbv
  intro b3 h3
  cbv
  cases b3
  rotate_left
  have hw : WK a1 wServer := ⟨(if_neg h1.no).trans ((if_neg h2.no).trans (if_pos h3.yes))⟩
  rotate_right
  have hw : WK a1 ⟨#[63]⟩ := ⟨(if_neg h1.no).trans ((if_neg h2.no).trans (if_neg h3.no))⟩
  all_goals
    cbv
    refine ⟨Sz.req (Sz.l _ (by decide)) (Sz.l _ (by decide)) (by omega), ?_⟩
    intro s1 g1
    have z1 := Sz.app g1 (Sz.l _ (by decide)) (Sz.l _ (by decide))
    cbv
    refine ⟨Sz.req z1 hs.h2 (by omega), ?_⟩
    intro s2 g2
    have z2 := Sz.app g2 z1 hs.h2
    cbv
    refine ⟨Sz.req z2 (Sz.l _ (by decide)) (by omega), ?_⟩
    intro s3 g3
    have z3 := Sz.app g3 z2 (Sz.l _ (by decide))
    cbv
    refine ⟨Sz.req z3 hs.h4 (by omega), ?_⟩
    intro s4 g4
    have z4 := Sz.app g4 z3 hs.h4
    cbv
    refine ⟨Sz.req z4 (Sz.l _ (by decide)) (by omega), ?_⟩
    intro s5 g5
    have z5 := Sz.app g5 z4 (Sz.l _ (by decide))
    cbv
    refine ⟨Sz.req z5 hs.h5 (by omega), ?_⟩
    intro s6 g6
    have z6 := Sz.app g6 z5 hs.h5
    have e6 : s6 = wordK a1 ++ sp ++ a2 ++ sp ++ a4 ++ sp ++ a5 := by
      rw [g6.out, g5.out, g4.out, g3.out, g2.out, g1.out, hw.out]
      rfl
    have q6 : Is s6 (fun _ => wordK a1 ++ sp ++ a2 ++ sp ++ a4 ++ sp ++ a5) := ⟨e6⟩
    clear e6 g6 g5 g4 g3 g2 g1 hw
    cbv
    intro b4 h4
    cbv
    cases b4
    · have e3 : a3 = ⟨#[]⟩ := Decidable.not_not.1 h4.no
      cbv
      have e : s6 = t := by rw [ht.out, q6.out]; exact (if_pos e3).symm
      subst e
      try exact ⟨rfl, trivial⟩
    · have e3 : ¬ a3 = ⟨#[]⟩ := h4.yes
      cbv
      refine ⟨Sz.req (Sz.l _ (by decide)) hs.h3 (by omega), ?_⟩
      intro s7 g7
      have z7 := Sz.app g7 (Sz.l _ (by decide)) hs.h3
      cbv
      refine ⟨Sz.req z7 (Sz.l _ (by decide)) (by omega), ?_⟩
      intro s8 g8
      have z8 := Sz.app g8 z7 (Sz.l _ (by decide))
      cbv
      refine ⟨Sz.req z6 z8 (by omega), ?_⟩
      intro s9 g9
      have e : s9 = t := by
        rw [ht.out, g9.out, g8.out, g7.out, q6.out]
        refine Eq.trans ?_ (if_neg e3).symm
        simp only [ByteArray.append_assoc]
      subst e
      cbv
      try exact ⟨rfl, trivial⟩
def wordsK : List ByteArray := [wUser, wRoom, wServer]
theorem wordsK_at {k : Int} {w : ByteArray} (h : 1 ≤ k ∧ k ≤ 3) (hw : wordsK[(k - 1).toNat]? = some w) : WK k w := by
  obtain rfl | rfl | rfl : k = 1 ∨ k = 2 ∨ k = 3 := by omega
  · cases hw; exact ⟨rfl⟩
  · cases hw; exact ⟨rfl⟩
  · cases hw; exact ⟨rfl⟩
theorem wordK_size (k : Int) : (wordK k).size ≤ 100 := by
  unfold wordK
  repeat' split
  all_goals decide
theorem wordK_no {k : Int} (h : ¬ (1 ≤ k ∧ k ≤ 3)) : WK k ⟨#[63]⟩ := ⟨by unfold wordK; rw [if_neg (by omega), if_neg (by omega), if_neg (by omega)]⟩
theorem WK.sz {k : Int} {w : ByteArray} (h : WK k w) : Sz w 100 := ⟨h.out ▸ wordK_size k⟩
set_option maxRecDepth 100000 in
set_option maxHeartbeats 8000000 in
theorem rText_ac {G : World → Prop} (hst : Stable G) (a1 : Int) (a2 a3 a4 a5 : ByteArray) (hs : SzR a2 a3 a4 a5) (t : ByteArray) (ht : Is t (fun _ => textR ⟨a1, a2, a3, a4, a5⟩)) :
    ACalls G Tryz.prog 25 [.agg [.lit (.int .i64 a1), .lit (.string a2), .lit (.string a3), .lit (.string a4), .lit (.string a5)]] (.lit (.string t)) none := by
  refine acalls_fn hst mixed tau_ok Tryz.func25 (by kernel_rfl) (by kernel_rfl) (by kernel_rfl) ?_
  intro Q hQ
  cbv
  intro b1 h1
  cbv
  cases b1
  have hw : WK a1 ⟨#[63]⟩ := wordK_no (by have := h1.no; omega)
  rotate_left
  cbv
  intro b2 h2
  cbv
  cases b2
  have hw : WK a1 ⟨#[63]⟩ := wordK_no (by have := h2.no; omega)
  rotate_left
  cbv
  intro q hq
  have eq : q = a1 - 1 := hq.i64 (by have := h1.yes; omega) (by have := h2.yes; omega)
  have hqr : 0 ≤ q ∧ q.toNat < 3 := ⟨by have := h1.yes; omega, by have := h2.yes; omega⟩
  have hka : 1 ≤ a1 ∧ a1 ≤ 3 := ⟨h1.yes, h2.yes⟩
  clear hq
  cbv
  refine ⟨⟨hqr⟩, ?_⟩
  intro r hr
  obtain ⟨w, hw', rfl⟩ := hr.row (show wordsK.map encS = _ from rfl)
  have hw : WK a1 w := wordsK_at hka (eq ▸ hw')
  clear eq hqr hka hr hw'
  all_goals
    cbv
    refine ⟨Sz.req hw.sz (Sz.l _ (by decide)) (by omega), ?_⟩
    intro s1 g1
    have z1 := Sz.app g1 hw.sz (Sz.l _ (by decide))
    cbv
    refine ⟨Sz.req z1 hs.h2 (by omega), ?_⟩
    intro s2 g2
    have z2 := Sz.app g2 z1 hs.h2
    cbv
    refine ⟨Sz.req z2 (Sz.l _ (by decide)) (by omega), ?_⟩
    intro s3 g3
    have z3 := Sz.app g3 z2 (Sz.l _ (by decide))
    cbv
    refine ⟨Sz.req z3 hs.h4 (by omega), ?_⟩
    intro s4 g4
    have z4 := Sz.app g4 z3 hs.h4
    cbv
    refine ⟨Sz.req z4 (Sz.l _ (by decide)) (by omega), ?_⟩
    intro s5 g5
    have z5 := Sz.app g5 z4 (Sz.l _ (by decide))
    cbv
    refine ⟨Sz.req z5 hs.h5 (by omega), ?_⟩
    intro s6 g6
    have z6 := Sz.app g6 z5 hs.h5
    have e6 : s6 = wordK a1 ++ sp ++ a2 ++ sp ++ a4 ++ sp ++ a5 := by
      rw [g6.out, g5.out, g4.out, g3.out, g2.out, g1.out, hw.out]
      rfl
    have q6 : Is s6 (fun _ => wordK a1 ++ sp ++ a2 ++ sp ++ a4 ++ sp ++ a5) := ⟨e6⟩
    clear e6 g6 g5 g4 g3 g2 g1 hw
    cbv
    intro b4 h4
    cbv
    cases b4
    · have e3 : a3 = ⟨#[]⟩ := Decidable.not_not.1 h4.no
      cbv
      have e : s6 = t := by rw [ht.out, q6.out]; exact (if_pos e3).symm
      subst e
      try exact ⟨rfl, trivial⟩
    · have e3 : ¬ a3 = ⟨#[]⟩ := h4.yes
      cbv
      refine ⟨Sz.req z6 (Sz.l _ (by decide)) (by omega), ?_⟩
      intro s7 g7
      have z7 := Sz.app g7 z6 (Sz.l _ (by decide))
      cbv
      refine ⟨Sz.req z7 hs.h3 (by omega), ?_⟩
      intro s8 g8
      have z8 := Sz.app g8 z7 hs.h3
      cbv
      refine ⟨Sz.req z8 (Sz.l _ (by decide)) (by omega), ?_⟩
      intro s9 g9
      have e : s9 = t := by
        rw [ht.out, g9.out, g8.out, g7.out, q6.out]
        refine Eq.trans ?_ (if_neg e3).symm
        rfl
      subst e
      cbv
      try exact ⟨rfl, trivial⟩
end Go.Proofs.YtbjfmkmaghapgaaGreatDoor.B

set_option linter.unusedVariables false
set_option linter.unusedSimpArgs false
namespace Go.Proofs.YtbjfmkmaghapgaaGreatDoor.B
open Go.RowKit
/-- The rules of the state, as rows. -/
structure Onc (l : List En) (room : ByteArray) (R : List Rl) (Z : List (List PV)) (ns : Nat) : Prop where
  e : R = extractR l room
  z : R.map encR = Z
  n : Z.length = ns
  hn : ns = R.length
  small : ns ≤ 1000000
theorem Onc.pw {l : List En} {room : ByteArray} {R : List Rl} {Z : List (List PV)} {n : Nat} (h : Onc l room R Z n) : R.Pairwise ltR := by rw [h.e]; exact sortU_lt _
theorem Onc.mem {l : List En} {room : ByteArray} {R : List Rl} {Z : List (List PV)} {n : Nat} (h : Onc l room R Z n) {i : Nat} {x : Rl} (hx : R[i]? = some x) : x ∈ extractR l room := h.e ▸ List.mem_of_getElem? hx
theorem rulesOf_len (l : List En) (room : ByteArray) : (rulesOf l room).length ≤ l.length := by
  unfold rulesOf
  refine Nat.le_trans (List.length_filterMap_le _ _) ?_
  rw [List.length_zipIdx]
  exact Nat.le_refl _
theorem extractR_len (l : List En) (room : ByteArray) : (extractR l room).length ≤ l.length := Nat.le_trans (sortU_len _) (rulesOf_len l room)
theorem Onc.at {l : List En} {room : ByteArray} {R : List Rl} {Z : List (List PV)} {n : Nat} (h : Onc l room R Z n) {i m : Int} (h0 : 0 ≤ i) (hm : Is m (fun _ => (Z.length : Int))) (hi : i < m) : ∃ x, R[i.toNat]? = some x :=
  ⟨_, List.getElem?_eq_getElem (show i.toNat < R.length by have e1 := hm.len; have e2 := h.n; have e3 := h.hn; omega)⟩
/-- Two rules at different places are not of the same kind and key. -/
theorem Onc.apart {l : List En} {room : ByteArray} {R : List Rl} {Z : List (List PV)} {n : Nat} (h : Onc l room R Z n) {i k : Nat} {x y : Rl} (hy : R[k]? = some y) (hx : R[i]? = some x) (hlt : k < i) (h1 : y.kind = x.kind) (h2 : y.key = x.key) : False :=
  lt_ne h.pw hy hx hlt (once_same (h.mem hy) (h.mem hx) h1 h2)
/-- A goal that several branches come to. -/
structure Keep (p : Prop) : Prop where
  out : p
theorem cut {P Q : Prop} (f : Keep P → Q) (p : P) : Q := f ⟨p⟩
theorem cutH {P Q : Prop} (H : Prop) (f : (H → Keep P) → Q) (p : H → P) : Q := f (fun h => ⟨p h⟩)
set_option maxRecDepth 100000 in
set_option maxHeartbeats 16000000 in
theorem rulesOnce_ac {G : World → Prop} (hB : Base G) (c1 c2 c3 : ByteArray) (MX UX VX : List (List PV)) (n1 n2 n3 n4 n5 n6 n7 : Int) (l : List En) (X : List (List PV)) (hX : l.map encEn = X) (room : ByteArray)
    (hL : ∃ c : Bool, ACalls G Tryz.prog 7 [.agg [.lit (.string c1), .lit (.string c2), .sl MX, .sl UX, .sl VX, .lit (.int .i64 n1), .lit (.int .i64 n2), .lit (.int .i64 n3), .lit (.int .i64 n4), .lit (.int .i64 n5), .lit (.int .i64 n6), .lit (.int .i64 n7), .lit (.string c3), .sl X]] (.lit (.bool c)) none ∧ (c = true → l.length ≤ 1000000 ∧ ∀ x, x ∈ l → x.body.size ≤ 1000000 ∧ okB x.body = true)) :
    ACalls G Tryz.prog 3 [.agg [.lit (.string c1), .lit (.string c2), .sl MX, .sl UX, .sl VX, .lit (.int .i64 n1), .lit (.int .i64 n2), .lit (.int .i64 n3), .lit (.int .i64 n4), .lit (.int .i64 n5), .lit (.int .i64 n6), .lit (.int .i64 n7), .lit (.string c3), .sl X], .lit (.string room)] (.lit (.bool true)) none := by
  have hXl : X.length = l.length := by rw [← hX]; simp
  obtain ⟨c, hcA, hcl⟩ := hL
  refine acalls_fn hB.st mixed tau_ok Tryz.func3 (by kernel_rfl) (by kernel_rfl) (by kernel_rfl) ?_
  intro Q hQ
  cbv
  refine Or.inl ⟨_, _, hQ _ _ _ _ (lives_ac hB), ?_⟩
  cbv
  intro b1 h1
  cbv
  have e : b1 = false := by have := h1.out; simpa using this
  subst e
  cbv
  refine Or.inl ⟨_, _, hQ _ _ _ _ hcA, ?_⟩
  cbv
  intro b2 h2
  cbv
  cases c
  · have e : b2 = true := by have := h2.out; simpa using this
    subst e
    cbv
  have e : b2 = false := by have := h2.out; simpa using this
  subst e
  obtain ⟨hl, hbig⟩ := hcl rfl
  clear hcl hcA
  cbv
  intro m1 g1
  cbv
  intro b3 h3
  cbv
  cases b3
  rotate_left
  · cbv
  cbv
  obtain ⟨R, hR⟩ : ∃ R, R = extractR l room := ⟨_, rfl⟩
  obtain ⟨Z, hZ⟩ : ∃ Z, R.map encR = Z := ⟨_, rfl⟩
  obtain ⟨nR, hnR⟩ : ∃ n, Z.length = n := ⟨_, rfl⟩
  have S : Onc l room R Z nR := by
    have e1 : nR = R.length := by rw [← hnR, ← hZ]; simp
    have e2 := extractR_len l room
    exact ⟨hR, hZ, hnR, e1, by rw [e1, hR]; omega⟩
  clear hR hZ hnR
  refine Or.inl ⟨_, _, hQ _ _ _ _ (extract_ac hB.st hB.valid hB.check hB.sort hB.sort0 l X hX hl hbig c1 c2 c3 MX UX VX n1 n2 n3 n4 n5 n6 n7 room Z ⟨by rw [← S.z, S.e]⟩), ?_⟩
  cbv
  refine Or.inr ⟨[1, 2, 5], [560002], Int, fun i => [(.t 6, ⟨.pv (.lit (.int .i64 i)), none, none⟩)], Upto1 nR, fun i => nR - i.toNat, 0, (show Upto1 nR 0 from ⟨by omega, by omega⟩), ?_, ?_⟩
  · cbv
    simp
  intro i hi
  have hi : Upto1 nR i := hi
  cbv
  intro m2 g2
  cbv
  intro b4 h4
  cbv
  cases b4
  · cbv
  obtain ⟨x, hx⟩ := S.at hi.lo g2 h4.yes
  obtain ⟨x1, x2, x3, x4, x5⟩ := x
  have again : ∀ {z : Rl}, R[i.toNat]? = some z → z = ⟨x1, x2, x3, x4, x5⟩ := fun {z} hz => by rw [hx] at hz; cases hz; rfl
  have hxr : x4 = room := once_room (S.mem hx)
  apply cut
  · intro rest
    cbv
    intro b5 h5
    cbv
    cases b5
    · cbv
      refine ⟨g2.atL hi.lo h4.yes, ?_⟩
      intro r hr2
      obtain ⟨z, hz, rfl⟩ := hr2.row S.z
      obtain rfl := again hz
      cbv
      intro b7 h7
      have eb : b7 = false := by rw [h7.out]; exact decide_eq_false (fun q => q hxr)
      subst eb
      cbv
      refine Or.inr ⟨[1, 2, 5, 6], [560002], Int, fun k => [(.t 7, ⟨.pv (.lit (.int .i64 k)), none, none⟩)], Upto1 i.toNat, fun k => i.toNat - k.toNat, 0, (show Upto1 i.toNat 0 from ⟨by omega, by omega⟩), ?_, ?_⟩
      · cbv
        simp
      · exact rest.out
    · cbv
      intro q hq
      have eq : q = i - 1 := hq.sub1 (by have := h5.yes; omega) (by have e1 := g2.len; have e2 := h4.yes; have := S.n; have := S.small; omega)
      have hqr : 0 ≤ q ∧ q.toNat < Z.length := ⟨by have := h5.yes; omega, by have e1 := g2.len; have e2 := h4.yes; have := h5.yes; omega⟩
      have eqn : i.toNat = q.toNat + 1 := by have := h5.yes; omega
      cbv
      refine ⟨⟨hqr⟩, ?_⟩
      intro r hr0
      obtain ⟨p, hp, rfl⟩ := hr0.row S.z
      obtain ⟨p1, p2, p3, p4, p5⟩ := p
      cbv
      refine ⟨g2.atL hi.lo h4.yes, ?_⟩
      intro r hr1
      obtain ⟨z, hz, rfl⟩ := hr1.row S.z
      obtain rfl := again hz
      have hadj := adj S.pw hp (eqn ▸ hx)
      cbv
      refine Or.inl ⟨_, _, hQ _ _ _ _ (compareR_ac hB.st ⟨p1, p2, p3, p4, p5⟩ ⟨x1, x2, x3, x4, x5⟩ (-1) ⟨hadj.1.symm⟩), ?_⟩
      cbv
      intro b6 h6
      have eb : b6 = false := h6.out
      subst eb
      cbv
      refine ⟨g2.atL hi.lo h4.yes, ?_⟩
      intro r hr2
      obtain ⟨z, hz, rfl⟩ := hr2.row S.z
      obtain rfl := again hz
      cbv
      intro b7 h7
      have eb : b7 = false := by rw [h7.out]; exact decide_eq_false (fun q => q hxr)
      subst eb
      cbv
      refine Or.inr ⟨[1, 2, 5, 6], [560002], Int, fun k => [(.t 7, ⟨.pv (.lit (.int .i64 k)), none, none⟩)], Upto1 i.toNat, fun k => i.toNat - k.toNat, 0, (show Upto1 i.toNat 0 from ⟨by omega, by omega⟩), ?_, ?_⟩
      · cbv
        simp
      · exact rest.out
  -- no earlier one is of its kind and key
  intro k hk
  have hk : Upto1 i.toNat k := hk
  cbv
  intro b8 h8
  cbv
  cases b8
  rotate_left
  · have hkr : 0 ≤ k ∧ k.toNat < Z.length := ⟨hk.lo, by have e1 := g2.len; have e2 := h4.yes; have e3 := h8.yes; have := hk.lo; have := hi.lo; omega⟩
    have hlt : k.toNat < i.toNat := by have e3 := h8.yes; have := hk.lo; have := hi.lo; omega
    cbv
    refine ⟨⟨hkr⟩, ?_⟩
    intro r hr0
    obtain ⟨p, hp, rfl⟩ := hr0.row S.z
    obtain ⟨p1, p2, p3, p4, p5⟩ := p
    cbv
    refine ⟨g2.atL hi.lo h4.yes, ?_⟩
    intro r hr1
    obtain ⟨z, hz, rfl⟩ := hr1.row S.z
    obtain rfl := again hz
    have hap := S.apart hp hx hlt
    apply cut
    · intro next
      cbv
      intro b9 h9
      cbv
      cases b9
      · cbv
        exact next.out
      · have e9 : p1 = x1 := h9.yes
        cbv
        refine ⟨⟨hkr⟩, ?_⟩
        intro r hr2
        obtain ⟨z, hz, rfl⟩ := hr2.row S.z
        obtain rfl : z = ⟨p1, p2, p3, p4, p5⟩ := by rw [hp] at hz; cases hz; rfl
        cbv
        refine ⟨g2.atL hi.lo h4.yes, ?_⟩
        intro r hr3
        obtain ⟨z, hz, rfl⟩ := hr3.row S.z
        obtain rfl := again hz
        cbv
        intro b10 h10
        have eb : b10 = false := by
          rw [h10.out]
          exact decide_eq_false (fun e10 => hap e9 e10)
        subst eb
        cbv
        exact next.out
    cbv
    intro k' hk'
    cbv
    have e1 := hk.lo
    have e2 := hi.hi
    have e3 := S.small
    have e4 := hk'.add1 (by omega) (by omega)
    refine ⟨k', ⟨by omega, by omega⟩, ?_, ?_⟩
    · show i.toNat - k'.toNat < i.toNat - k.toNat
      omega
    · cbv
      simp
  -- the entry that counts
  clear h8
  cbv
  refine Or.inr ⟨[1, 2, 5, 6], [560002], Int × Int × Int, fun p => [(.t 10, ⟨.pv (.lit (.int .i64 p.1)), none, none⟩), (.t 8, ⟨.pv (.lit (.int .i64 p.2.1)), none, none⟩), (.t 9, ⟨.pv (.lit (.int .i64 p.2.2)), none, none⟩)], fun p => BestAt l x1 x5 p.1 p.2.1 p.2.2, fun p => X.length - p.1.toNat, (0, 9, -1), BestAt.zero l x1 x5, ?_, ?_⟩
  · cbv
    simp
  intro ⟨j, bs, a⟩ hj
  have hj : BestAt l x1 x5 j bs a := hj
  cbv
  intro m3 g3
  cbv
  intro b9 h9
  cbv
  cases b9
  rotate_left
  · cbv
    refine ⟨g3.atL hj.lo h9.yes, ?_⟩
    intro r hr
    obtain ⟨en, hen, rfl⟩ := hr.row hX
    obtain ⟨typ, key', id, by_, k', n, t, KX, IX, hE, hee⟩ := EnRow.of en
    have hen2 : ∀ {z : En}, l[j.toNat]? = some z → z = en := fun {z} hz => by rw [hen] at hz; cases hz; rfl
    rw [hee]
    cbv
    obtain ⟨kd, rk, d, hk⟩ := KindR.of typ
    refine Or.inl ⟨_, _, hQ _ _ _ _ (kindOf_ac hB.st typ kd rk d hk), ?_⟩
    apply cutH (∀ r, kindOf en.typ = some (x1, r) → en.key = x5 → bs ≤ r)
    · intro next
      cbv
      cases d
      · have hn : kindOf en.typ = none := by
          rcases hk.out with ⟨h, _⟩ | ⟨_, h, _⟩
          · cases h
          · rw [hE.h1]; exact h
        cbv
        exact (next (fun r hr _ => by rw [hn] at hr; cases hr)).out
      · have hkn : kindOf en.typ = some (kd, rk) := by
          rcases hk.out with ⟨_, h⟩ | ⟨h, _⟩
          · rw [hE.h1]; exact h
          · cases h
        clear hk
        cbv
        refine ⟨g2.atL hi.lo h4.yes, ?_⟩
        intro r hr1
        obtain ⟨z, hz, rfl⟩ := hr1.row S.z
        obtain rfl := again hz
        cbv
        intro b10 h10
        cbv
        cases b10
        · cbv
          exact (next (fun r hr _ => by rw [hkn] at hr; cases hr; exact absurd rfl h10.no)).out
        · cbv
          refine ⟨g3.atL hj.lo h9.yes, ?_⟩
          intro r hr2
          obtain ⟨z, hz, rfl⟩ := hr2.row hX
          obtain rfl := hen2 hz
          rw [hee]
          cbv
          refine ⟨g2.atL hi.lo h4.yes, ?_⟩
          intro r hr3
          obtain ⟨z, hz, rfl⟩ := hr3.row S.z
          obtain rfl := again hz
          cbv
          intro b11 h11
          cbv
          cases b11
          · cbv
            exact (next (fun r hr hk => absurd (hE.h2.symm.trans hk) h11.no)).out
          · cbv
            intro b12 h12
            cbv
            cases b12
            · cbv
              exact (next (fun r hr hk => by
                rw [hkn] at hr
                cases hr
                have := h12.no
                omega)).out
            · cbv
              intro j' hj'
              cbv
              have e1 := g3.len
              have e2 := h9.yes
              have e3 := hj.lo
              have e4 := hj'.add1 (by omega) (by omega)
              have ek : kd = x1 := h10.yes
              refine ⟨(j', rk, j), ?_, ?_, ?_⟩
              · rw [e4]
                exact hj.take hen (ek ▸ hkn) (hE.h2.trans h11.yes) h12.yes
              · show X.length - j'.toNat < X.length - j.toNat
                omega
              · cbv
                simp
    · intro hn
      cbv
      intro j' hj'
      cbv
      have e1 := g3.len
      have e2 := h9.yes
      have e3 := hj.lo
      have e4 := hj'.add1 (by omega) (by omega)
      refine ⟨(j', bs, a), ?_, ?_, ?_⟩
      · rw [e4]
        exact hj.keep hen hn
      · show X.length - j'.toNat < X.length - j.toNat
        omega
      · cbv
        simp
  -- it declares the rule
  obtain ⟨ha0, en, hen, hof⟩ := BestAt.found (S.mem hx) hj (by have e1 := g3.len; have e2 := h9.no; omega)
  have har : 0 ≤ a ∧ a.toNat < X.length := ⟨ha0, by have := (List.getElem?_eq_some_iff.1 hen).1; omega⟩
  clear h9 g3 hj
  cbv
  intro b10 h10
  have eb : b10 = false := by rw [h10.out]; exact decide_eq_false (by omega)
  subst eb
  cbv
  refine ⟨⟨har⟩, ?_⟩
  intro r hr
  obtain ⟨z, hz, rfl⟩ := hr.row hX
  obtain rfl : z = en := by rw [hen] at hz; cases hz; rfl
  obtain ⟨typ, key', id, by_, k', n, t, KX, IX, hE, hee⟩ := EnRow.of z
  rw [hee]
  cbv
  refine Or.inl ⟨_, _, hQ _ _ _ _ (of_ac hB.st hB.valid hB.check typ key' id by_ z.body k' n t KX IX (hbig _ (List.mem_of_getElem? hz)).1 (hbig _ (List.mem_of_getElem? hz)).2 hE.hJ room ⟨x1, x2, x3, x4, x5⟩ true ⟨.inl ⟨rfl, by rw [← hE.h1, ← hE.h2]; exact hof⟩⟩), ?_⟩
  cbv
  intro b12 h12
  have eb : b12 = false := h12.out
  subst eb
  cbv
  refine ⟨g2.atL hi.lo h4.yes, ?_⟩
  intro r hr1
  obtain ⟨y, hy, rfl⟩ := hr1.row S.z
  obtain rfl := again hy
  cbv
  intro b11 h11
  have eb : b11 = false := (h11.out.trans (neR ⟨x1, x2, x3, x4, x5⟩ ⟨x1, x2, x3, x4, x5⟩)).trans (decide_eq_false (fun q => q rfl))
  subst eb
  cbv
  intro i' hi'
  cbv
  have e1 := g2.len
  have e2 := h4.yes
  have e3 := S.n
  have e5 := S.small
  have e4 := hi'.add1 (by have := hi.lo; omega) (by omega)
  refine ⟨i', ⟨by have := hi.lo; omega, by omega⟩, ?_, ?_⟩
  · show nR - i'.toNat < nR - i.toNat
    have := hi.lo
    omega
  · cbv
    simp
end Go.Proofs.YtbjfmkmaghapgaaGreatDoor.B

set_option linter.unusedVariables false
set_option linter.unusedSimpArgs false
namespace Go.Proofs.YtbjfmkmaghapgaaGreatDoor.B
open Go.RowKit
/-- Two lists in order, so far put together. -/
structure Mrg (l : List Rl) (A B O : List (List PV)) (a b o : List Rl) : Prop where
  ha : a.map encR = A
  hb : b.map encR = B
  ho : o.map encR = O
  pa : (o ++ a).Pairwise ltR
  pb : (o ++ b).Pairwise ltR
  mem : ∀ x, x ∈ l ↔ x ∈ o ∨ x ∈ a ∨ x ∈ b
  len : o.length + a.length + b.length ≤ 1000000
def MrgI (l : List Rl) (p : List (List PV) × List (List PV) × List (List PV)) : Prop := ∃ a b o, Mrg l p.1 p.2.1 p.2.2 a b o
theorem pw_app {a b : List Rl} : (a ++ b).Pairwise ltR ↔ a.Pairwise ltR ∧ b.Pairwise ltR ∧ ∀ x, x ∈ a → ∀ y, y ∈ b → ltR x y := List.pairwise_append
theorem ltR_trans {x y z : Rl} (h1 : ltR x y) (h2 : ltR y z) : ltR x z := cmpr_R.trans _ _ _ h1 h2
/-- The first of one list, which is before the first of the other, goes over. -/
theorem take_pw {o a b : List Rl} {x y : Rl} (pa : (o ++ x :: a).Pairwise ltR) (pb : (o ++ y :: b).Pairwise ltR) (h : ltR x y) : ((o ++ [x]) ++ a).Pairwise ltR ∧ ((o ++ [x]) ++ y :: b).Pairwise ltR := by
  refine ⟨by rw [List.append_assoc]; exact pa, ?_⟩
  obtain ⟨h1, h2, h3⟩ := pw_app.1 pa
  obtain ⟨g1, g2, g3⟩ := pw_app.1 pb
  refine pw_app.2 ⟨pw_app.2 ⟨h1, List.pairwise_singleton _ _, fun u hu v hv => ?_⟩, g2, fun u hu v hv => ?_⟩
  · rw [List.mem_singleton.1 hv]
    exact h3 u hu x (List.mem_cons_self ..)
  · rcases List.mem_append.1 hu with hu | hu
    · exact g3 u hu v hv
    · rw [List.mem_singleton.1 hu]
      rcases List.mem_cons.1 hv with rfl | hv
      · exact h
      · exact ltR_trans h ((List.pairwise_cons.1 g2).1 v hv)
theorem Mrg.left {l : List Rl} {A B O : List (List PV)} {a b o : List Rl} {x y : Rl} (h : Mrg l A B O (x :: a) (y :: b) o) (hxy : cmpR x y = -1) : Mrg l (A.drop 1) B (O ++ [encR x]) a (y :: b) (o ++ [x]) := by
  obtain ⟨p1, p2⟩ := take_pw h.pa h.pb hxy
  refine ⟨by rw [← h.ha]; rfl, h.hb, by rw [List.map_append, h.ho]; rfl, p1, p2, fun z => ?_, by have := h.len; simp only [List.length_append, List.length_cons, List.length_nil] at *; omega⟩
  rw [h.mem z]
  simp only [List.mem_append, List.mem_cons, List.mem_singleton, List.not_mem_nil, or_false]
  constructor
  · rintro (q | (q | q) | q)
    · exact .inl (.inl q)
    · exact .inl (.inr q)
    · exact .inr (.inl q)
    · exact .inr (.inr q)
  · rintro ((q | q) | q | q)
    · exact .inl q
    · exact .inr (.inl (.inl q))
    · exact .inr (.inl (.inr q))
    · exact .inr (.inr q)
theorem Mrg.right {l : List Rl} {A B O : List (List PV)} {a b o : List Rl} {x y : Rl} (h : Mrg l A B O (x :: a) (y :: b) o) (hxy : cmpR x y = 1) : Mrg l A (B.drop 1) (O ++ [encR y]) (x :: a) b (o ++ [y]) := by
  have hyx : cmpR y x = -1 := by have := cmpr_R.swap x y; omega
  obtain ⟨p1, p2⟩ := take_pw h.pb h.pa hyx
  refine ⟨h.ha, by rw [← h.hb]; rfl, by rw [List.map_append, h.ho]; rfl, p2, p1, fun z => ?_, by have := h.len; simp only [List.length_append, List.length_cons, List.length_nil] at *; omega⟩
  rw [h.mem z]
  simp only [List.mem_append, List.mem_cons, List.mem_singleton, List.not_mem_nil, or_false]
  constructor
  · rintro (q | q | (q | q))
    · exact .inl (.inl q)
    · exact .inr (.inl q)
    · exact .inl (.inr q)
    · exact .inr (.inr q)
  · rintro ((q | q) | q | q)
    · exact .inl q
    · exact .inr (.inr (.inl q))
    · exact .inr (.inl q)
    · exact .inr (.inr (.inr q))
theorem Mrg.both {l : List Rl} {A B O : List (List PV)} {a b o : List Rl} {x y : Rl} (h : Mrg l A B O (x :: a) (y :: b) o) (hxy : cmpR x y = 0) : Mrg l A (B.drop 1) O (x :: a) b o := by
  have e := cmpR_zero hxy
  subst e
  obtain ⟨g1, g2, g3⟩ := pw_app.1 h.pb
  refine ⟨h.ha, by rw [← h.hb]; rfl, h.ho, h.pa, pw_app.2 ⟨g1, (List.pairwise_cons.1 g2).2, fun u hu v hv => g3 u hu v (List.mem_cons_of_mem _ hv)⟩, fun z => ?_, by have := h.len; simp only [List.length_cons] at *; omega⟩
  rw [h.mem z]
  simp only [List.mem_cons]
  constructor
  · rintro (q | q | (q | q))
    · exact .inl q
    · exact .inr (.inl q)
    · exact .inr (.inl (.inl q))
    · exact .inr (.inr q)
  · rintro (q | q | q)
    · exact .inl q
    · exact .inr (.inl q)
    · exact .inr (.inr (.inr q))
theorem Mrg.done {l : List Rl} {A B O : List (List PV)} {a b o : List Rl} (h : Mrg l A B O a b o) (he : A = [] ∨ B = []) : (sortU l).map encR = (O ++ A) ++ B := by
  have hnil : ∀ {c : List Rl} {C : List (List PV)}, c.map encR = C → C = [] → c = [] := fun h1 h2 => by subst h2; exact List.map_eq_nil_iff.1 h1
  have key : ∀ {m : List Rl}, m.Pairwise ltR → (∀ x, x ∈ l ↔ x ∈ m) → sortU l = m := fun hp hm => by
    rw [sortU_congr hm, sortU_self hp]
  rcases he with e | e
  · have ea := hnil h.ha e
    subst ea
    rw [key h.pb (fun x => by rw [h.mem x]; simp), e, List.append_nil, List.map_append, h.ho, h.hb]
  · have eb := hnil h.hb e
    subst eb
    rw [key h.pa (fun x => by rw [h.mem x]; simp), e, List.append_nil, List.map_append, h.ho, h.ha]
theorem sortU_short {l : List Rl} (h : l.length < 2) : sortU l = l := by
  refine sortU_self ?_
  match l, h with
  | [], _ => exact List.Pairwise.nil
  | [x], _ => exact List.pairwise_singleton _ _
structure Pos (n : Nat) : Prop where
  out : 0 < n
/-- Half of a length, whenever it is computed. -/
structure Half (n : Nat) (q : Int) : Prop where
  out : ∀ {z q' : Int}, z = n → Is q' (fun _ => IntKind.i64.wrap (z.tdiv 2)) → q' = q
set_option maxRecDepth 100000 in
set_option maxHeartbeats 16000000 in
theorem rsortR_ac {G : World → Prop} (hst : Stable G) : ∀ (sz : Nat) (l : List Rl) (X : List (List PV)), l.length < sz → l.length ≤ 1000000 → l.map encR = X → ∀ (Z : List (List PV)), Is Z (fun _ => (sortU l).map encR) →
    ACalls G Tryz.prog 30 [.sl X] (.sl Z) none := by
  intro sz
  induction sz with
  | zero =>
    intro l X hl0 hl hX Z hZ
    omega
  | succ sz ih =>
    intro l X hl0 hl hX Z hZ
    have hXl : X.length = l.length := by rw [← hX]; simp
    have hX5 : ∀ r, r ∈ X → r.length = 5 := hX ▸ lenR l
    refine acalls_fn hst mixed tau_ok Tryz.func30 (by kernel_rfl) (by kernel_rfl) (by kernel_rfl) ?_
    intro Q hQ
    cbv
    intro m1 g1
    cbv
    intro b1 h1
    cbv
    cases b1
    rotate_left
    · have hs : l.length < 2 := by have e1 := g1.len; have e2 := h1.yes; omega
      have eZ : Z = X := by rw [hZ.out, sortU_short hs, hX]
      subst eZ
      cbv
      refine ⟨⟨by simp only [List.length_nil]; omega, fun r hr => by simp at hr, hX5⟩, ?_⟩
      intro M hM
      obtain rfl : M = Z := hM.out
      cbv
      try first | exact ⟨rfl, trivial⟩ | exact Or.inr trivial | exact Or.inl rfl
    have hge : 2 ≤ l.length := by have e1 := g1.len; have e2 := h1.no; omega
    clear g1 h1
    cbv
    intro m2 g2
    cbv
    refine ⟨⟨by decide⟩, ?_⟩
    intro q hq
    have e2 : m2 = l.length := by have := g2.len; omega
    have eq : q = m2 / 2 := by
      have ht : m2.tdiv 2 = m2 / 2 := Int.tdiv_eq_ediv_of_nonneg (by omega)
      have h1 : q = m2.tdiv 2 := hq.i64 (by rw [ht]; omega) (by rw [ht]; omega)
      rw [h1, ht]
    have eqL : ∀ {z q' : Int}, z = l.length → Is q' (fun _ => IntKind.i64.wrap (z.tdiv 2)) → q' = q := fun {z q'} hz hq' => by
      have ht : z.tdiv 2 = z / 2 := Int.tdiv_eq_ediv_of_nonneg (by omega)
      have h1 : q' = z.tdiv 2 := hq'.i64 (by rw [ht]; omega) (by rw [ht]; omega)
      rw [h1, ht]
      omega
    have hq1 : 0 ≤ q ∧ q ≤ (X.length : Int) ∧ ∀ r, r ∈ X → r.length = 5 := ⟨by omega, by omega, hX5⟩
    have hqn : 1 ≤ q.toNat ∧ q.toNat < l.length := ⟨by omega, by omega⟩
    clear hq eq e2 g2
    have eqL : Half l.length q := ⟨eqL⟩
    cbv
    refine ⟨⟨hq1⟩, ?_⟩
    intro Y hY
    have hYe : (l.take q.toNat).map encR = Y := by rw [hY.out, ← hX, List.map_take]
    clear hY
    cbv
    obtain ⟨ZA, hZA⟩ : ∃ ZA, Is ZA (fun _ => (sortU (l.take q.toNat)).map encR) := ⟨_, ⟨rfl⟩⟩
    refine Or.inl ⟨_, _, hQ _ _ _ _ (ih (l.take q.toNat) Y (by rw [List.length_take]; omega) (by rw [List.length_take]; omega) hYe ZA hZA), ?_⟩
    cbv
    intro m3 g3
    cbv
    refine ⟨⟨by decide⟩, ?_⟩
    intro q2 hq2
    have eq2 : q2 = q   := eqL.out (by have := g3.len; omega) hq2
    subst eq2
    clear hq2 g3
    cbv
    refine ⟨⟨hq1⟩, ?_⟩
    intro Y2 hY2
    have hY2e : (l.drop q2.toNat).map encR = Y2 := by rw [hY2.out, ← hX, List.map_drop]
    clear hY2
    cbv
    obtain ⟨ZB, hZB⟩ : ∃ ZB, Is ZB (fun _ => (sortU (l.drop q2.toNat)).map encR) := ⟨_, ⟨rfl⟩⟩
    refine Or.inl ⟨_, _, hQ _ _ _ _ (ih (l.drop q2.toNat) Y2 (by rw [List.length_drop]; omega) (by rw [List.length_drop]; omega) hY2e ZB hZB), ?_⟩
    have hM0 : MrgI l (ZA, ZB, []) := by
      refine ⟨sortU (l.take q2.toNat), sortU (l.drop q2.toNat), [], hZA.out.symm, hZB.out.symm, rfl, sortU_lt _, sortU_lt _, fun x => ?_, ?_⟩
      · rw [mem_sortU, mem_sortU]
        have := congrArg (fun m => x ∈ m) (List.take_append_drop q2.toNat l)
        simp only [List.mem_append, eq_iff_iff] at this
        rw [← this]
        simp
      · have h1 := sortU_len (l.take q2.toNat)
        have h2 := sortU_len (l.drop q2.toNat)
        rw [List.length_take] at h1
        rw [List.length_drop] at h2
        simp only [List.length_nil]
        omega
    clear hZA hZB hYe hY2e hq1 hqn
    cbv
    refine Or.inr ⟨[], [], List (List PV) × List (List PV) × List (List PV), fun p => [(.t 3, ⟨.pv (.sl p.1), none, none⟩), (.t 4, ⟨.pv (.sl p.2.1), none, none⟩), (.t 5, ⟨.pv (.sl p.2.2), some (36, 5), none⟩)], MrgI l, fun p => p.1.length + p.2.1.length, (ZA, ZB, []), hM0, ?_, ?_⟩
    · cbv
      simp
    clear hM0
    intro ⟨A, B, O⟩ hp
    obtain ⟨a, b, o, hm⟩ : ∃ a b o, Mrg l A B O a b o := hp
    have hA5 : ∀ r, r ∈ A → r.length = 5 := hm.ha ▸ lenR a
    have hB5 : ∀ r, r ∈ B → r.length = 5 := hm.hb ▸ lenR b
    have hO5 : ∀ r, r ∈ O → r.length = 5 := hm.ho ▸ lenR o
    have hlen : A.length = a.length ∧ B.length = b.length ∧ O.length = o.length := ⟨by rw [← hm.ha, List.length_map], by rw [← hm.hb, List.length_map], by rw [← hm.ho, List.length_map]⟩
    have hlm := hm.len
    cbv
    intro m4 g4
    cbv
    intro b2 h2
    cbv
    cases b2
    · have hA0 : A = [] := List.eq_nil_of_length_eq_zero (by have e1 := g4.len; have e2 := h2.no; omega)
      have hfin := hm.done (.inl hA0)
      rw [← hZ.out] at hfin
      cbv
      refine ⟨⟨by omega, hO5, hA5⟩, ?_⟩
      intro M hM
      have hM5 : ∀ r, r ∈ M → r.length = 5 := fun r hr => by rw [hM.out] at hr; rcases List.mem_append.1 hr with h | h; exact hO5 r h; exact hA5 r h
      have hMl : M.length = O.length + A.length := by rw [hM.out, List.length_append]
      cbv
      refine ⟨⟨by omega, hM5, hB5⟩, ?_⟩
      intro M2 hM2
      have e : M2 = Z := by rw [hM2.out, hM.out, hfin]
      subst e
      cbv
      try first | exact ⟨rfl, trivial⟩ | exact Or.inr trivial | exact Or.inl rfl
    cbv
    intro m5 g5
    cbv
    intro b3 h3
    cbv
    cases b3
    · have hB0 : B = [] := List.eq_nil_of_length_eq_zero (by have e1 := g5.len; have e2 := h3.no; omega)
      have hfin := hm.done (.inr hB0)
      rw [← hZ.out] at hfin
      cbv
      refine ⟨⟨by omega, hO5, hA5⟩, ?_⟩
      intro M hM
      have hM5 : ∀ r, r ∈ M → r.length = 5 := fun r hr => by rw [hM.out] at hr; rcases List.mem_append.1 hr with h | h; exact hO5 r h; exact hA5 r h
      have hMl : M.length = O.length + A.length := by rw [hM.out, List.length_append]
      cbv
      refine ⟨⟨by omega, hM5, hB5⟩, ?_⟩
      intro M2 hM2
      have e : M2 = Z := by rw [hM2.out, hM.out, hfin]
      subst e
      cbv
      try first | exact ⟨rfl, trivial⟩ | exact Or.inr trivial | exact Or.inl rfl
    have hA1 : Pos A.length := ⟨by have e1 := g4.len; have e2 := h2.yes; omega⟩
    have hB1 : Pos B.length := ⟨by have e1 := g5.len; have e2 := h3.yes; omega⟩
    clear g4 h2 g5 h3
    obtain ⟨x, a, rfl⟩ : ∃ x a', a = x :: a' := by
      cases a with
      | nil => exact absurd hA1.out (by rw [hlen.1]; exact Nat.lt_irrefl 0)
      | cons x a => exact ⟨x, a, rfl⟩
    obtain ⟨y, b, rfl⟩ : ∃ y b', b = y :: b' := by
      cases b with
      | nil => exact absurd hB1.out (by rw [hlen.2.1]; exact Nat.lt_irrefl 0)
      | cons y b => exact ⟨y, b, rfl⟩
    obtain ⟨c, hc⟩ : ∃ c, Is c (fun _ => cmpR x y) := ⟨_, ⟨rfl⟩⟩
    have hrng := cmpr_R.rng x y
    have hlt : cmpR x y = -1 → Mrg l (A.drop 1) B (O ++ [encR x]) a (y :: b) (o ++ [x]) := hm.left
    have hgt : cmpR x y = 1 → Mrg l A (B.drop 1) (O ++ [encR y]) (x :: a) b (o ++ [y]) := hm.right
    have heq : cmpR x y = 0 → Mrg l A (B.drop 1) O (x :: a) b o := hm.both
    rw [← hc.out] at hrng hlt hgt heq
    obtain ⟨x1, x2, x3, x4, x5⟩ := x
    obtain ⟨y1, y2, y3, y4, y5⟩ := y
    cbv
    refine ⟨⟨Int.le_refl _, hA1.out⟩, ?_⟩
    intro r hr
    obtain ⟨z, hz, rfl⟩ := hr.row hm.ha
    obtain rfl : z = ⟨x1, x2, x3, x4, x5⟩ := by cases hz; rfl
    cbv
    refine ⟨⟨Int.le_refl _, hB1.out⟩, ?_⟩
    intro r hr2
    obtain ⟨z, hz2, rfl⟩ := hr2.row hm.hb
    obtain rfl : z = ⟨y1, y2, y3, y4, y5⟩ := by cases hz2; rfl
    cbv
    refine Or.inl ⟨_, _, hQ _ _ _ _ (rcompareR_ac hst ⟨x1, x2, x3, x4, x5⟩ ⟨y1, y2, y3, y4, y5⟩ c hc), ?_⟩
    clear hr hz hr2 hz2
    cbv
    intro b4 h4
    cbv
    cases b4
    rotate_left
    · have ec : c = -1 := by have := h4.yes; omega
      have hm' := hlt ec
      have hz1 : [(⟨x1, x2, x3, x4, x5⟩ : Rl)].map encR = [[.lit (.int .i64 x1), .lit (.string x2), .lit (.string x3), .lit (.string x4), .lit (.string x5)]] := rfl
      cbv
      refine ⟨⟨Int.le_refl _, hA1.out⟩, ?_⟩
      intro r hr
      obtain ⟨z, hz, rfl⟩ := hr.row hm.ha
      obtain rfl : z = ⟨x1, x2, x3, x4, x5⟩ := by cases hz; rfl
      cbv
      refine ⟨⟨by have := hlen.2.2; simp only [List.length_cons, List.length_nil]; omega, hO5, fun r hr => by simp at hr; subst hr; rfl⟩, ?_⟩
      intro M hM
      cbv
      refine ⟨⟨by omega, Int.ofNat_le.2 hA1.out, hA5⟩, ?_⟩
      intro Y3 hY3
      cbv
      refine ⟨(Y3, B, M), ⟨_, _, _, by rw [hY3.out, hM.out]; exact hm'⟩, ?_, ?_⟩
      · have hp := hA1.out
        show Y3.length + B.length < A.length + B.length
        rw [hY3.out, List.length_drop]
        show A.length - 1 + B.length < A.length + B.length
        omega
      · cbv
        simp
    cbv
    intro b5 h5
    cbv
    cases b5
    · have ec : c = 0 := by have := h4.no; have := h5.no; omega
      have hm' := heq ec
      cbv
      refine ⟨⟨by omega, Int.ofNat_le.2 hB1.out, hB5⟩, ?_⟩
      intro Y3 hY3
      cbv
      refine ⟨(A, Y3, O), ⟨_, _, _, by rw [hY3.out]; exact hm'⟩, ?_, ?_⟩
      · have hp := hB1.out
        show A.length + Y3.length < A.length + B.length
        rw [hY3.out, List.length_drop]
        show A.length + (B.length - 1) < A.length + B.length
        omega
      · cbv
        simp
    · have ec : c = 1 := by have := h5.yes; omega
      have hm' := hgt ec
      have hz1 : [(⟨y1, y2, y3, y4, y5⟩ : Rl)].map encR = [[.lit (.int .i64 y1), .lit (.string y2), .lit (.string y3), .lit (.string y4), .lit (.string y5)]] := rfl
      cbv
      refine ⟨⟨Int.le_refl _, hB1.out⟩, ?_⟩
      intro r hr
      obtain ⟨z, hz, rfl⟩ := hr.row hm.hb
      obtain rfl : z = ⟨y1, y2, y3, y4, y5⟩ := by cases hz; rfl
      cbv
      refine ⟨⟨by have := hlen.2.2; simp only [List.length_cons, List.length_nil]; omega, hO5, fun r hr => by simp at hr; subst hr; rfl⟩, ?_⟩
      intro M hM
      cbv
      refine ⟨⟨by omega, Int.ofNat_le.2 hB1.out, hB5⟩, ?_⟩
      intro Y3 hY3
      cbv
      refine ⟨(A, Y3, M), ⟨_, _, _, by rw [hY3.out, hM.out]; exact hm'⟩, ?_, ?_⟩
      · have hp := hB1.out
        show A.length + Y3.length < A.length + B.length
        rw [hY3.out, List.length_drop]
        show A.length + (B.length - 1) < A.length + B.length
        omega
      · cbv
        simp
end Go.Proofs.YtbjfmkmaghapgaaGreatDoor.B

set_option linter.unusedVariables false
set_option linter.unusedSimpArgs false
namespace Go.Proofs.YtbjfmkmaghapgaaGreatDoor.B
open Go.RowKit
set_option maxRecDepth 100000 in
set_option maxHeartbeats 8000000 in
theorem rget_ac {G : World → Prop} (hst : Stable G) (x : J) (k n : Int) (t : ByteArray) (KX IX : List (List PV)) (hbig : x.size ≤ 1000000) (hJ : JRow x k n t KX IX) (key : ByteArray) (k' n' : Int) (t' : ByteArray) (KX' IX' : List (List PV)) (b : Bool) (hr : GetR x key k' n' t' KX' IX' b) :
    ACalls G Tryz.prog 73 [jp k n t KX IX, .lit (.string key)] (.tup [jp k' n' t' KX' IX', .lit (.bool b)]) none := by
  obtain ⟨ks, is, rfl, hK, hI⟩ := hJ
  have hlen := sizes_len is
  have hs1 : sizes is ≤ 1000000 ∧ ks.length ≤ 1000000 := by simp only [J.size] at hbig; omega
  have hKl : KX.length = ks.length := by rw [← hK]; simp
  have hIl : IX.length = is.length := by rw [← hI]; simp
  have none_ : getJ (.mk k n t ks is) key = none → b = false ∧ k' = 0 ∧ n' = 0 ∧ t' = ⟨#[]⟩ ∧ KX' = [] ∧ IX' = [] := fun h => by
    rcases hr.out with ⟨_, y, hy, _⟩ | ⟨h1, _, h2⟩
    · rw [h] at hy; cases hy
    · exact ⟨h1, h2⟩
  refine acalls_fn hst mixed tau_ok Tryz.func73 (by kernel_rfl) (by kernel_rfl) (by kernel_rfl) ?_
  intro Q hQ
  cbv
  refine Or.inr ⟨[1, 2, 4], [200002, 200004], Int, fun i => [(.t 6, ⟨.pv (.lit (.int .i64 i)), none, none⟩)], NoneYet (fun y => decide (key = y)) ks, fun i => KX.length - i.toNat, 0, NoneYet.zero, ?_, ?_⟩
  · cbv
    simp
  intro i hi
  have hi : NoneYet (fun y => decide (key = y)) ks i := hi
  cbv
  intro m1 g1
  cbv
  intro b1 h1
  cbv
  cases b1
  · have hn : getJ (.mk k n t ks is) key = none := by
      have e1 := g1.len
      have e2 := h1.no
      rw [getJ_mk, idxBy_none _ ks (fun i' x hi' hx => hi.all i' x (by omega) hx)]
      split <;> rfl
    obtain ⟨rfl, rfl, rfl, rfl, rfl, rfl⟩ := none_ hn
    cbv
    try exact ⟨rfl, trivial⟩
  cbv
  obtain ⟨c, hc⟩ : ∃ c, Is c (fun _ => decide (k = 6 ∧ KX.length = IX.length)) := ⟨_, ⟨rfl⟩⟩
  refine Or.inl ⟨_, _, hQ _ _ _ _ (rfits_ac hst k n t KX IX c hc), ?_⟩
  cases c
  · have hn : getJ (.mk k n t ks is) key = none := by
      have h0 := hc.no
      rw [getJ_mk, if_neg (by omega)]
    obtain ⟨rfl, rfl, rfl, rfl, rfl, rfl⟩ := none_ hn
    cbv
    try exact ⟨rfl, trivial⟩
  have hc2 : k = 6 ∧ ks.length = is.length := by have := hc.yes; omega
  clear hc
  cbv
  refine ⟨g1.atL hi.lo h1.yes, ?_⟩
  intro r hr1
  obtain ⟨z, hz, rfl⟩ := hr1.row hK
  cbv
  intro b2 h2
  cbv
  cases b2
  · cbv
    intro i' hi'
    cbv
    have e1 := g1.len
    have e2 := h1.yes
    have e3 := hi.lo
    have e4 := hi'.add1 (by omega) (by omega)
    refine ⟨i', ?_, ?_, ?_⟩
    · rw [e4]
      exact hi.next hz (decide_eq_false (fun q => h2.no q.symm))
    · show KX.length - i'.toNat < KX.length - i.toNat
      omega
    · cbv
      simp
  · have ez : z = key := h2.yes
    have hlt := (List.getElem?_eq_some_iff.1 hz).1
    have hir : 0 ≤ i ∧ i.toNat < IX.length := ⟨hi.lo, by omega⟩
    cbv
    refine ⟨⟨hir⟩, ?_⟩
    intro r hr2
    obtain ⟨y, hy, rfl⟩ := hr2.row hI
    obtain ⟨ky, ny, ty, KY, IY, hJy, hey⟩ := JRow.of y
    rw [hey]
    have hsy := size_mem (List.mem_of_getElem? hy)
    have hg : getJ (.mk k n t ks is) key = some y := by
      have e3 := hi.lo
      rw [getJ_mk, idxBy_at _ ks i.toNat z hz (decide_eq_true ez.symm) hi.all, if_pos hc2, if_pos (by omega), Int.toNat_natCast]
      exact hy
    cbv
    refine Or.inl ⟨_, _, hQ _ _ _ _ (rcopy_ac hst y.size y ky ny ty KY IY (Nat.le_refl _) (by omega) hJy), ?_⟩
    rcases hr.out with ⟨rfl, y', hy', hJ'⟩ | ⟨_, hn, _⟩
    · rw [hg] at hy'
      cases hy'
      obtain ⟨rfl, rfl, rfl, rfl, rfl⟩ := hJy.eq hJ'
      cbv
      try exact ⟨rfl, trivial⟩
    · rw [hg] at hn
      cases hn
set_option maxRecDepth 100000 in
set_option maxHeartbeats 4000000 in
theorem rtextw_ac {G : World → Prop} (hst : Stable G) (x : J) (k n : Int) (t : ByteArray) (KX IX : List (List PV)) (hbig : x.size ≤ 1000000) (hJ : JRow x k n t KX IX) (key : ByteArray) (k' n' : Int) (t' : ByteArray) (KX' IX' : List (List PV)) (b : Bool) (hr : GetR x key k' n' t' KX' IX' b) (c : Bool) (hc : Is c (fun _ => decide (k' = 4))) :
    ACalls G Tryz.prog 60 [jp k n t KX IX, .lit (.string key)] (.tup [.lit (.string t'), .lit (.bool c)]) none := by
  refine acalls_fn hst mixed tau_ok Tryz.func60 (by kernel_rfl) (by kernel_rfl) (by kernel_rfl) ?_
  intro Q hQ
  cbv
  refine Or.inl ⟨_, _, hQ _ _ _ _ (rget_ac hst x k n t KX IX hbig hJ key k' n' t' KX' IX' b hr), ?_⟩
  cbv
  intro b1 h1
  have e : b1 = c := by rw [h1.out, hc.out]
  subst e
  cbv
  try exact ⟨rfl, trivial⟩
set_option maxRecDepth 100000 in
set_option maxHeartbeats 4000000 in
theorem robject_ac {G : World → Prop} (hst : Stable G) (hV : RValidC G) (x : J) (k n : Int) (t : ByteArray) (KX IX : List (List PV)) (hbig : x.size ≤ 1000000) (hok : okB x = true) (hJ : JRow x k n t KX IX) (c : Bool) (hc : Is c (fun _ => rightJ x)) :
    ACalls G Tryz.prog 59 [jp k n t KX IX] (.lit (.bool c)) none := by
  refine acalls_fn hst mixed tau_ok Tryz.func59 (by kernel_rfl) (by kernel_rfl) (by kernel_rfl) ?_
  intro Q hQ
  cbv
  intro b1 h1
  cbv
  cases b1
  · cbv
    refine litB ?_
    have e := h1.no
    rw [hc.out]
    exact (decide_eq_false (fun q => e (hJ.kind ▸ q.1))).symm
  · cbv
    obtain ⟨e, he⟩ : ∃ e, Is e (fun _ => checkJ x) := ⟨_, ⟨rfl⟩⟩
    refine Or.inl ⟨_, _, hQ _ _ _ _ (rcheckC hst hV x k n t KX IX hbig hok hJ e he), ?_⟩
    cbv
    intro b2 h2
    cbv
    refine litB ?_
    have e1 := h1.yes
    have e2 := is_b.1 h2
    have e3 := hJ.kind
    have e4 := he.out
    rw [hc.out]
    unfold rightJ
    rw [e3, ← e4]
    cases b2
    · exact (decide_eq_false (fun q => by have := e2.2 q.2; cases this)).symm
    · exact (decide_eq_true ⟨e1, e2.1 rfl⟩).symm
end Go.Proofs.YtbjfmkmaghapgaaGreatDoor.B

set_option linter.unusedVariables false
set_option linter.unusedSimpArgs false
namespace Go.Proofs.YtbjfmkmaghapgaaGreatDoor.B
open Go.RowKit
/-- A text of a body, or none. -/
structure WDR (x : J) (key t : ByteArray) (c : Bool) : Prop where
  out : wordD x key = if c = true then t else ⟨#[]⟩
theorem WDR.of {x : J} {key : ByteArray} {k n : Int} {t : ByteArray} {KX IX : List (List PV)} {b c : Bool} (h : GetR x key k n t KX IX b) (hc : Is c (fun _ => decide (k = 4))) : WDR x key t c := ⟨by
  have hc' : (c = true) = (k = 4) := by rw [hc.out]; simp
  rcases h.out with ⟨_, y, hy, hJ⟩ | ⟨_, hn, rfl, _⟩
  · obtain ⟨ks, is, rfl, _, _⟩ := hJ
    unfold wordD
    rw [wordJ_mk hy]
    simp only [hc']
    split <;> rfl
  · have e : c = false := hc.out
    subst e
    unfold wordD wordJ
    rw [hn]
    rfl⟩
theorem low1 {e2 e3 : ByteArray} : ruledB ⟨⟨#[]⟩, e2, e3⟩ = false := rfl
theorem low2 {e1 e3 : ByteArray} : ruledB ⟨e1, ⟨#[]⟩, e3⟩ = false := by
  unfold ruledB
  have : (decide ((1 : Int) ≤ (⟨#[]⟩ : ByteArray).size ∧ ((⟨#[]⟩ : ByteArray).size : Int) ≤ 128)) = false := rfl
  simp only [this, Bool.false_and, Bool.and_false]
theorem rule_no1 {x : J} (hr : rightJ x = true) {t : ByteArray} (w : WDR x bEntity t false) : ruleOf x = none := by
  have e : wordD x bEntity = ⟨#[]⟩ := w.out
  unfold ruleOf
  rw [if_pos hr, e, low1]
  rfl
theorem rule_no2 {x : J} (hr : rightJ x = true) {t : ByteArray} (w : WDR x bRecommendation t false) : ruleOf x = none := by
  have e : wordD x bRecommendation = ⟨#[]⟩ := w.out
  unfold ruleOf
  rw [if_pos hr, e, low2]
  rfl
theorem rule_is {x : J} (hr : rightJ x = true) {t1 t2 t3 : ByteArray} {c3 : Bool} (w1 : WDR x bEntity t1 true) (w2 : WDR x bRecommendation t2 true) (w3 : WDR x bReason t3 c3) {t3' : ByteArray} (h3 : (if c3 = true then t3 else ⟨#[]⟩) = t3') :
    ruleOf x = if ruledB ⟨t1, t2, t3'⟩ = true then some ⟨t1, t2, t3'⟩ else none := by
  have e1 : wordD x bEntity = t1 := w1.out
  have e2 : wordD x bRecommendation = t2 := w2.out
  have e3 : wordD x bReason = t3' := w3.out.trans h3
  unfold ruleOf
  rw [if_pos hr, e1, e2, e3]
structure RJ (x : J) : Prop where
  out : rightJ x = true
structure IfNo (x : J) (b : Bool) (s1 s2 s3 : ByteArray) : Prop where
  out : ruleOf x = none → b = false ∧ s1 = ⟨#[]⟩ ∧ s2 = ⟨#[]⟩ ∧ s3 = ⟨#[]⟩
theorem IfNo.of {x : J} {b : Bool} {s1 s2 s3 : ByteArray} (hr : RuleR x s1 s2 s3 b) : IfNo x b s1 s2 s3 := ⟨fun h => by
  rcases hr.out with ⟨_, h1⟩ | ⟨h1, _, h2⟩
  · rw [h] at h1; cases h1
  · exact ⟨h1, h2⟩⟩
set_option maxRecDepth 100000 in
set_option maxHeartbeats 8000000 in
theorem rruleOf_ac {G : World → Prop} (hst : Stable G) (hV : RValidC G) (x : J) (k n : Int) (t : ByteArray) (KX IX : List (List PV)) (hbig : x.size ≤ 1000000) (hok : okB x = true) (hJ : JRow x k n t KX IX) (s1 s2 s3 : ByteArray) (b : Bool) (hr : RuleR x s1 s2 s3 b) :
    ACalls G Tryz.prog 43 [jp k n t KX IX] (.tup [.agg [.lit (.string s1), .lit (.string s2), .lit (.string s3)], .lit (.bool b)]) none := by
  refine acalls_fn hst mixed tau_ok Tryz.func43 (by kernel_rfl) (by kernel_rfl) (by kernel_rfl) ?_
  intro Q hQ
  have none_ := IfNo.of hr
  cbv
  obtain ⟨c, hc⟩ : ∃ c, Is c (fun _ => rightJ x) := ⟨_, ⟨rfl⟩⟩
  refine Or.inl ⟨_, _, hQ _ _ _ _ (robject_ac hst hV x k n t KX IX hbig hok hJ c hc), ?_⟩
  cbv
  intro b1 h1
  cbv
  cases c
  · have e : b1 = true := by have := h1.out; simpa using this
    subst e
    have hn : ruleOf x = none := by unfold ruleOf; rw [← hc.out]; rfl
    obtain ⟨rfl, rfl, rfl, rfl⟩ := none_.out hn
    cbv
    try exact ⟨rfl, trivial⟩
  have e : b1 = false := by have := h1.out; simpa using this
  subst e
  have hright : RJ x := ⟨hc.out.symm⟩
  clear h1 hc
  cbv
  obtain ⟨k1, n1, t1, K1, I1, d1, hg1⟩ := GetR.of x ⟨#[101, 110, 116, 105, 116, 121]⟩
  obtain ⟨c1, hc1⟩ : ∃ c, Is c (fun _ => decide (k1 = 4)) := ⟨_, ⟨rfl⟩⟩
  have w1 : WDR x bEntity t1 c1 := WDR.of hg1 hc1
  refine Or.inl ⟨_, _, hQ _ _ _ _ (rtextw_ac hst x k n t KX IX hbig hJ ⟨#[101, 110, 116, 105, 116, 121]⟩ k1 n1 t1 K1 I1 d1 hg1 c1 hc1), ?_⟩
  clear hg1 hc1
  cbv
  obtain ⟨k2, n2, t2, K2, I2, d2, hg2⟩ := GetR.of x ⟨#[114, 101, 99, 111, 109, 109, 101, 110, 100, 97, 116, 105, 111, 110]⟩
  obtain ⟨c2, hc2⟩ : ∃ c, Is c (fun _ => decide (k2 = 4)) := ⟨_, ⟨rfl⟩⟩
  have w2 : WDR x bRecommendation t2 c2 := WDR.of hg2 hc2
  refine Or.inl ⟨_, _, hQ _ _ _ _ (rtextw_ac hst x k n t KX IX hbig hJ ⟨#[114, 101, 99, 111, 109, 109, 101, 110, 100, 97, 116, 105, 111, 110]⟩ k2 n2 t2 K2 I2 d2 hg2 c2 hc2), ?_⟩
  clear hg2 hc2
  cbv
  obtain ⟨k3, n3, t3, K3, I3, d3, hg3⟩ := GetR.of x ⟨#[114, 101, 97, 115, 111, 110]⟩
  obtain ⟨c3, hc3⟩ : ∃ c, Is c (fun _ => decide (k3 = 4)) := ⟨_, ⟨rfl⟩⟩
  have w3 : WDR x bReason t3 c3 := WDR.of hg3 hc3
  refine Or.inl ⟨_, _, hQ _ _ _ _ (rtextw_ac hst x k n t KX IX hbig hJ ⟨#[114, 101, 97, 115, 111, 110]⟩ k3 n3 t3 K3 I3 d3 hg3 c3 hc3), ?_⟩
  cbv
  clear hg3 hc3
  cases c1
  · obtain ⟨rfl, rfl, rfl, rfl⟩ := none_.out (rule_no1 hright.out w1)
    clear none_ hr hright w1 w2 w3
    cbv
    cases c3 <;> cbv
    all_goals
      intro b2 h2
      obtain rfl : b2 = true := h2.out
      cbv
      try exact ⟨rfl, trivial⟩
  cases c2
  · obtain ⟨rfl, rfl, rfl, rfl⟩ := none_.out (rule_no2 hright.out w2)
    clear none_ hr hright w1 w2 w3
    cbv
    cases c3 <;> cbv
    all_goals
      intro b2 h2
      obtain rfl : b2 = false := h2.out
      cbv
      intro b3 h3
      obtain rfl : b3 = true := h3.out
      cbv
      try exact ⟨rfl, trivial⟩
  obtain ⟨t3', h3⟩ : ∃ t3', (if c3 = true then t3 else ⟨#[]⟩) = t3' := ⟨_, rfl⟩
  obtain ⟨v, hv⟩ : ∃ v, Is v (fun _ => ruledB ⟨t1, t2, t3'⟩) := ⟨_, ⟨rfl⟩⟩
  have hres : (v = true → b = true ∧ s1 = t1 ∧ s2 = t2 ∧ s3 = t3') ∧ (v = false → b = false ∧ s1 = ⟨#[]⟩ ∧ s2 = ⟨#[]⟩ ∧ s3 = ⟨#[]⟩) := by
    have hq := rule_is hright.out w1 w2 w3 h3
    constructor
    · intro e
      rw [if_pos (hv.out.symm.trans e)] at hq
      rcases hr.out with ⟨h1, h2⟩ | ⟨_, h2, _⟩
      · rw [hq] at h2; cases h2; exact ⟨h1, rfl, rfl, rfl⟩
      · rw [hq] at h2; cases h2
    · intro e
      rw [if_neg (by rw [← hv.out, e]; simp)] at hq
      exact none_.out hq
  clear none_ hr hright w1 w2 w3
  cases c3
  rotate_left
  obtain rfl : t3 = t3' := h3
  rotate_left
  obtain rfl : (⟨#[]⟩ : ByteArray) = t3' := h3
  all_goals
    cbv
    intro b2 h2
    obtain rfl : b2 = false := h2.out
    cbv
    intro b3 h3
    obtain rfl : b3 = false := h3.out
    cbv
    refine Or.inl ⟨_, _, hQ _ _ _ _ (rrule_ac hst hV _ v hv), ?_⟩
    clear hv
    cases v
    · obtain ⟨rfl, rfl, rfl, rfl⟩ := hres.2 rfl
      cbv
      intro b4 h4
      obtain rfl : b4 = true := h4.out
      cbv
      try exact ⟨rfl, trivial⟩
    · obtain ⟨rfl, rfl, rfl, rfl⟩ := hres.1 rfl
      cbv
      intro b4 h4
      obtain rfl : b4 = false := h4.out
      cbv
      try exact ⟨rfl, trivial⟩
end Go.Proofs.YtbjfmkmaghapgaaGreatDoor.B

set_option linter.unusedVariables false
set_option linter.unusedSimpArgs false
namespace Go.Proofs.YtbjfmkmaghapgaaGreatDoor.B
open Go.RowKit
structure OfN (typ key : ByteArray) (x : J) (room : ByteArray) : Prop where
  out : ofE typ key x room = none
theorem OfR.no {typ key : ByteArray} {x : J} {room : ByteArray} {r : Rl} {b : Bool} (h : OfR typ key x room r b) (hn : OfN typ key x room) : b = false ∧ r = ⟨0, ⟨#[]⟩, ⟨#[]⟩, ⟨#[]⟩, ⟨#[]⟩⟩ := by
  rcases h.out with ⟨_, h1⟩ | ⟨h1, _, h2⟩
  · rw [hn.out] at h1; cases h1
  · exact ⟨h1, h2⟩
theorem OfN.kind {typ key : ByteArray} {x : J} {room : ByteArray} {k r : Int} (h : KindR typ k r false) : OfN typ key x room := ⟨by
  have hk : kindOf typ = none := by
    rcases h.out with ⟨h, _⟩ | ⟨_, h, _⟩
    · cases h
    · exact h
  unfold ofE
  rw [hk]⟩
theorem OfN.rule {typ key : ByteArray} {x : J} {room : ByteArray} {s1 s2 s3 : ByteArray} (h : RuleR x s1 s2 s3 false) : OfN typ key x room := ⟨by
  have hk : ruleOf x = none := by
    rcases h.out with ⟨h, _⟩ | ⟨_, h, _⟩
    · cases h
    · exact h
  unfold ofE
  rw [hk]
  cases kindOf typ <;> rfl⟩
structure OfI (typ key : ByteArray) (x : J) (room : ByteArray) (s2 : ByteArray) (r : Rl) : Prop where
  out : ofE typ key x room = if s2 = wMban ∨ s2 = wOban then some r else none
theorem OfI.of {typ key : ByteArray} {x : J} {room : ByteArray} {k r : Int} {s1 s2 s3 : ByteArray} (h : KindR typ k r true) (h' : RuleR x s1 s2 s3 true) : OfI typ key x room s2 ⟨k, s1, s3, room, key⟩ := ⟨by
  have hk : kindOf typ = some (k, r) := by
    rcases h.out with ⟨_, h⟩ | ⟨h, _⟩
    · exact h
    · cases h
  have hk' : ruleOf x = some ⟨s1, s2, s3⟩ := by
    rcases h'.out with ⟨_, h⟩ | ⟨h, _⟩
    · exact h
    · cases h
  unfold ofE
  rw [hk, hk']⟩
theorem OfI.no {typ key : ByteArray} {x : J} {room : ByteArray} {s2 : ByteArray} {r : Rl} (h : OfI typ key x room s2 r) (hc : Is false (fun _ => decide (s2 = wMban ∨ s2 = wOban))) : OfN typ key x room := ⟨h.out.trans (if_neg hc.no)⟩
theorem OfI.yes {typ key : ByteArray} {x : J} {room : ByteArray} {s2 : ByteArray} {r r' : Rl} {b : Bool} (h : OfI typ key x room s2 r) (hc : Is true (fun _ => decide (s2 = wMban ∨ s2 = wOban))) (h' : OfR typ key x room r' b) : b = true ∧ r' = r := by
  have e := h.out.trans (if_pos hc.yes)
  rcases h'.out with ⟨h1, h2⟩ | ⟨_, h2, _⟩
  · rw [e] at h2; cases h2; exact ⟨h1, rfl⟩
  · rw [e] at h2; cases h2
set_option maxRecDepth 100000 in
set_option maxHeartbeats 8000000 in
theorem rof_ac {G : World → Prop} (hst : Stable G) (hV : RValidC G) (typ key id by_ : ByteArray) (x : J) (k n : Int) (t : ByteArray) (KX IX : List (List PV)) (hbig : x.size ≤ 1000000) (hok : okB x = true) (hJ : JRow x k n t KX IX) (room : ByteArray) (r : Rl) (b : Bool) (hr : OfR typ key x room r b) :
    ACalls G Tryz.prog 18 [.agg [.lit (.string typ), .lit (.string key), .lit (.string id), .lit (.string by_), .lit (.int .i64 k), .lit (.int .i64 n), .lit (.string t), .sl KX, .sl IX], .lit (.string room)] (.tup [.agg (encR r), .lit (.bool b)]) none := by
  obtain ⟨r1, r2, r3, r4, r5⟩ := r
  refine acalls_fn hst mixed tau_ok Tryz.func18 (by kernel_rfl) (by kernel_rfl) (by kernel_rfl) ?_
  intro Q hQ
  cbv
  obtain ⟨kd, rk, d, hk⟩ := KindR.of typ
  refine Or.inl ⟨_, _, hQ _ _ _ _ (rkindOf_ac hst typ kd rk d hk), ?_⟩
  cbv
  obtain ⟨s1, s2, s3, d2, hB⟩ := RuleR.of x
  refine Or.inl ⟨_, _, hQ _ _ _ _ (rruleOf_ac hst hV x k n t KX IX hbig hok hJ s1 s2 s3 d2 hB), ?_⟩
  cbv
  intro b1 h1
  cbv
  cases d
  · have e : b1 = true := by have := h1.out; simpa using this
    subst e
    obtain ⟨rfl, h⟩ := hr.no (OfN.kind hk)
    cases h
    cbv
    try exact ⟨rfl, trivial⟩
  have e : b1 = false := by have := h1.out; simpa using this
  subst e
  cbv
  intro b2 h2
  cbv
  cases d2
  · have e : b2 = true := by have := h2.out; simpa using this
    subst e
    obtain ⟨rfl, h⟩ := hr.no (OfN.rule hB)
    cases h
    cbv
    try exact ⟨rfl, trivial⟩
  have e : b2 = false := by have := h2.out; simpa using this
  subst e
  have hI := OfI.of (key := key) (room := room) hk hB
  clear hk hB
  cbv
  obtain ⟨c, hc⟩ : ∃ c, Is c (fun _ => decide (s2 = wMban ∨ s2 = wOban)) := ⟨_, ⟨rfl⟩⟩
  refine Or.inl ⟨_, _, hQ _ _ _ _ (rtakes_ac hst s2 c hc), ?_⟩
  cbv
  intro b3 h3
  cbv
  cases c
  · have e : b3 = true := by have := h3.out; simpa using this
    subst e
    obtain ⟨rfl, h⟩ := hr.no (hI.no hc)
    cases h
    cbv
    try exact ⟨rfl, trivial⟩
  · have e : b3 = false := by have := h3.out; simpa using this
    subst e
    obtain ⟨rfl, h⟩ := hI.yes hc hr
    cases h
    cbv
    try exact ⟨rfl, trivial⟩
/-! ### which entries count -/
/-- None of the first so many comes before. -/
structure NoPre (l : List En) (kd rk : Int) (key : ByteArray) (a : Nat) (j : Int) : Prop where
  lo : 0 ≤ j
  hi : j ≤ l.length
  all : ∀ (i : Nat) x, i < j.toNat → l[i]? = some x → precedes kd key rk a x i = false
theorem NoPre.next {l : List En} {kd rk : Int} {key : ByteArray} {a : Nat} {j : Int} (h : NoPre l kd rk key a j) {x : En} (hx : l[j.toNat]? = some x) (hp : precedes kd key rk a x j.toNat = false) : NoPre l kd rk key a (j + 1) := by
  have h0 := h.lo
  have hlt := (List.getElem?_eq_some_iff.1 hx).1
  refine ⟨by omega, by omega, fun i y hi hy => ?_⟩
  by_cases e : i < j.toNat
  · exact h.all i y e hy
  · obtain rfl : i = j.toNat := by omega
    rw [hx] at hy
    cases hy
    exact hp
structure CountR (l : List En) (e : En) (a : Nat) (c : Bool) : Prop where
  out : countsB l e a = c
theorem CountR.no {l : List En} {e : En} {a : Nat} {c : Bool} (h : CountR l e a c) {k r : Int} (hk : KindR e.typ k r false) : c = false := by
  have hn : kindOf e.typ = none := by
    rcases hk.out with ⟨h, _⟩ | ⟨_, h, _⟩
    · cases h
    · exact h
  rw [← h.out]
  unfold countsB
  rw [hn]
theorem kindR_some {s : ByteArray} {k r : Int} (hk : KindR s k r true) : kindOf s = some (k, r) := by
  rcases hk.out with ⟨_, h⟩ | ⟨h, _⟩
  · exact h
  · cases h
theorem kindR_none {s : ByteArray} {k r : Int} (hk : KindR s k r false) : kindOf s = none := by
  rcases hk.out with ⟨h, _⟩ | ⟨_, h, _⟩
  · cases h
  · exact h
theorem CountR.all {l : List En} {e : En} {a : Nat} {c : Bool} (h : CountR l e a c) {k r : Int} (hk : KindR e.typ k r true) {j : Int} (hj : NoPre l k r e.key a j) (hlen : ¬ j < l.length) : c = true := by
  rw [← h.out]
  unfold countsB
  rw [kindR_some hk]
  simp only [List.all_eq_true]
  rintro ⟨x, i⟩ hp
  have hx : l[i]? = some x := by rwa [List.mk_mem_zipIdx_iff_getElem?] at hp
  have hlt := (List.getElem?_eq_some_iff.1 hx).1
  have := hj.hi
  rw [hj.all i x (by omega) hx]
  rfl
theorem CountR.one {l : List En} {e : En} {a : Nat} {c : Bool} (h : CountR l e a c) {k r : Int} (hk : KindR e.typ k r true) {i : Nat} {x : En} (hx : l[i]? = some x) (hp : precedes k e.key r a x i = true) : c = false := by
  rw [← h.out]
  unfold countsB
  rw [kindR_some hk]
  refine List.all_eq_false.2 ⟨(x, i), by rw [List.mk_mem_zipIdx_iff_getElem?]; exact hx, ?_⟩
  simp [hp]
theorem pre_none {x : En} {k r : Int} (hk : KindR x.typ k r false) {kd rk : Int} {key : ByteArray} {a j : Nat} : precedes kd key rk a x j = false := by
  unfold precedes
  rw [kindR_none hk]
theorem pre_iff {x : En} {k r : Int} (hk : KindR x.typ k r true) {kd rk : Int} {key : ByteArray} {a j : Nat} : precedes kd key rk a x j = decide (k = kd ∧ x.key = key ∧ (r < rk ∨ (r = rk ∧ j < a))) := by
  unfold precedes
  rw [kindR_some hk]
set_option maxRecDepth 100000 in
set_option maxHeartbeats 16000000 in
theorem rcounts_ac {G : World → Prop} (hst : Stable G) (l : List En) (X : List (List PV)) (hX : l.map encEn = X) (hl : l.length ≤ 1000000) (a : Int) (e : En) (ha : 0 ≤ a) (he : l[a.toNat]? = some e) (c : Bool) (hc : CountR l e a.toNat c) :
    ACalls G Tryz.prog 45 [.sl X, .lit (.int .i64 a)] (.lit (.bool c)) none := by
  have hXl : X.length = l.length := by rw [← hX]; simp
  have hlt := (List.getElem?_eq_some_iff.1 he).1
  have har : 0 ≤ a ∧ a.toNat < X.length := ⟨ha, by omega⟩
  have again : ∀ {z : En}, l[a.toNat]? = some z → z = e := fun {z} hz => by rw [he] at hz; cases hz; rfl
  obtain ⟨typ, key, id, by_, k, n, t, KX, IX, hE, hee⟩ := EnRow.of e
  refine acalls_fn hst mixed tau_ok Tryz.func45 (by kernel_rfl) (by kernel_rfl) (by kernel_rfl) ?_
  intro Q hQ
  cbv
  refine ⟨⟨har⟩, ?_⟩
  intro r hr
  obtain ⟨z, hz, rfl⟩ := hr.row hX
  obtain rfl := again hz
  rw [hee]
  cbv
  obtain ⟨kd, rk, d, hk⟩ := KindR.of typ
  refine Or.inl ⟨_, _, hQ _ _ _ _ (rkindOf_ac hst typ kd rk d hk), ?_⟩
  cbv
  intro b1 h1
  cbv
  cases d
  · have e : b1 = true := by have := h1.out; simpa using this
    subst e
    obtain rfl := hc.no (hE.h1.symm ▸ hk)
    cbv
    try exact ⟨rfl, trivial⟩
  have e : b1 = false := by have := h1.out; simpa using this
  subst e
  have hk : KindR z.typ kd rk true := hE.h1.symm ▸ hk
  clear h1 hr hz
  cbv
  refine Or.inr ⟨[0, 1, 5, 6], [], Int, fun j => [(.t 8, ⟨.pv (.lit (.int .i64 j)), none, none⟩)], NoPre l kd rk z.key a.toNat, fun j => X.length - j.toNat, 0, ⟨by omega, by omega, fun i x h => by simp at h⟩, ?_, ?_⟩
  · cbv
    simp
  intro j hj
  have hj : NoPre l kd rk z.key a.toNat j := hj
  cbv
  intro m2 g2
  cbv
  intro b2 h2
  cbv
  cases b2
  · obtain rfl := hc.all hk hj (by have e1 := g2.len; have e2 := h2.no; omega)
    cbv
    try exact ⟨rfl, trivial⟩
  cbv
  refine ⟨g2.atL hj.lo h2.yes, ?_⟩
  intro r hr
  obtain ⟨y, hy, rfl⟩ := hr.row hX
  have again2 : ∀ {z : En}, l[j.toNat]? = some z → z = y := fun {z} hz => by rw [hy] at hz; cases hz; rfl
  obtain ⟨typ', key', id', by', k', n', t', KX', IX', hE', hee'⟩ := EnRow.of y
  rw [hee']
  cbv
  obtain ⟨kd', rk', d', hk'⟩ := KindR.of typ'
  refine Or.inl ⟨_, _, hQ _ _ _ _ (rkindOf_ac hst typ' kd' rk' d' hk'), ?_⟩
  apply cutH (precedes kd z.key rk a.toNat y j.toNat = false)
  · intro next
    cbv
    cases d'
    · have hp := next (pre_none (hE'.h1.symm ▸ hk'))
      cbv
      exact hp.out
    · have hk2 : KindR y.typ kd' rk' true := hE'.h1.symm ▸ hk'
      cbv
      intro b3 h3
      cbv
      cases b3
      · have hp := next (by rw [pre_iff hk2]; exact decide_eq_false (fun q => h3.no q.1))
        cbv
        exact hp.out
      · have e3 : kd' = kd := h3.yes
        cbv
        refine ⟨g2.atL hj.lo h2.yes, ?_⟩
        intro r hr2
        obtain ⟨z2, hz2, rfl⟩ := hr2.row hX
        obtain rfl := again2 hz2
        rw [hee']
        cbv
        refine ⟨⟨har⟩, ?_⟩
        intro r hr3
        obtain ⟨z3, hz3, rfl⟩ := hr3.row hX
        obtain rfl := again hz3
        rw [hee]
        cbv
        intro b4 h4
        cbv
        cases b4
        · have hp := next (by rw [pre_iff hk2]; exact decide_eq_false (fun q => h4.no (by rw [← hE'.h2, ← hE.h2]; exact q.2.1)))
          cbv
          exact hp.out
        · have e4 : z2.key = z3.key := by rw [hE'.h2, hE.h2]; exact h4.yes
          cbv
          intro b5 h5
          cbv
          cases b5
          · cbv
            intro b6 h6
            cbv
            cases b6
            · have hp := next (by
                rw [pre_iff hk2]
                refine decide_eq_false (fun q => ?_)
                have e5 := h5.no
                have e6 := h6.no
                rcases q.2.2 with q | q
                · exact e5 q
                · exact e6 q.1)
              cbv
              exact hp.out
            · cbv
              intro b7 h7
              cbv
              cases b7
              · have hp := next (by
                  rw [pre_iff hk2]
                  refine decide_eq_false (fun q => ?_)
                  have e5 := h5.no
                  have e7 := h7.no
                  have := hj.lo
                  rcases q.2.2 with q | q
                  · exact e5 q
                  · have := q.2; omega)
                cbv
                exact hp.out
              · obtain rfl := hc.one hk hy (by
                  rw [pre_iff hk2]
                  have e6 : rk' = rk := h6.yes
                  have e7 := h7.yes
                  have := hj.lo
                  exact decide_eq_true ⟨e3, e4, .inr ⟨e6, by omega⟩⟩)
                cbv
                try exact ⟨rfl, trivial⟩
          · obtain rfl := hc.one hk hy (by
              rw [pre_iff hk2]
              exact decide_eq_true ⟨e3, e4, .inl h5.yes⟩)
            cbv
            try exact ⟨rfl, trivial⟩
  · intro hp
    cbv
    intro j' hj'
    cbv
    have e1 := g2.len
    have e2 := h2.yes
    have e3 := hj.lo
    have e4 := hj'.add1 (by omega) (by omega)
    refine ⟨j', ?_, ?_, ?_⟩
    · rw [e4]
      exact hj.next hy hp
    · show X.length - j'.toNat < X.length - j.toNat
      omega
    · cbv
      simp
end Go.Proofs.YtbjfmkmaghapgaaGreatDoor.B

set_option linter.unusedVariables false
set_option linter.unusedSimpArgs false
namespace Go.Proofs.YtbjfmkmaghapgaaGreatDoor.B
open Go.RowKit
def ruleAt (l : List En) (room : ByteArray) (p : En × Nat) : Option Rl := if countsB l p.1 p.2 = true then ofE p.1.typ p.1.key p.1.body room else none
/-- The rules of the first so many entries. -/
structure Ext (l : List En) (room : ByteArray) (i : Int) (O : List (List PV)) : Prop where
  lo : 0 ≤ i
  hi : i ≤ l.length
  out : O = ((l.zipIdx.take i.toNat).filterMap (ruleAt l room)).map encR
theorem Ext.len {l : List En} {room : ByteArray} {i : Int} {O : List (List PV)} (h : Ext l room i O) : O.length ≤ l.length ∧ ∀ r, r ∈ O → r.length = 5 := by
  rw [h.out]
  refine ⟨?_, lenR _⟩
  rw [List.length_map]
  refine Nat.le_trans (List.length_filterMap_le _ _) ?_
  rw [List.length_take, List.length_zipIdx]
  omega
theorem Ext.next {l : List En} {room : ByteArray} {i : Int} {O : List (List PV)} (h : Ext l room i O) {x : En} (hx : l[i.toNat]? = some x) : Ext l room (i + 1) (O ++ ((ruleAt l room (x, i.toNat)).toList).map encR) := by
  have h0 := h.lo
  have hlt := (List.getElem?_eq_some_iff.1 hx).1
  refine ⟨by omega, by omega, ?_⟩
  have hz : l.zipIdx[i.toNat]? = some (x, i.toNat) := by rw [← List.mk_mem_zipIdx_iff_getElem?] at hx; rw [List.getElem?_zipIdx]; simp [List.getElem?_eq_getElem hlt]; rw [List.mk_mem_zipIdx_iff_getElem?] at hx; rw [List.getElem?_eq_getElem hlt] at hx; exact Option.some.inj hx
  rw [show (i + 1).toNat = i.toNat + 1 by omega, List.take_add_one, hz, List.filterMap_append, List.map_append, h.out]
  congr 1
theorem Ext.done {l : List En} {room : ByteArray} {i : Int} {O : List (List PV)} (h : Ext l room i O) (hi : ¬ i < l.length) : (rulesOf l room).map encR = O := by
  have h1 := h.hi
  rw [h.out, List.take_of_length_le (by rw [List.length_zipIdx]; omega)]
  rfl
theorem ruleAt_no {l : List En} {room : ByteArray} {x : En} {i : Nat} (h : OfN x.typ x.key x.body room) : ruleAt l room (x, i) = none := by
  unfold ruleAt
  simp only
  rw [h.out]
  split <;> rfl
theorem ruleAt_not {l : List En} {room : ByteArray} {x : En} {i : Nat} (h : CountR l x i false) : ruleAt l room (x, i) = none := by
  unfold ruleAt
  simp only
  rw [h.out]
  rfl
theorem ruleAt_yes {l : List En} {room : ByteArray} {x : En} {i : Nat} {r : Rl} (h : CountR l x i true) (h' : ofE x.typ x.key x.body room = some r) : ruleAt l room (x, i) = some r := by
  unfold ruleAt
  simp only
  rw [h.out, if_pos rfl]
  exact h'
theorem OfR.none_of {typ key : ByteArray} {x : J} {room : ByteArray} {r : Rl} (h : OfR typ key x room r false) : OfN typ key x room := ⟨by
  rcases h.out with ⟨h, _⟩ | ⟨_, h, _⟩
  · cases h
  · exact h⟩
structure OfS (typ key : ByteArray) (x : J) (room : ByteArray) (r : Rl) : Prop where
  out : ofE typ key x room = some r
theorem OfR.some_of {typ key : ByteArray} {x : J} {room : ByteArray} {r : Rl} (h : OfR typ key x room r true) : OfS typ key x room r := ⟨by
  rcases h.out with ⟨_, h⟩ | ⟨h, _⟩
  · exact h
  · cases h⟩
set_option maxRecDepth 100000 in
set_option maxHeartbeats 16000000 in
theorem rextract_ac {G : World → Prop} (hst : Stable G) (hV : RValidC G) (l : List En) (X : List (List PV)) (hX : l.map encEn = X) (hl : l.length ≤ 1000000) (hbig : ∀ x, x ∈ l → x.body.size ≤ 1000000 ∧ okB x.body = true)
    (c1 c2 c3 : ByteArray) (MX UX VX : List (List PV)) (n1 n2 n3 n4 n5 n6 n7 : Int) (room : ByteArray) (Z : List (List PV)) (hZ : Is Z (fun _ => (extractR l room).map encR)) :
    ACalls G Tryz.prog 27 [.agg [.lit (.string c1), .lit (.string c2), .sl MX, .sl UX, .sl VX, .lit (.int .i64 n1), .lit (.int .i64 n2), .lit (.int .i64 n3), .lit (.int .i64 n4), .lit (.int .i64 n5), .lit (.int .i64 n6), .lit (.int .i64 n7), .lit (.string c3), .sl X], .lit (.string room)] (.sl Z) none := by
  have hXl : X.length = l.length := by rw [← hX]; simp
  refine acalls_fn hst mixed tau_ok Tryz.func27 (by kernel_rfl) (by kernel_rfl) (by kernel_rfl) ?_
  intro Q hQ
  cbv
  refine Or.inr ⟨[1, 2], [560002], Int × List (List PV), fun p => [(.t 6, ⟨.pv (.lit (.int .i64 p.1)), none, none⟩), (.t 5, ⟨.pv (.sl p.2), some (36, 5), none⟩)], fun p => Ext l room p.1 p.2, fun p => X.length - p.1.toNat, (0, []), (show Ext l room 0 [] from ⟨by omega, by omega, rfl⟩), ?_, ?_⟩
  · cbv
    simp
  intro ⟨i, O⟩ hi
  have hi : Ext l room i O := hi
  cbv
  intro m1 g1
  cbv
  intro b1 h1
  cbv
  cases b1
  · have hd := hi.done (by have e1 := g1.len; have e2 := h1.no; omega)
    have hZ' : Is Z (fun _ => (sortU (rulesOf l room)).map encR) := ⟨hZ.out⟩
    cbv
    refine Or.inl ⟨_, _, hQ _ _ _ _ (rsortR_ac hst ((rulesOf l room).length + 1) (rulesOf l room) O (by omega) (by have := rulesOf_len l room; omega) hd Z hZ'), ?_⟩
    cbv
    try exact ⟨rfl, trivial⟩
  cbv
  refine ⟨g1.atL hi.lo h1.yes, ?_⟩
  intro r hr
  obtain ⟨e, he, rfl⟩ := hr.row hX
  obtain ⟨typ, key, id, by_, k, n, t, KX, IX, hE, hee⟩ := EnRow.of e
  rw [hee]
  cbv
  obtain ⟨ru, told, hru⟩ := OfR.of typ key e.body room
  refine Or.inl ⟨_, _, hQ _ _ _ _ (rof_ac hst hV typ key id by_ e.body k n t KX IX (hbig e (List.mem_of_getElem? he)).1 (hbig e (List.mem_of_getElem? he)).2 hE.hJ room ru told hru), ?_⟩
  cbv
  have hn := hi.next he
  obtain ⟨c, hc⟩ : ∃ c, CountR l e i.toNat c := ⟨_, ⟨rfl⟩⟩
  have hbnd := hi.len
  obtain ⟨r1, r2, r3, r4, r5⟩ := ru
  cases told
  · have hq : OfN e.typ e.key e.body room := by rw [hE.h1, hE.h2]; exact hru.none_of
    have hn : Ext l room (i + 1) O := by have := hn; rw [ruleAt_no hq] at this; simpa using this
    clear hru hc
    cbv
    intro i' hi'
    cbv
    have e3 := hi.lo
    have e1 := g1.len
    have e2 := h1.yes
    have e4 := hi'.add1 (by omega) (by omega)
    refine ⟨(i', O), ?_, ?_, ?_⟩
    · rw [e4]; exact hn
    · show X.length - i'.toNat < X.length - i.toNat
      omega
    · cbv
      simp
  have hsome : OfS e.typ e.key e.body room ⟨r1, r2, r3, r4, r5⟩ := by rw [hE.h1, hE.h2]; exact hru.some_of
  clear hru
  cbv
  refine Or.inl ⟨_, _, hQ _ _ _ _ (rcounts_ac hst l X hX hl i e hi.lo he c hc), ?_⟩
  cbv
  cases c
  · have hn : Ext l room (i + 1) O := by have := hn; rw [ruleAt_not hc] at this; simpa using this
    clear hc
    cbv
    intro i' hi'
    cbv
    have e3 := hi.lo
    have e1 := g1.len
    have e2 := h1.yes
    have e4 := hi'.add1 (by omega) (by omega)
    refine ⟨(i', O), ?_, ?_, ?_⟩
    · rw [e4]; exact hn
    · show X.length - i'.toNat < X.length - i.toNat
      omega
    · cbv
      simp
  have hn : Ext l room (i + 1) (O ++ [encR ⟨r1, r2, r3, r4, r5⟩]) := by have := hn; rw [ruleAt_yes hc hsome.out] at this; simpa using this
  clear hc
  cbv
  refine ⟨⟨by have := hbnd.1; simp only [List.length_cons, List.length_nil]; omega, fun r hr => hbnd.2 r hr, fun r hr => by simp at hr; subst hr; rfl⟩, ?_⟩
  intro Y hY
  cbv
  intro i' hi'
  cbv
  have e3 := hi.lo
  have e1 := g1.len
  have e2 := h1.yes
  have e4 := hi'.add1 (by omega) (by omega)
  refine ⟨(i', Y), ?_, ?_, ?_⟩
  · rw [e4, hY.out]; exact hn
  · show X.length - i'.toNat < X.length - i.toNat
    omega
  · cbv
    simp
/-- So far the same. -/
structure SameS (a b : List ByteArray) (k : Int) : Prop where
  lo : 0 ≤ k
  hi : k ≤ a.length
set_option maxRecDepth 100000 in
set_option maxHeartbeats 4000000 in
theorem sameSelf_ac {G : World → Prop} (hst : Stable G) (a : List ByteArray) (X : List (List PV)) (hX : a.map encS = X) (hl : a.length ≤ 1000000) :
    ACalls G Tryz.prog 19 [.sl X, .sl X] (.lit (.bool true)) none := by
  have hXl : X.length = a.length := by rw [← hX]; simp
  refine acalls_fn hst mixed tau_ok Tryz.func19 (by kernel_rfl) (by kernel_rfl) (by kernel_rfl) ?_
  intro Q hQ
  cbv
  intro m1 h1
  cbv
  intro m2 h2
  cbv
  intro b1 h3
  have e : b1 = false := by rw [h3.out]; exact decide_eq_false (fun q => q (by rw [h1.out, h2.out]))
  subst e
  clear h1 h2 h3
  cbv
  refine Or.inr ⟨[0, 1], [], Int, fun k => [(.t 5, ⟨.pv (.lit (.int .i64 k)), none, none⟩)], SameS a a, fun k => X.length - k.toNat, 0, (show SameS a a 0 from ⟨by omega, by omega⟩), ?_, ?_⟩
  · cbv
    simp
  intro k hk
  have hk : SameS a a k := hk
  cbv
  intro m3 h4
  cbv
  intro b2 h5
  cbv
  cases b2
  · cbv
    try exact ⟨rfl, trivial⟩
  cbv
  refine ⟨h4.atL hk.lo h5.yes, ?_⟩
  intro r hr
  obtain ⟨x, hx, rfl⟩ := hr.row hX
  cbv
  refine ⟨h4.atL hk.lo h5.yes, ?_⟩
  intro r hr2
  obtain ⟨y, hy, rfl⟩ := hr2.row hX
  obtain rfl : y = x := by rw [hx] at hy; cases hy; rfl
  cbv
  intro b3 h6
  have e : b3 = false := by rw [h6.out]; exact decide_eq_false (fun q => q rfl)
  subst e
  cbv
  intro k' hk'
  cbv
  have e1 := h4.len
  have e2 := h5.yes
  have e4 := hk'.add1 (by have := hk.lo; omega) (by omega)
  refine ⟨k', ⟨by have := hk.lo; omega, by omega⟩, ?_, ?_⟩
  · show X.length - k'.toNat < X.length - k.toNat
    have := hk.lo
    omega
  · cbv
    simp
end Go.Proofs.YtbjfmkmaghapgaaGreatDoor.B

set_option linter.unusedVariables false
set_option linter.unusedSimpArgs false
namespace Go.Proofs.YtbjfmkmaghapgaaGreatDoor.B
open Go.RowKit
theorem typesOf_len (k : Int) : (typesOf k).length ≤ 1000000 := by
  unfold typesOf
  by_cases h1 : k = 1
  · rw [if_pos h1]; simp
  · rw [if_neg h1]
    by_cases h2 : k = 2
    · rw [if_pos h2]; simp
    · rw [if_neg h2]
      by_cases h3 : k = 3
      · rw [if_pos h3]; simp
      · rw [if_neg h3]; simp
theorem LightR.at {l : List Rl} (h : LightR l) {i : Nat} {x : Rl} (hx : l[i]? = some x) : SzR x.entity x.reason x.room x.key := SzR.of (h.all i x hx)
set_option maxRecDepth 100000 in
set_option maxHeartbeats 16000000 in
theorem rulesCalls_ac {G : World → Prop} (hB : Base G) (hV : RValidC G) (typ : ByteArray) (kind : Int) (et ek ei eb : ByteArray) (x : J) (k n : Int) (t : ByteArray) (KX IX : List (List PV)) (hok : OkJ x) (hJ : JRow x k n t KX IX) (room : ByteArray)
    (c1 c2 c3 : ByteArray) (MX UX VX : List (List PV)) (n1 n2 n3 n4 n5 n6 n7 : Int) (l : List En) (X : List (List PV)) (hX : l.map encEn = X)
    (hL : ∃ c : Bool, ACalls G Tryz.prog 7 [.agg [.lit (.string c1), .lit (.string c2), .sl MX, .sl UX, .sl VX, .lit (.int .i64 n1), .lit (.int .i64 n2), .lit (.int .i64 n3), .lit (.int .i64 n4), .lit (.int .i64 n5), .lit (.int .i64 n6), .lit (.int .i64 n7), .lit (.string c3), .sl X]] (.lit (.bool c)) none ∧ (c = true → l.length ≤ 1000000 ∧ ∀ x, x ∈ l → x.body.size ≤ 1000000 ∧ okB x.body = true))
    (rl : List Rl) (RX : List (List PV)) (hRX : rl.map encR = RX) (hrl : rl.length ≤ 9223372036854775807) :
    ACalls G Tryz.prog 5 [.lit (.string typ), .lit (.int .i64 kind), .agg [.lit (.string et), .lit (.string ek), .lit (.string ei), .lit (.string eb), .lit (.int .i64 k), .lit (.int .i64 n), .lit (.string t), .sl KX, .sl IX], .lit (.string room), .agg [.lit (.string c1), .lit (.string c2), .sl MX, .sl UX, .sl VX, .lit (.int .i64 n1), .lit (.int .i64 n2), .lit (.int .i64 n3), .lit (.int .i64 n4), .lit (.int .i64 n5), .lit (.int .i64 n6), .lit (.int .i64 n7), .lit (.string c3), .sl X], .sl RX] (.lit (.bool true)) none := by
  obtain ⟨cs, hcA, hcl⟩ := hL
  have hRl : RX.length = rl.length := by rw [← hRX]; simp
  refine acalls_fn hB.st mixed tau_ok Tryz.func5 (by kernel_rfl) (by kernel_rfl) (by kernel_rfl) ?_
  intro Q hQ
  cbv
  refine Or.inl ⟨_, _, hQ _ _ _ _ (lives_ac hB), ?_⟩
  cbv
  intro b1 h1
  cbv
  have e : b1 = false := by have := h1.out; simpa using this
  subst e
  cbv
  intro a1 f1
  cbv
  intro a2 f2
  cbv
  intro a3 f3
  cbv
  intro a4 f4
  cbv
  intro a5 f5
  cbv
  intro a6 f6
  cbv
  intro a7 f7
  cbv
  intro b2 h2
  clear f1 f2 f3 f4 f5 f6 f7
  cbv
  cases b2
  rotate_left
  · cbv
  cbv
  obtain ⟨cb, hcb⟩ : ∃ c, Is c (fun _ => lightB x) := ⟨_, ⟨rfl⟩⟩
  refine Or.inl ⟨_, _, hQ _ _ _ _ (lightBody_ac hB.st x k n t KX IX hok hJ cb hcb), ?_⟩
  cbv
  intro b3 h3
  cbv
  cases cb
  · have e : b3 = true := by have := h3.out; simpa using this
    subst e
    cbv
  have e : b3 = false := by have := h3.out; simpa using this
  subst e
  have hxs : x.size ≤ 1000000 := by have := (light_size hcb.out.symm).1; omega
  have hxo : okB x = true := hok.okB
  clear h2 h3 hcb
  cbv
  refine Or.inl ⟨_, _, hQ _ _ _ _ hcA, ?_⟩
  cbv
  intro b4 h4
  cbv
  cases cs
  · have e : b4 = true := by have := h4.out; simpa using this
    subst e
    cbv
  have e : b4 = false := by have := h4.out; simpa using this
  subst e
  obtain ⟨hl, hbig⟩ := hcl rfl
  clear hcl hcA h4
  cbv
  obtain ⟨cr, hcr⟩ : ∃ c : Bool, c = true ↔ LightR rl := by
    by_cases h : LightR rl
    · exact ⟨true, by simp [h]⟩
    · exact ⟨false, by simp [h]⟩
  refine Or.inl ⟨_, _, hQ _ _ _ _ (lightR_ac hB.st rl RX hRX hrl cr hcr), ?_⟩
  cbv
  intro b5 h5
  cbv
  cases cr
  · have e : b5 = true := by have := h5.out; simpa using this
    subst e
    cbv
  have e : b5 = false := by have := h5.out; simpa using this
  subst e
  have hLR : LightR rl := hcr.1 rfl
  clear hcr h5
  cbv
  obtain ⟨kd, rk, d, hk⟩ := KindR.of typ
  refine Or.inl ⟨_, _, hQ _ _ _ _ (kindOf_ac hB.st typ kd rk d hk), ?_⟩
  cbv
  refine Or.inl ⟨_, _, hQ _ _ _ _ (rkindOf_ac hB.st typ kd rk d hk), ?_⟩
  clear hk
  cbv
  obtain ⟨ru, told, hru⟩ := OfR.of et ek x room
  refine Or.inl ⟨_, _, hQ _ _ _ _ (of_ac hB.st hB.valid hB.check et ek ei eb x k n t KX IX hxs hxo hJ room ru told hru), ?_⟩
  cbv
  refine Or.inl ⟨_, _, hQ _ _ _ _ (rof_ac hB.st hV et ek ei eb x k n t KX IX hxs hxo hJ room ru told hru), ?_⟩
  clear hru
  obtain ⟨r1, r2, r3, r4, r5⟩ := ru
  cbv
  intro b6 h6
  have e : b6 = false := by rw [h6.out]; exact decide_eq_false (fun q => q rfl)
  subst e
  clear h6
  cbv
  intro b7 h7
  have e : b7 = false := by rw [h7.out]; exact decide_eq_false (fun q => q rfl)
  subst e
  clear h7
  cbv
  intro b8 h8
  have e : b8 = false := by rw [h8.out]; cases d <;> rfl
  subst e
  clear h8
  cbv
  intro b9 h9
  have e : b9 = false := (h9.out.trans (neR ⟨r1, r2, r3, r4, r5⟩ ⟨r1, r2, r3, r4, r5⟩)).trans (decide_eq_false (fun q => q rfl))
  subst e
  clear h9
  cbv
  intro b10 h10
  have e : b10 = false := by rw [h10.out]; cases told <;> rfl
  subst e
  clear h10
  cbv
  obtain ⟨TX, hTX⟩ : ∃ TX, (typesOf kind).map encS = TX := ⟨_, rfl⟩
  have hTl := typesOf_len kind
  refine Or.inl ⟨_, _, hQ _ _ _ _ (types_ac hB.st kind TX ⟨hTX.symm⟩), ?_⟩
  cbv
  refine Or.inl ⟨_, _, hQ _ _ _ _ (rtypes_ac hB.st kind TX ⟨hTX.symm⟩), ?_⟩
  cbv
  refine Or.inl ⟨_, _, hQ _ _ _ _ (sameSelf_ac hB.st (typesOf kind) TX hTX hTl), ?_⟩
  clear hTX hTl
  cbv
  intro b11 h11
  have e : b11 = false := h11.out
  subst e
  clear h11
  cbv
  obtain ⟨ct, hct⟩ : ∃ c, Is c (fun _ => decide (typ = wMban ∨ typ = wOban)) := ⟨_, ⟨rfl⟩⟩
  refine Or.inl ⟨_, _, hQ _ _ _ _ (takes_ac hB.st typ ct hct), ?_⟩
  cbv
  refine Or.inl ⟨_, _, hQ _ _ _ _ (rtakes_ac hB.st typ ct hct), ?_⟩
  clear hct
  cbv
  intro b12 h12
  have e : b12 = false := by rw [h12.out]; cases ct <;> rfl
  subst e
  clear h12
  cbv
  have h40 := hLR.len
  refine Or.inr ⟨[3, 5, 10], [560010], Int, fun i => [(.t 23, ⟨.pv (.lit (.int .i64 i)), none, none⟩)], Rng rl, fun i => RX.length - i.toNat, 0, (show Rng rl 0 from ⟨by omega, by omega⟩), ?_, ?_⟩
  · cbv
    simp
  intro i hi
  have hi : Rng rl i := hi
  cbv
  intro m1 g1
  cbv
  intro b13 h13
  cbv
  cases b13
  · cbv
    obtain ⟨Z, hZ⟩ : ∃ Z, (extractR l room).map encR = Z := ⟨_, rfl⟩
    have hel : (extractR l room).length ≤ 1000000 := by have := extractR_len l room; omega
    refine Or.inl ⟨_, _, hQ _ _ _ _ (extract_ac hB.st hB.valid hB.check hB.sort hB.sort0 l X hX hl hbig c1 c2 c3 MX UX VX n1 n2 n3 n4 n5 n6 n7 room Z ⟨hZ.symm⟩), ?_⟩
    cbv
    refine Or.inl ⟨_, _, hQ _ _ _ _ (rextract_ac hB.st hV l X hX hl hbig c1 c2 c3 MX UX VX n1 n2 n3 n4 n5 n6 n7 room Z ⟨hZ.symm⟩), ?_⟩
    cbv
    refine Or.inl ⟨_, _, hQ _ _ _ _ (sameR_ac hB.st (extractR l room) (extractR l room) Z Z hZ hZ hel true ⟨by simp⟩), ?_⟩
    clear hZ hel
    cbv
    refine Or.inl ⟨_, _, hQ _ _ _ _ (ownR_ac hB.st RX (hRX ▸ lenR rl) (by omega)), ?_⟩
    cbv
    obtain ⟨S, hS⟩ : ∃ S, (sortU rl).map encR = S := ⟨_, rfl⟩
    have hsl : (sortU rl).length ≤ 1000000 := by have := sortU_len rl; omega
    refine Or.inl ⟨_, _, hQ _ _ _ _ (sortAny_ac hB.st hB.sort hB.sort0 rl RX hRX (by omega) S ⟨hS.symm⟩), ?_⟩
    cbv
    refine Or.inl ⟨_, _, hQ _ _ _ _ (rsortR_ac hB.st (rl.length + 1) rl RX (by omega) (by omega) hRX S ⟨hS.symm⟩), ?_⟩
    cbv
    refine Or.inl ⟨_, _, hQ _ _ _ _ (sameR_ac hB.st (sortU rl) (sortU rl) S S hS hS hsl true ⟨by simp⟩), ?_⟩
    clear hS hsl
    cbv
    try exact ⟨rfl, trivial⟩
  have hp0 : Pos RX.length := ⟨by have e1 := g1.len; have e2 := h13.yes; have := hi.lo; omega⟩
  cbv
  refine ⟨⟨Int.le_refl _, hp0.out⟩, ?_⟩
  intro r hr
  obtain ⟨p, hp, rfl⟩ := hr.row hRX
  have again0 : ∀ {z : Rl}, rl[(0 : Int).toNat]? = some z → z = p := fun {z} hz => by rw [hp] at hz; cases hz; rfl
  obtain ⟨p1, p2, p3, p4, p5⟩ := p
  cbv
  refine ⟨g1.atL hi.lo h13.yes, ?_⟩
  intro r hr2
  obtain ⟨q, hq, rfl⟩ := hr2.row hRX
  have again : ∀ {z : Rl}, rl[i.toNat]? = some z → z = q := fun {z} hz => by rw [hq] at hz; cases hz; rfl
  have hsz := hLR.at hq
  obtain ⟨q1, q2, q3, q4, q5⟩ := q
  cbv
  obtain ⟨c, hc⟩ : ∃ c, Is c (fun _ => cmpR ⟨p1, p2, p3, p4, p5⟩ ⟨q1, q2, q3, q4, q5⟩) := ⟨_, ⟨rfl⟩⟩
  refine Or.inl ⟨_, _, hQ _ _ _ _ (compareR_ac hB.st ⟨p1, p2, p3, p4, p5⟩ ⟨q1, q2, q3, q4, q5⟩ c hc), ?_⟩
  cbv
  refine ⟨⟨Int.le_refl _, hp0.out⟩, ?_⟩
  intro r hr3
  obtain ⟨z, hz, rfl⟩ := hr3.row hRX
  obtain rfl := again0 hz
  cbv
  refine ⟨g1.atL hi.lo h13.yes, ?_⟩
  intro r hr4
  obtain ⟨z, hz2, rfl⟩ := hr4.row hRX
  obtain rfl := again hz2
  cbv
  refine Or.inl ⟨_, _, hQ _ _ _ _ (rcompareR_ac hB.st ⟨p1, p2, p3, p4, p5⟩ ⟨q1, q2, q3, q4, q5⟩ c hc), ?_⟩
  clear hc
  cbv
  intro b14 h14
  have e : b14 = false := by rw [h14.out]; exact decide_eq_false (fun q => q rfl)
  subst e
  clear h14
  cbv
  refine ⟨g1.atL hi.lo h13.yes, ?_⟩
  intro r hr5
  obtain ⟨z, hz3, rfl⟩ := hr5.row hRX
  obtain rfl := again hz3
  cbv
  obtain ⟨tx, htx⟩ : ∃ tx, Is tx (fun _ => textR ⟨q1, q2, q3, q4, q5⟩) := ⟨_, ⟨rfl⟩⟩
  refine Or.inl ⟨_, _, hQ _ _ _ _ (ptext_ac hB.st q1 q2 q3 q4 q5 hsz tx htx), ?_⟩
  cbv
  refine ⟨g1.atL hi.lo h13.yes, ?_⟩
  intro r hr6
  obtain ⟨z, hz4, rfl⟩ := hr6.row hRX
  obtain rfl := again hz4
  cbv
  refine Or.inl ⟨_, _, hQ _ _ _ _ (rText_ac hB.st q1 q2 q3 q4 q5 hsz tx htx), ?_⟩
  clear htx
  cbv
  intro b15 h15
  have e : b15 = false := by rw [h15.out]; exact decide_eq_false (fun q => q rfl)
  subst e
  clear h15
  cbv
  intro i' hi'
  cbv
  have e1 := g1.len
  have e2 := h13.yes
  have e3 := hi.lo
  have e4 := hi'.add1 (by omega) (by omega)
  refine ⟨i', ⟨by omega, by omega⟩, ?_, ?_⟩
  · show RX.length - i'.toNat < RX.length - i.toNat
    omega
  · cbv
    simp
end Go.Proofs.YtbjfmkmaghapgaaGreatDoor.B

set_option linter.unusedVariables false
set_option linter.unusedSimpArgs false
namespace Go.Proofs.YtbjfmkmaghapgaaGreatDoor.B
open Go.RowKit Go.Deep Go.ChangeShapes Go.WideShapes
section
variable {H : Type} {enc : TypeId × Value → H}
def SlOK (A : Option Addr) (n c : Nat) : Prop := (A = none ∧ n = 0 ∧ c = 0) ∨ ∃ b off, A = some ⟨b, off, none⟩
theorem sl_ok {P : Program} {w : World} {r : Reach} {base : Nat} {u : TypeId} {A : Option Addr} {n c : Nat} (h : Cell.okWide P w r base u (.slice A n c)) : SlOK A n c := by
  have h' : Cell.ok P w r base u (.slice A n c) := by
    unfold Cell.okWide at h
    split at h <;> first | exact h | simp_all
  unfold Cell.ok at h'
  split at h'
  all_goals first
    | (rename_i heq; cases heq; done)
    | skip
  all_goals try (rename_i heq; cases heq)
  all_goals first
    | exact h'.elim
    | exact .inl ⟨rfl, rfl, rfl⟩
    | (rename_i a _ ; obtain ⟨_, _, _, hs, _⟩ := h'; obtain ⟨b, o, s⟩ := a; cases hs; exact .inr ⟨b, o, rfl⟩)
    | skip
set_option maxRecDepth 100000 in
/-- One rule, by its cells. -/
theorem open_rule {n : Nat} {cs : List Value} {x : DataW H × List MemPlace} {w : World} (h : DataW.trod enc Tryz.prog w 0 (fun _ => true) true n 36 cs = some x) :
    ∃ r : Rl, cs = [.int .i64 r.kind, .string r.entity, .string r.reason, .string r.room, .string r.key] := by
  obtain ⟨xs, n, _, hx, hcs, hlen, hg⟩ := DataW.trod_struct Tryz.underlying36 h
  have hC : Tryz.prog.cellsOf 36 = 5 := by kernel_rfl
  rw [hC] at hcs
  match cs, hcs with
  | [v0, v1, v2, v3, v4], _ =>
    have g : ∀ (i : Nat) (f : Field) (v : Value) (cs : List Value), cs = [v0, v1, v2, v3, v4] → ([v0, v1, v2, v3, v4] : List Value)[i]? = some v → i < 5 → f.offset = i → Tryz.prog.cellsOf f.type = 1 → (DataW.trod enc Tryz.prog w 0 (fun _ => true) true n f.type ((cs.drop f.offset).take (Tryz.prog.cellsOf f.type)) = xs[i]?) →
        ∃ y, DataW.trod enc Tryz.prog w 0 (fun _ => true) true n f.type [v] = some y := by
      rintro i f v _ rfl hv hi ho hc he
      have hl : xs.length = 5 := hlen
      rw [ho, hc] at he
      obtain rfl | rfl | rfl | rfl | rfl : i = 0 ∨ i = 1 ∨ i = 2 ∨ i = 3 ∨ i = 4 := by omega
      all_goals
        simp at hv he
        subst hv
        exact ⟨_, he.trans (List.getElem?_eq_getElem (by omega))⟩
    obtain ⟨y0, g0⟩ := g 0 _ v0 _ rfl rfl (by omega) rfl (by kernel_rfl) (hg 0 _ rfl)
    obtain ⟨y1, g1⟩ := g 1 _ v1 _ rfl rfl (by omega) rfl (by kernel_rfl) (hg 1 _ rfl)
    obtain ⟨y2, g2⟩ := g 2 _ v2 _ rfl rfl (by omega) rfl (by kernel_rfl) (hg 2 _ rfl)
    obtain ⟨y3, g3⟩ := g 3 _ v3 _ rfl rfl (by omega) rfl (by kernel_rfl) (hg 3 _ rfl)
    obtain ⟨y4, g4⟩ := g 4 _ v4 _ rfl rfl (by omega) rfl (by kernel_rfl) (hg 4 _ rfl)
    obtain ⟨a0, e0, _, _⟩ := DataW.trod_int Tryz.underlying3 g0
    obtain ⟨a1, e1, _, _⟩ := DataW.trod_string Tryz.underlying9 g1
    obtain ⟨a2, e2, _, _⟩ := DataW.trod_string Tryz.underlying9 g2
    obtain ⟨a3, e3, _, _⟩ := DataW.trod_string Tryz.underlying9 g3
    obtain ⟨a4, e4, _, _⟩ := DataW.trod_string Tryz.underlying9 g4
    simp only [List.cons.injEq, and_true] at e0 e1 e2 e3 e4
    subst e0 e1 e2 e3 e4
    exact ⟨⟨a0, a1, a2, a3, a4⟩, rfl⟩
instance : Inhabited Rl := ⟨⟨0, ⟨#[]⟩, ⟨#[]⟩, ⟨#[]⟩, ⟨#[]⟩⟩⟩
def cellR (r : Rl) (j : Nat) : Value := [Value.int .i64 r.kind, .string r.entity, .string r.reason, .string r.room, .string r.key].getD j undef
set_option maxRecDepth 100000 in
/-- A list of rules. -/
theorem open_rules {r : Reach} {b0 : Nat} {w : World} {v : Value} {d : DataW H} {p : List MemPlace} (hv : Value.okWide Tryz.prog w r b0 32 v) (h : DataW.Trod enc Tryz.prog w 0 (fun _ => true) true 32 v d p) :
    ∃ (A : Option Addr) (n c : Nat) (l : List Rl), v = .slice A n c ∧ l.length ≤ 9223372036854775807 ∧ RepP (fun b o => b < w.heap.size) w (.slice A n c) (.sl (l.map encR)) := by
  have hU := Tryz.underlying32
  have hC : Tryz.prog.cellsOf 36 = 5 := by kernel_rfl
  obtain ⟨fuel, hf⟩ := h
  have hv1 : ∀ A n c, v = .slice A n c → SlOK A n c := by
    rintro A n c rfl
    unfold Value.okWide at hv
    rw [hU] at hv
    exact sl_ok hv
  have hcells : ∀ A n c, v.cells.toList = [.slice A n c] → v = .slice A n c := by
    intro A n c e
    unfold Value.okWide at hv
    rw [hU] at hv
    cases v <;> simp_all [Value.cells, Cell.okWide, Cell.ok]
  rcases open_slice hU hf with ⟨hcs, _⟩ | ⟨a, len, cap, m, k, D, Pl, hcs, _, hl, hm, hmm, _, hi⟩
  · have := hcells _ _ _ hcs
    subst this
    exact ⟨none, 0, 0, [], rfl, by simp, .nil' _⟩
  · have e := hcells _ _ _ hcs
    subst e
    simp at hmm
    subst hmm
    rcases hv1 _ _ _ rfl with ⟨q, _⟩ | ⟨b, off, q⟩
    · cases q
    cases q
    obtain ⟨R, hR⟩ := choose_lt (p := fun i (r : Rl) => ∀ j, j < 5 → w.cell? ⟨b, off + i * 5 + j, none⟩ = some (cellR r j) ∧ (cellR r j).oneCell' = true) (n := m) (fun i hi' => by
      obtain ⟨cs', c1, c2⟩ := hi i hi'
      obtain ⟨r, rfl⟩ := open_rule c2
      rw [hC] at c1
      obtain ⟨_, _, hcell⟩ := World.cells?_some c1
      refine ⟨r, fun j hj => ?_⟩
      have := hcell j hj
      rw [add_add, Addr.add_lit] at this
      rw [show off + i * 5 + j = off + (i * 5 + j) by omega, this]
      unfold cellR
      obtain rfl | rfl | rfl | rfl | rfl : j = 0 ∨ j = 1 ∨ j = 2 ∨ j = 3 ∨ j = 4 := by omega
      all_goals exact ⟨rfl, rfl⟩)
    refine ⟨some ⟨b, off, none⟩, len, m, (List.range len).map R, rfl, by simp; unfold maxLen at hm; omega, ?_⟩
    have hat : ∀ i r, (((List.range len).map R).map encR)[i]? = some r → i < len ∧ r = encR (R i) := fun i r hr => by
      rw [List.getElem?_map, List.getElem?_map] at hr
      obtain ⟨y, hy, rfl⟩ := Option.map_eq_some_iff.1 hr
      obtain ⟨z, hz, rfl⟩ := Option.map_eq_some_iff.1 hy
      obtain ⟨hlt, rfl⟩ := List.getElem?_eq_some_iff.1 hz
      rw [List.length_range] at hlt
      exact ⟨hlt, by simp⟩
    have := RepP.sl (S := fun b o => b < w.heap.size) (w := w) b off 5 m (((List.range len).map R).map encR) (fun i j => cellR (R i) j) (by simpa using hl) (fun r hr => by
      obtain ⟨p, _, rfl⟩ := List.mem_map.1 hr
      rfl) (fun i j hi' hj => cell_lt (hR i (by simp at hi'; omega) j hj).1) (fun i j hi' hj => hR i (by simp at hi'; omega) j hj) (fun i j r x hr hx => by
      obtain ⟨hlt, rfl⟩ := hat i r hr
      have hj : j < 5 := (List.getElem?_eq_some_iff.1 hx).1
      unfold cellR
      obtain rfl | rfl | rfl | rfl | rfl : j = 0 ∨ j = 1 ∨ j = 2 ∨ j = 3 ∨ j = 4 := by omega
      all_goals
        cases hx
        exact .lit _ rfl)
    simpa using this
end
end Go.Proofs.YtbjfmkmaghapgaaGreatDoor.B

set_option linter.unusedVariables false
set_option linter.unusedSimpArgs false
namespace Go.Proofs.YtbjfmkmaghapgaaGreatDoor.B
open Go.RowKit
theorem ty_entry' {ps : List PV} (h : Ty Tryz.prog 44 ps) : ∃ e : En, ps = encEn e ∧ OkEn e := by
  obtain ⟨e, rfl, h1, h2, h3, h4, h5⟩ := ty_entry h
  exact ⟨e, rfl, h1, h2, h3, h4, h5⟩
theorem RulesCalls_walk (typ : ByteArray) (kind : Int) (v2 : Value) (e : En) (room : ByteArray) (v4 : Value) (s : Stt) (A : Option Addr) (n c : Nat) (l : List Rl) (w : World) (hoe : OkEn e) (hre : RepP (fun b o => b < w.heap.size) w v2 (.agg (encEn e))) (hok : OkStt s) (hr : RepP (fun b o => b < w.heap.size) w v4 (.agg (encStt s))) (hl : l.length ≤ 9223372036854775807) (hrl : RepP (fun b o => b < w.heap.size) w (.slice A n c) (.sl (l.map encR))) (hT : H.Tab w) :
    Calls Tryz.prog 5 #[.string typ, .int .i64 kind, v2, .string room, v4, .slice A n c] w
      fun e w' => e = .returned (.bool true) ∧ Below w.heap.size w w' := by
  obtain ⟨cl, hc⟩ : ∃ c : Bool, c = true ↔ LightS s := by
    by_cases h : LightS s
    · exact ⟨true, by simp [h]⟩
    · exact ⟨false, by simp [h]⟩
  obtain ⟨et, ek, ei, eb, x⟩ := e
  obtain ⟨k', n', t', KX, IX, hJ, he⟩ := JRow.of x
  have hre' : RepP (fun b o => b < w.heap.size) w v2 (.agg [.lit (.string et), .lit (.string ek), .lit (.string ei), .lit (.string eb), .lit (.int .i64 k'), .lit (.int .i64 n'), .lit (.string t'), .sl KX, .sl IX]) := by
    have := hre
    unfold encEn at this
    rw [he] at this
    exact this
  refine ac_walks (rulesCalls_ac base rvalidC typ kind et ek ei eb x k' n' t' KX IX hoe.body hJ room s.creator s.createID s.levelsID (s.members.map encMem) (s.users.map encE) (s.events.map encE) s.n1 s.n2 s.n3 s.n4 s.n5 s.n6 s.n7 s.entries _ rfl
    ⟨cl, lightState_ac tab_stable s hok _ _ _ _ rfl rfl rfl rfl cl hc, fun h => ?_⟩ l _ rfl hl) (vs := [.string typ, .int .i64 kind, v2, .string room, v4, .slice A n c]) hT (.cons (.lit _ rfl) (.cons (.lit _ rfl) (.cons hre' (.cons (.lit _ rfl) (.cons hr (.cons hrl .nil))))))
  have hL := hc.1 h
  refine ⟨by have := hL.entries; omega, fun x hx => ⟨?_, (hok.entries.2 x hx).body.okB⟩⟩
  have := (light_size (hL.ent x hx).body).1
  omega
end Go.Proofs.YtbjfmkmaghapgaaGreatDoor.B
