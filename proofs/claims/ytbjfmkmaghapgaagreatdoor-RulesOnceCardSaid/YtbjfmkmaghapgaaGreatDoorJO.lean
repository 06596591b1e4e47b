/-
The law RulesOnce, walked. Conditions: those of the law's examples.
The law RulesOnce: its call, from a world whose arguments are read.
-/
import Derived.Test.YtbjfmkmaghapgaaGreatDoorJM
set_option linter.unusedVariables false
set_option linter.unusedSimpArgs false
namespace Go.Proofs.YtbjfmkmaghapgaaGreatDoor.B
open Go.RowKit
/-- The rules of the state, as rows. -/
structure Onc (l : List En) (room : ByteArray) (R : List Rl) (Z : List (List PV)) (ns : Nat) : Prop where
  e : R = extractR l room
  z : R.map encR = Z
  n : Z.length = ns
  hn : ns = R.length
  small : ns ≤ 1000000
theorem Onc.pw {l : List En} {room : ByteArray} {R : List Rl} {Z : List (List PV)} {n : Nat} (h : Onc l room R Z n) : R.Pairwise ltR := by rw [h.e]; exact sortU_lt _
theorem Onc.mem {l : List En} {room : ByteArray} {R : List Rl} {Z : List (List PV)} {n : Nat} (h : Onc l room R Z n) {i : Nat} {x : Rl} (hx : R[i]? = some x) : x ∈ extractR l room := h.e ▸ List.mem_of_getElem? hx
theorem rulesOf_len (l : List En) (room : ByteArray) : (rulesOf l room).length ≤ l.length := by
  unfold rulesOf
  refine Nat.le_trans (List.length_filterMap_le _ _) ?_
  rw [List.length_zipIdx]
  exact Nat.le_refl _
theorem extractR_len (l : List En) (room : ByteArray) : (extractR l room).length ≤ l.length := Nat.le_trans (sortU_len _) (rulesOf_len l room)
theorem Onc.at {l : List En} {room : ByteArray} {R : List Rl} {Z : List (List PV)} {n : Nat} (h : Onc l room R Z n) {i m : Int} (h0 : 0 ≤ i) (hm : Is m (fun _ => (Z.length : Int))) (hi : i < m) : ∃ x, R[i.toNat]? = some x :=
  ⟨_, List.getElem?_eq_getElem (show i.toNat < R.length by have e1 := hm.len; have e2 := h.n; have e3 := h.hn; omega)⟩
/-- Two rules at different places are not of the same kind and key. -/
theorem Onc.apart {l : List En} {room : ByteArray} {R : List Rl} {Z : List (List PV)} {n : Nat} (h : Onc l room R Z n) {i k : Nat} {x y : Rl} (hy : R[k]? = some y) (hx : R[i]? = some x) (hlt : k < i) (h1 : y.kind = x.kind) (h2 : y.key = x.key) : False :=
  lt_ne h.pw hy hx hlt (once_same (h.mem hy) (h.mem hx) h1 h2)
/-- A goal that several branches come to. -/
structure Keep (p : Prop) : Prop where
  out : p
theorem cut {P Q : Prop} (f : Keep P → Q) (p : P) : Q := f ⟨p⟩
theorem cutH {P Q : Prop} (H : Prop) (f : (H → Keep P) → Q) (p : H → P) : Q := f (fun h => ⟨p h⟩)
set_option maxRecDepth 100000 in
set_option maxHeartbeats 16000000 in
theorem rulesOnce_ac {G : World → Prop} (hB : Base G) (c1 c2 c3 : ByteArray) (MX UX VX : List (List PV)) (n1 n2 n3 n4 n5 n6 n7 : Int) (l : List En) (X : List (List PV)) (hX : l.map encEn = X) (room : ByteArray)
    (hL : ∃ c : Bool, ACalls G Tryz.prog 7 [.agg [.lit (.string c1), .lit (.string c2), .sl MX, .sl UX, .sl VX, .lit (.int .i64 n1), .lit (.int .i64 n2), .lit (.int .i64 n3), .lit (.int .i64 n4), .lit (.int .i64 n5), .lit (.int .i64 n6), .lit (.int .i64 n7), .lit (.string c3), .sl X]] (.lit (.bool c)) none ∧ (c = true → l.length ≤ 1000000 ∧ ∀ x, x ∈ l → x.body.size ≤ 1000000 ∧ okB x.body = true)) :
    ACalls G Tryz.prog 3 [.agg [.lit (.string c1), .lit (.string c2), .sl MX, .sl UX, .sl VX, .lit (.int .i64 n1), .lit (.int .i64 n2), .lit (.int .i64 n3), .lit (.int .i64 n4), .lit (.int .i64 n5), .lit (.int .i64 n6), .lit (.int .i64 n7), .lit (.string c3), .sl X], .lit (.string room)] (.lit (.bool true)) none := by
  have hXl : X.length = l.length := by rw [← hX]; simp
  obtain ⟨c, hcA, hcl⟩ := hL
  refine acalls_fn hB.st mixed tau_ok Tryz.func3 (by kernel_rfl) (by kernel_rfl) (by kernel_rfl) ?_
  intro Q hQ
  cbv
  refine Or.inl ⟨_, _, hQ _ _ _ _ (lives_ac hB), ?_⟩
  cbv
  intro b1 h1
  cbv
  have e : b1 = false := by have := h1.out; simpa using this
  subst e
  cbv
  refine Or.inl ⟨_, _, hQ _ _ _ _ hcA, ?_⟩
  cbv
  intro b2 h2
  cbv
  cases c
  · have e : b2 = true := by have := h2.out; simpa using this
    subst e
    cbv
  have e : b2 = false := by have := h2.out; simpa using this
  subst e
  obtain ⟨hl, hbig⟩ := hcl rfl
  clear hcl hcA
  cbv
  intro m1 g1
  cbv
  intro b3 h3
  cbv
  cases b3
  rotate_left
  · cbv
  cbv
  obtain ⟨R, hR⟩ : ∃ R, R = extractR l room := ⟨_, rfl⟩
  obtain ⟨Z, hZ⟩ : ∃ Z, R.map encR = Z := ⟨_, rfl⟩
  obtain ⟨nR, hnR⟩ : ∃ n, Z.length = n := ⟨_, rfl⟩
  have S : Onc l room R Z nR := by
    have e1 : nR = R.length := by rw [← hnR, ← hZ]; simp
    have e2 := extractR_len l room
    exact ⟨hR, hZ, hnR, e1, by rw [e1, hR]; omega⟩
  clear hR hZ hnR
  refine Or.inl ⟨_, _, hQ _ _ _ _ (extract_ac hB.st hB.valid hB.check hB.sort hB.sort0 l X hX hl hbig c1 c2 c3 MX UX VX n1 n2 n3 n4 n5 n6 n7 room Z ⟨by rw [← S.z, S.e]⟩), ?_⟩
  cbv
  refine Or.inr ⟨[1, 2, 5], [560002], Int, fun i => [(.t 6, ⟨.pv (.lit (.int .i64 i)), none, none⟩)], Upto1 nR, fun i => nR - i.toNat, 0, (show Upto1 nR 0 from ⟨by omega, by omega⟩), ?_, ?_⟩
  · cbv
    simp
  intro i hi
  have hi : Upto1 nR i := hi
  cbv
  intro m2 g2
  cbv
  intro b4 h4
  cbv
  cases b4
  · cbv
  obtain ⟨x, hx⟩ := S.at hi.lo g2 h4.yes
  obtain ⟨x1, x2, x3, x4, x5⟩ := x
  have again : ∀ {z : Rl}, R[i.toNat]? = some z → z = ⟨x1, x2, x3, x4, x5⟩ := fun {z} hz => by rw [hx] at hz; cases hz; rfl
  have hxr : x4 = room := once_room (S.mem hx)
  apply cut
  · intro rest
    cbv
    intro b5 h5
    cbv
    cases b5
    · cbv
      refine ⟨g2.atL hi.lo h4.yes, ?_⟩
      intro r hr2
      obtain ⟨z, hz, rfl⟩ := hr2.row S.z
      obtain rfl := again hz
      cbv
      intro b7 h7
      have eb : b7 = false := by rw [h7.out]; exact decide_eq_false (fun q => q hxr)
      subst eb
      cbv
      refine Or.inr ⟨[1, 2, 5, 6], [560002], Int, fun k => [(.t 7, ⟨.pv (.lit (.int .i64 k)), none, none⟩)], Upto1 i.toNat, fun k => i.toNat - k.toNat, 0, (show Upto1 i.toNat 0 from ⟨by omega, by omega⟩), ?_, ?_⟩
      · cbv
        simp
      · exact rest.out
    · cbv
      intro q hq
      have eq : q = i - 1 := hq.sub1 (by have := h5.yes; omega) (by have e1 := g2.len; have e2 := h4.yes; have := S.n; have := S.small; omega)
      have hqr : 0 ≤ q ∧ q.toNat < Z.length := ⟨by have := h5.yes; omega, by have e1 := g2.len; have e2 := h4.yes; have := h5.yes; omega⟩
      have eqn : i.toNat = q.toNat + 1 := by have := h5.yes; omega
      cbv
      refine ⟨⟨hqr⟩, ?_⟩
      intro r hr0
      obtain ⟨p, hp, rfl⟩ := hr0.row S.z
      obtain ⟨p1, p2, p3, p4, p5⟩ := p
      cbv
      refine ⟨g2.atL hi.lo h4.yes, ?_⟩
      intro r hr1
      obtain ⟨z, hz, rfl⟩ := hr1.row S.z
      obtain rfl := again hz
      have hadj := adj S.pw hp (eqn ▸ hx)
      cbv
      refine Or.inl ⟨_, _, hQ _ _ _ _ (compareR_ac hB.st ⟨p1, p2, p3, p4, p5⟩ ⟨x1, x2, x3, x4, x5⟩ (-1) ⟨hadj.1.symm⟩), ?_⟩
      cbv
      intro b6 h6
      have eb : b6 = false := h6.out
      subst eb
      cbv
      refine ⟨g2.atL hi.lo h4.yes, ?_⟩
      intro r hr2
      obtain ⟨z, hz, rfl⟩ := hr2.row S.z
      obtain rfl := again hz
      cbv
      intro b7 h7
      have eb : b7 = false := by rw [h7.out]; exact decide_eq_false (fun q => q hxr)
      subst eb
      cbv
      refine Or.inr ⟨[1, 2, 5, 6], [560002], Int, fun k => [(.t 7, ⟨.pv (.lit (.int .i64 k)), none, none⟩)], Upto1 i.toNat, fun k => i.toNat - k.toNat, 0, (show Upto1 i.toNat 0 from ⟨by omega, by omega⟩), ?_, ?_⟩
      · cbv
        simp
      · exact rest.out
  -- no earlier one is of its kind and key
  intro k hk
  have hk : Upto1 i.toNat k := hk
  cbv
  intro b8 h8
  cbv
  cases b8
  rotate_left
  · have hkr : 0 ≤ k ∧ k.toNat < Z.length := ⟨hk.lo, by have e1 := g2.len; have e2 := h4.yes; have e3 := h8.yes; have := hk.lo; have := hi.lo; omega⟩
    have hlt : k.toNat < i.toNat := by have e3 := h8.yes; have := hk.lo; have := hi.lo; omega
    cbv
    refine ⟨⟨hkr⟩, ?_⟩
    intro r hr0
    obtain ⟨p, hp, rfl⟩ := hr0.row S.z
    obtain ⟨p1, p2, p3, p4, p5⟩ := p
    cbv
    refine ⟨g2.atL hi.lo h4.yes, ?_⟩
    intro r hr1
    obtain ⟨z, hz, rfl⟩ := hr1.row S.z
    obtain rfl := again hz
    have hap := S.apart hp hx hlt
    apply cut
    · intro next
      cbv
      intro b9 h9
      cbv
      cases b9
      · cbv
        exact next.out
      · have e9 : p1 = x1 := h9.yes
        cbv
        refine ⟨⟨hkr⟩, ?_⟩
        intro r hr2
        obtain ⟨z, hz, rfl⟩ := hr2.row S.z
        obtain rfl : z = ⟨p1, p2, p3, p4, p5⟩ := by rw [hp] at hz; cases hz; rfl
        cbv
        refine ⟨g2.atL hi.lo h4.yes, ?_⟩
        intro r hr3
        obtain ⟨z, hz, rfl⟩ := hr3.row S.z
        obtain rfl := again hz
        cbv
        intro b10 h10
        have eb : b10 = false := by
          rw [h10.out]
          exact decide_eq_false (fun e10 => hap e9 e10)
        subst eb
        cbv
        exact next.out
    cbv
    intro k' hk'
    cbv
    have e1 := hk.lo
    have e2 := hi.hi
    have e3 := S.small
    have e4 := hk'.add1 (by omega) (by omega)
    refine ⟨k', ⟨by omega, by omega⟩, ?_, ?_⟩
    · show i.toNat - k'.toNat < i.toNat - k.toNat
      omega
    · cbv
      simp
  -- the entry that counts
  clear h8
  cbv
  refine Or.inr ⟨[1, 2, 5, 6], [560002], Int × Int × Int, fun p => [(.t 10, ⟨.pv (.lit (.int .i64 p.1)), none, none⟩), (.t 8, ⟨.pv (.lit (.int .i64 p.2.1)), none, none⟩), (.t 9, ⟨.pv (.lit (.int .i64 p.2.2)), none, none⟩)], fun p => BestAt l x1 x5 p.1 p.2.1 p.2.2, fun p => X.length - p.1.toNat, (0, 9, -1), BestAt.zero l x1 x5, ?_, ?_⟩
  · cbv
    simp
  intro ⟨j, bs, a⟩ hj
  have hj : BestAt l x1 x5 j bs a := hj
  cbv
  intro m3 g3
  cbv
  intro b9 h9
  cbv
  cases b9
  rotate_left
  · cbv
    refine ⟨g3.atL hj.lo h9.yes, ?_⟩
    intro r hr
    obtain ⟨en, hen, rfl⟩ := hr.row hX
    obtain ⟨typ, key', id, by_, k', n, t, KX, IX, hE, hee⟩ := EnRow.of en
    have hen2 : ∀ {z : En}, l[j.toNat]? = some z → z = en := fun {z} hz => by rw [hen] at hz; cases hz; rfl
    rw [hee]
    cbv
    obtain ⟨kd, rk, d, hk⟩ := KindR.of typ
    refine Or.inl ⟨_, _, hQ _ _ _ _ (kindOf_ac hB.st typ kd rk d hk), ?_⟩
    apply cutH (∀ r, kindOf en.typ = some (x1, r) → en.key = x5 → bs ≤ r)
    · intro next
      cbv
      cases d
      · have hn : kindOf en.typ = none := by
          rcases hk.out with ⟨h, _⟩ | ⟨_, h, _⟩
          · cases h
          · rw [hE.h1]; exact h
        cbv
        exact (next (fun r hr _ => by rw [hn] at hr; cases hr)).out
      · have hkn : kindOf en.typ = some (kd, rk) := by
          rcases hk.out with ⟨_, h⟩ | ⟨h, _⟩
          · rw [hE.h1]; exact h
          · cases h
        clear hk
        cbv
        refine ⟨g2.atL hi.lo h4.yes, ?_⟩
        intro r hr1
        obtain ⟨z, hz, rfl⟩ := hr1.row S.z
        obtain rfl := again hz
        cbv
        intro b10 h10
        cbv
        cases b10
        · cbv
          exact (next (fun r hr _ => by rw [hkn] at hr; cases hr; exact absurd rfl h10.no)).out
        · cbv
          refine ⟨g3.atL hj.lo h9.yes, ?_⟩
          intro r hr2
          obtain ⟨z, hz, rfl⟩ := hr2.row hX
          obtain rfl := hen2 hz
          rw [hee]
          cbv
          refine ⟨g2.atL hi.lo h4.yes, ?_⟩
          intro r hr3
          obtain ⟨z, hz, rfl⟩ := hr3.row S.z
          obtain rfl := again hz
          cbv
          intro b11 h11
          cbv
          cases b11
          · cbv
            exact (next (fun r hr hk => absurd (hE.h2.symm.trans hk) h11.no)).out
          · cbv
            intro b12 h12
            cbv
            cases b12
            · cbv
              exact (next (fun r hr hk => by
                rw [hkn] at hr
                cases hr
                have := h12.no
                omega)).out
            · cbv
              intro j' hj'
              cbv
              have e1 := g3.len
              have e2 := h9.yes
              have e3 := hj.lo
              have e4 := hj'.add1 (by omega) (by omega)
              have ek : kd = x1 := h10.yes
              refine ⟨(j', rk, j), ?_, ?_, ?_⟩
              · rw [e4]
                exact hj.take hen (ek ▸ hkn) (hE.h2.trans h11.yes) h12.yes
              · show X.length - j'.toNat < X.length - j.toNat
                omega
              · cbv
                simp
    · intro hn
      cbv
      intro j' hj'
      cbv
      have e1 := g3.len
      have e2 := h9.yes
      have e3 := hj.lo
      have e4 := hj'.add1 (by omega) (by omega)
      refine ⟨(j', bs, a), ?_, ?_, ?_⟩
      · rw [e4]
        exact hj.keep hen hn
      · show X.length - j'.toNat < X.length - j.toNat
        omega
      · cbv
        simp
  -- it declares the rule
  obtain ⟨ha0, en, hen, hof⟩ := BestAt.found (S.mem hx) hj (by have e1 := g3.len; have e2 := h9.no; omega)
  have har : 0 ≤ a ∧ a.toNat < X.length := ⟨ha0, by have := (List.getElem?_eq_some_iff.1 hen).1; omega⟩
  clear h9 g3 hj
  cbv
  intro b10 h10
  have eb : b10 = false := by rw [h10.out]; exact decide_eq_false (by omega)
  subst eb
  cbv
  refine ⟨⟨har⟩, ?_⟩
  intro r hr
  obtain ⟨z, hz, rfl⟩ := hr.row hX
  obtain rfl : z = en := by rw [hen] at hz; cases hz; rfl
  obtain ⟨typ, key', id, by_, k', n, t, KX, IX, hE, hee⟩ := EnRow.of z
  rw [hee]
  cbv
  refine Or.inl ⟨_, _, hQ _ _ _ _ (of_ac hB.st hB.valid hB.check typ key' id by_ z.body k' n t KX IX (hbig _ (List.mem_of_getElem? hz)).1 (hbig _ (List.mem_of_getElem? hz)).2 hE.hJ room ⟨x1, x2, x3, x4, x5⟩ true ⟨.inl ⟨rfl, by rw [← hE.h1, ← hE.h2]; exact hof⟩⟩), ?_⟩
  cbv
  intro b12 h12
  have eb : b12 = false := h12.out
  subst eb
  cbv
  refine ⟨g2.atL hi.lo h4.yes, ?_⟩
  intro r hr1
  obtain ⟨y, hy, rfl⟩ := hr1.row S.z
  obtain rfl := again hy
  cbv
  intro b11 h11
  have eb : b11 = false := (h11.out.trans (neR ⟨x1, x2, x3, x4, x5⟩ ⟨x1, x2, x3, x4, x5⟩)).trans (decide_eq_false (fun q => q rfl))
  subst eb
  cbv
  intro i' hi'
  cbv
  have e1 := g2.len
  have e2 := h4.yes
  have e3 := S.n
  have e5 := S.small
  have e4 := hi'.add1 (by have := hi.lo; omega) (by omega)
  refine ⟨i', ⟨by have := hi.lo; omega, by omega⟩, ?_, ?_⟩
  · show nR - i'.toNat < nR - i.toNat
    have := hi.lo
    omega
  · cbv
    simp
end Go.Proofs.YtbjfmkmaghapgaaGreatDoor.B

set_option linter.unusedVariables false
set_option linter.unusedSimpArgs false
namespace Go.Proofs.YtbjfmkmaghapgaaGreatDoor.B
open Go.RowKit
theorem RulesOnce_walk (v0 : Value) (s : Stt) (room : ByteArray) (w : World) (hok : OkStt s) (hr : RepP (fun b o => b < w.heap.size) w v0 (.agg (encStt s))) (hT : H.Tab w) :
    Calls Tryz.prog 3 #[v0, .string room] w
      fun e w' => e = .returned (.bool true) ∧ Below w.heap.size w w' := by
  obtain ⟨c, hc⟩ : ∃ c : Bool, c = true ↔ LightS s := by
    by_cases h : LightS s
    · exact ⟨true, by simp [h]⟩
    · exact ⟨false, by simp [h]⟩
  refine ac_walks (rulesOnce_ac base s.creator s.createID s.levelsID (s.members.map encMem) (s.users.map encE) (s.events.map encE) s.n1 s.n2 s.n3 s.n4 s.n5 s.n6 s.n7 s.entries _ rfl room
    ⟨c, lightState_ac tab_stable s hok _ _ _ _ rfl rfl rfl rfl c hc, fun h => ?_⟩) (vs := [v0, .string room]) hT (.cons hr (.cons (.lit _ rfl) .nil))
  have hL := hc.1 h
  refine ⟨by have := hL.entries; omega, fun x hx => ⟨?_, (hok.entries.2 x hx).body.okB⟩⟩
  have := (light_size (hL.ent x hx).body).1
  omega
end Go.Proofs.YtbjfmkmaghapgaaGreatDoor.B
