/-
rules.Extract, walked. Conditions: json.Check's contract, scan.Valid's, the library's sort.
The law's helpers at rules: Own, Same, LightRules, Pick; walked. Condition: none.
The law's examples, walked. Conditions: the contracts of outlawref06.RuleBody, json.Check, scan.Valid, the library's sort.
-/
import Derived.Test.YtbjfmkmaghapgaaGreatDoorBExtr
import Derived.Test.YtbjfmkmaghapgaaGreatDoorBOrd
set_option linter.unusedVariables false
set_option linter.unusedSimpArgs false
namespace Go.Proofs.YtbjfmkmaghapgaaGreatDoor.B
open Go.RowKit
structure EnRow (x : En) (typ key id by_ : ByteArray) (k n : Int) (t : ByteArray) (KX IX : List (List PV)) : Prop where
  h1 : x.typ = typ
  h2 : x.key = key
  hJ : JRow x.body k n t KX IX
theorem EnRow.of (x : En) : ∃ typ key id by_ k n t KX IX, EnRow x typ key id by_ k n t KX IX ∧ encEn x = [.lit (.string typ), .lit (.string key), .lit (.string id), .lit (.string by_), .lit (.int .i64 k), .lit (.int .i64 n), .lit (.string t), .sl KX, .sl IX] := by
  obtain ⟨k, n, t, KX, IX, hJ, he⟩ := JRow.of x.body
  refine ⟨x.typ, x.key, x.id, x.by_, k, n, t, KX, IX, ⟨rfl, rfl, hJ⟩, ?_⟩
  unfold encEn
  rw [he]
  rfl
theorem lenEn (l : List En) : ∀ r, r ∈ l.map encEn → r.length = 9 := by
  intro r hr
  obtain ⟨x, _, rfl⟩ := List.mem_map.1 hr
  obtain ⟨typ, key, id, by_, k, n, t, KX, IX, _, e⟩ := EnRow.of x
  rw [e]
  rfl
set_option maxRecDepth 100000 in
theorem shapeK (k : Int) (key : ByteArray) : keyShape tau 68 (kP k key) = true := by cbv
theorem allE_of {p : ME → Prop} : ∀ (es : List ME), (∀ e, e ∈ es → p e) → allE es p
  | [], _ => trivial
  | e :: es, h => ⟨h e (by simp), allE_of es (fun x hx => h x (by simp [hx]))⟩
theorem allE_m {p : ME → Prop} (es : List ME) : (∀ e, e ∈ es → p e) → (match es, p with
  | [], _ => True
  | e :: r, p => p e ∧ allE r p) := by
  intro h
  have := allE_of es h
  cases es with
  | nil => trivial
  | cons e r => exact this
/-- An entry of the map is there. -/
structure Fnd (l : List En) (i : Int) (es : List ME) (b : Nat) (k : Int) (key : ByteArray) (rk a : Int) : Prop where
  mem : (⟨b, kP k key, vP rk a⟩ : ME) ∈ es
  look : LookR es (kP k key) (some ⟨b, kP k key, vP rk a⟩)
  best : IsBest l i.toNat k key rk a
structure NoE (es : List ME) (k : Int) (key : ByteArray) : Prop where
  out : ∀ e, e ∈ es → e.key ≠ kP k key
structure Shp (es : List ME) (k : Int) (key : ByteArray) : Prop where
  out : keyShape tau 68 (kP k key) = true ∧ ∀ e, e ∈ es → keyShape tau 68 e.key = true
theorem Best.shp {l : List En} {i : Int} {es : List ME} {clk : Nat} (h : Best l i es clk) (k : Int) (key : ByteArray) : Shp es k key :=
  ⟨shapeK k key, fun e he => by obtain ⟨_, k', key', _, _, h1, _⟩ := h.form e he; rw [h1]; exact shapeK k' key'⟩
theorem Best.fnd {l : List En} {i : Int} {es : List ME} {clk : Nat} (h : Best l i es clk) {e : ME} (he : e ∈ es) : ∃ b k key rk a, e = ⟨b, kP k key, vP rk a⟩ ∧ Fnd l i es b k key rk a := by
  obtain ⟨_, k, key, rk, a, h1, h2, h3⟩ := h.form e he
  obtain ⟨b, kk, vv⟩ := e
  simp only at h1 h2
  subst h1 h2
  exact ⟨b, k, key, rk, a, rfl, he, ⟨he, rfl, fun e' he' hk => h.uniqK _ _ he' he hk⟩, h3⟩
theorem Best.seek {l : List En} {i : Int} {es : List ME} {clk : Nat} (h : Best l i es clk) (k : Int) (key : ByteArray) : (∃ b rk a, Fnd l i es b k key rk a) ∨ NoE es k key := by
  by_cases hx : ∃ e, e ∈ es ∧ e.key = kP k key
  · obtain ⟨e, he, hk⟩ := hx
    obtain ⟨b, k', key', rk, a, rfl, hf⟩ := h.fnd he
    obtain ⟨rfl, rfl⟩ := kP_inj hk
    exact .inl ⟨b, rk, a, hf⟩
  · exact .inr ⟨fun e he hk => hx ⟨e, he, hk⟩⟩
/-- An entry of the state that an entry of the map names. -/
structure Nam (l : List En) (X : List (List PV)) (a : Int) (x : En) : Prop where
  req : 0 ≤ a ∧ a.toNat < X.length
  at_ : l[a.toNat]? = some x
theorem Fnd.nam {l : List En} {i : Int} {es : List ME} {b : Nat} {k : Int} {key : ByteArray} {rk a : Int} (h : Fnd l i es b k key rk a) {X : List (List PV)} (hX : l.map encEn = X) : ∃ x, Nam l X a x := by
  obtain ⟨x, hx, _, _⟩ := h.best.one
  have hlt := (List.getElem?_eq_some_iff.1 hx).1
  have h0 := h.best.lo
  refine ⟨x, ⟨h0, ?_⟩, hx⟩
  rw [← hX, List.length_map]
  omega
theorem OfR.row (r : Rl) : ∃ a b c d e, r = ⟨a, b, c, d, e⟩ := ⟨_, _, _, _, _, rfl⟩
/-- The rules that were told, as rows. -/
structure OutR (l : List En) (room : ByteArray) (es : List ME) (seen : List Nat) (O : List (List PV)) : Prop where
  out : ∃ o, Out l room es seen o ∧ o.map encR = O
set_option maxRecDepth 100000 in
set_option maxHeartbeats 8000000 in
theorem extract_ac {G : World → Prop} (hst : Stable G) (hV : ValidC G) (hC : CheckC G) (hS : SortC G) (h0 : SortNilC G) (l : List En) (X : List (List PV)) (hX : l.map encEn = X) (hl : l.length ≤ 1000000) (hbig : ∀ x, x ∈ l → x.body.size ≤ 1000000 ∧ okB x.body = true)
    (c1 c2 c3 : ByteArray) (MX UX VX : List (List PV)) (n1 n2 n3 n4 n5 n6 n7 : Int) (room : ByteArray) (Z : List (List PV)) (hZ : Is Z (fun _ => (extractR l room).map encR)) :
    ACalls G Tryz.prog 8 [.agg [.lit (.string c1), .lit (.string c2), .sl MX, .sl UX, .sl VX, .lit (.int .i64 n1), .lit (.int .i64 n2), .lit (.int .i64 n3), .lit (.int .i64 n4), .lit (.int .i64 n5), .lit (.int .i64 n6), .lit (.int .i64 n7), .lit (.string c3), .sl X], .lit (.string room)] (.sl Z) none := by
  have hXl : X.length = l.length := by rw [← hX]; simp
  refine acalls_fn hst mixed tau_ok Tryz.func8 (by kernel_rfl) (by kernel_rfl) (by kernel_rfl) ?_
  intro Q hQ
  cbv
  intro m1 h1
  cbv
  refine Or.inr ⟨[1, 2, 5, 21, 22], [560002, 20019], Int × List ME × Nat, fun p => [(.t 23, ⟨.pv (.lit (.int .i64 p.1)), none, none⟩), (.b 20019 0, ⟨.ents p.2.1 p.2.2, none, none⟩)], fun p => Best l p.1 p.2.1 p.2.2, fun p => X.length - p.1.toNat, (0, [], 0), Best.zero l, ?_, ?_⟩
  · cbv
    simp
  · intro ⟨i, es, clk⟩ hp
    have hp : Best l i es clk := hp
    cbv
    intro b1 h2
    cbv
    cases b1
    · cbv
      have hend : i.toNat = l.length := by have e1 := h1.len; have e2 := h2.no; have e3 := hp.hi; have e4 := hp.lo; omega
      refine Or.inr ⟨[1, 2, 62], [560002, 20019, 20062], List Nat × List (List PV), fun p => [(.b 20062 0, ⟨.iter 20019 clk p.1, none, none⟩), (.t 14, ⟨.pv (.sl p.2), some (36, 5), none⟩)], fun p => OutR l room es p.1 p.2, fun p => left es p.1, ([], []), (show OutR l room es [] [] from ⟨[], Out.zero l room es, rfl⟩), ?_, ?_⟩
      · cbv
        simp
      · intro ⟨seen, O⟩ ho
        have ho : OutR l room es seen O := ho
        cbv
        refine ⟨⟨rfl⟩, fun hov => ?_, allE_m es (fun e he hf => ?_)⟩
        · obtain ⟨o, ho1, ho2⟩ := ho.out
          have hol : o.length ≤ 1000000 := by have e1 := ho1.len; have e2 := hp.len; omega
          have hfin : Is Z (fun _ => (sortU o).map encR) := ⟨by rw [hZ.out, ho1.done hp hend (fun b hb => hov.out b hb)]⟩
          clear hov
          cbv
          refine Or.inl ⟨_, _, hQ _ _ _ _ (sortAny_ac hst hS h0 o O ho2 hol Z hfin), ?_⟩
          cbv
          try exact ⟨rfl, trivial⟩
        · obtain ⟨b, k, key, rk, a, rfl, hb⟩ := hp.fnd he
          obtain ⟨x, hx⟩ := hb.nam hX
          cbv
          refine ⟨⟨rfl⟩, ⟨b, kP k key, vP rk a⟩, ⟨hb.mem, rfl⟩, ?_⟩
          cbv
          refine ⟨⟨hx.req⟩, ?_⟩
          intro r hr
          obtain ⟨x', hx', rfl⟩ := hr.row hX
          have ex : x' = x := by have := hx.at_; rw [hx'] at this; cases this; rfl
          subst ex
          obtain ⟨typ, key', id, by_, k', n, t, KX, IX, hE, hee⟩ := EnRow.of x'
          rw [hee]
          cbv
          obtain ⟨ru, d, hru⟩ := OfR.of typ key' x'.body room
          refine Or.inl ⟨_, _, hQ _ _ _ _ (of_ac hst hV hC typ key' id by_ x'.body k' n t KX IX (hbig x' (List.mem_of_getElem? hx')).1 (hbig x' (List.mem_of_getElem? hx')).2 hE.hJ room ru d hru), ?_⟩
          obtain ⟨r1, r2, r3, r4, r5⟩ := ru
          cbv
          cases d
          · cbv
            refine ⟨(b :: seen, O), ?_, ?_, ?_⟩
            · obtain ⟨o, ho1, ho2⟩ := ho.out
              refine ⟨o, ho1.not hp hb.mem hf.out rfl rfl hx' ?_, ho2⟩
              rcases hru.out with ⟨h, _⟩ | ⟨_, h, _⟩
              · cases h
              · rw [hE.h1, hE.h2]; exact h
            · exact left_lt es seen _ hb.mem hf.out
            · cbv
              simp
          · cbv
            have hOl : O.length ≤ 1000000 ∧ ∀ r, r ∈ O → r.length = 5 := by
              obtain ⟨o, ho1, ho2⟩ := ho.out
              have e1 := ho1.len
              have e2 := hp.len
              rw [← ho2]
              refine ⟨by rw [List.length_map]; omega, lenR o⟩
            refine ⟨⟨by have := hOl.1; simp; omega, fun r hr => hOl.2 r hr, fun r hr => ?_⟩, ?_⟩
            · simp at hr; subst hr; rfl
            · intro Y' hY'
              cbv
              refine ⟨(b :: seen, Y'), ?_, ?_, ?_⟩
              · obtain ⟨o, ho1, ho2⟩ := ho.out
                refine ⟨o ++ [⟨r1, r2, r3, r4, r5⟩], ho1.told hp hb.mem hf.out rfl rfl hb.best.lo hx' ?_, ?_⟩
                · rcases hru.out with ⟨_, h⟩ | ⟨h, _⟩
                  · rw [hE.h1, hE.h2]; exact h
                  · cases h
                · rw [hY'.out, List.map_append, ho2]
                  rfl
              · exact left_lt es seen _ hb.mem hf.out
              · cbv
                simp
    · cbv
      refine ⟨h1.atL hp.lo h2.yes, ?_⟩
      intro r hr
      obtain ⟨x, hx, rfl⟩ := hr.row hX
      obtain ⟨typ, key, id, by_, k, n, t, KX, IX, hE, he⟩ := EnRow.of x
      rw [he]
      cbv
      obtain ⟨kd, rk, d, hk⟩ := KindR.of typ
      refine Or.inl ⟨_, _, hQ _ _ _ _ (kindOf_ac hst typ kd rk d hk), ?_⟩
      cbv
      intro b2 h3
      cbv
      cases d
      · have e : b2 = true := by have := h3.out; simpa using this
        subst e
        cbv
        intro i' hi'
        cbv
        have e1 := h1.len
        have e2 := h2.yes
        have e4 := hi'.add1 (by have := hp.lo; omega) (by omega)
        have hkn : kindOf x.typ = none := by
          rcases hk.out with ⟨h, _⟩ | ⟨_, h, _⟩
          · cases h
          · rw [hE.h1]; exact h
        refine ⟨(i', es, clk), hp.skip hx hkn e4, ?_, ?_⟩
        · show X.length - i'.toNat < X.length - i.toNat
          have := hp.lo
          omega
        · cbv
          simp
      · have e : b2 = false := by have := h3.out; simpa using this
        subst e
        cbv
        have hkn : KindR x.typ kd rk true := hE.h1 ▸ hk
        refine ⟨⟨(hp.shp kd key).out⟩, ?_⟩
        rcases hp.seek kd key with ⟨b0, rk0, a0, hf⟩ | hno
        · refine ⟨some ⟨b0, kP kd key, vP rk0 a0⟩, ⟨hf.look⟩, ?_⟩
          cbv
          intro b5 h5
          have e5 : b5 = false := by have := h5.out; simpa using this
          subst e5
          cbv
          intro b6 h6
          cbv
          cases b6
          · cbv
            intro i' hi'
            cbv
            have e1 := h1.len
            have e2 := h2.yes
            have e4 := hi'.add1 (by have := hp.lo; omega) (by omega)
            refine ⟨(i', es, clk), ?_, ?_, ?_⟩
            · rcases hkn.out with ⟨_, h⟩ | ⟨h, _⟩
              · exact hp.keep hx h hf.mem (hE.h2 ▸ rfl) rfl h6.no e4
              · cases h
            · show X.length - i'.toNat < X.length - i.toNat
              have := hp.lo
              omega
            · cbv
              simp
          · cbv
            refine ⟨⟨(hp.shp kd key).out⟩, ?_⟩
            refine ⟨some ⟨b0, kP kd key, vP rk0 a0⟩, ⟨hf.look⟩, ?_⟩
            cbv
            intro es' hes
            cbv
            intro i' hi'
            cbv
            have e1 := h1.len
            have e2 := h2.yes
            have e4 := hi'.add1 (by have := hp.lo; omega) (by omega)
            refine ⟨(i', es', clk), ?_, ?_, ?_⟩
            · rcases hkn.out with ⟨_, h⟩ | ⟨h, _⟩
              · have := hp.set hx h hf.mem (hE.h2 ▸ rfl) rfl h6.yes e4
                rw [hes.out]
                exact this
              · cases h
            · show X.length - i'.toNat < X.length - i.toNat
              have := hp.lo
              omega
            · cbv
              simp
        · refine ⟨none, ⟨hno.out⟩, ?_⟩
          cbv
          intro b5 h5
          have e5 : b5 = true := by have := h5.out; simpa using this
          subst e5
          cbv
          refine ⟨⟨(hp.shp kd key).out⟩, ?_⟩
          refine ⟨none, ⟨hno.out⟩, ?_⟩
          cbv
          intro es' hes clk' hclk
          cbv
          intro i' hi'
          cbv
          have e1 := h1.len
          have e2 := h2.yes
          have e4 := hi'.add1 (by have := hp.lo; omega) (by omega)
          refine ⟨(i', es', clk'), ?_, ?_, ?_⟩
          · rcases hkn.out with ⟨_, h⟩ | ⟨h, _⟩
            · have := hp.new hx h (fun e he => hE.h2 ▸ hno.out e he) e4
              rw [hE.h2] at this
              rw [hes.out, hclk.out]
              exact this
            · cases h
          · show X.length - i'.toNat < X.length - i.toNat
            have := hp.lo
            omega
          · cbv
            simp
end Go.Proofs.YtbjfmkmaghapgaaGreatDoor.B

set_option linter.unusedVariables false
set_option linter.unusedSimpArgs false
namespace Go.Proofs.YtbjfmkmaghapgaaGreatDoor.B
open Go.RowKit
set_option maxRecDepth 100000 in
set_option maxHeartbeats 2000000 in
theorem ownR_ac {G : World → Prop} (hst : Stable G) (X : List (List PV)) (hX : ∀ r, r ∈ X → r.length = 5) (hl : X.length ≤ 1000000) :
    ACalls G Tryz.prog 29 [.sl X] (.sl X) (some (36, 5)) := by
  refine acalls_fn hst mixed tau_ok Tryz.func29 (by kernel_rfl) (by kernel_rfl) (by kernel_rfl) ?_
  intro Q hQ
  cbv
  refine ⟨⟨by simp only [List.length_nil]; omega, fun r hr => by simp at hr, hX⟩, ?_⟩
  intro M hM
  obtain rfl : M = X := hM.out
  cbv
  try first | exact ⟨rfl, trivial⟩ | exact Or.inr trivial | exact Or.inl rfl
/-- So far the same. -/
structure SameAt (a b : List Rl) (k : Int) : Prop where
  lo : 0 ≤ k
  hi : k ≤ a.length
  all : a.take k.toNat = b.take k.toNat
theorem SameAt.next {a b : List Rl} {k : Int} (h : SameAt a b k) {x y : Rl} (hx : a[k.toNat]? = some x) (hy : b[k.toNat]? = some y) (e : x = y) {k' : Int} (hk : k' = k + 1) : SameAt a b k' := by
  have h0 := h.lo
  have hlt := (List.getElem?_eq_some_iff.1 hx).1
  refine ⟨by omega, by omega, ?_⟩
  rw [hk, show (k + 1).toNat = k.toNat + 1 by omega, List.take_add_one, List.take_add_one, h.all, hx, hy, e]
set_option maxRecDepth 100000 in
set_option maxHeartbeats 4000000 in
theorem sameR_ac {G : World → Prop} (hst : Stable G) (a b : List Rl) (X Y : List (List PV)) (hX : a.map encR = X) (hY : b.map encR = Y) (hl : a.length ≤ 1000000) (c : Bool) (hc : Is c (fun _ => decide (a = b))) :
    ACalls G Tryz.prog 26 [.sl X, .sl Y] (.lit (.bool c)) none := by
  have hXl : X.length = a.length := by rw [← hX]; simp
  have hYl : Y.length = b.length := by rw [← hY]; simp
  refine acalls_fn hst mixed tau_ok Tryz.func26 (by kernel_rfl) (by kernel_rfl) (by kernel_rfl) ?_
  intro Q hQ
  cbv
  intro m1 h1
  cbv
  intro m2 h2
  cbv
  intro b1 h3
  cbv
  cases b1
  · cbv
    have hlen : a.length = b.length := by
      have e1 := h1.len
      have e2 := h2.len
      have e3 := Decidable.not_not.1 h3.no
      omega
    refine Or.inr ⟨[0, 1], [], Int, fun k => [(.t 5, ⟨.pv (.lit (.int .i64 k)), none, none⟩)], SameAt a b, fun k => X.length - k.toNat, 0, (show SameAt a b 0 from ⟨by omega, by omega, by simp⟩), ?_, ?_⟩
    · cbv
      simp
    · intro k hk
      have hk : SameAt a b k := hk
      cbv
      intro m3 h4
      cbv
      intro b2 h5
      cbv
      cases b2
      · cbv
        refine litB ?_
        have e1 := h4.len
        have e2 := h5.no
        have e3 := hk.all
        rw [List.take_of_length_le (by omega), List.take_of_length_le (by omega)] at e3
        rw [hc.out]
        exact (decide_eq_true e3).symm
      · cbv
        refine ⟨h4.atL hk.lo h5.yes, ?_⟩
        intro r hr
        obtain ⟨x, hx, rfl⟩ := hr.row hX
        obtain ⟨x1, x2, x3, x4, x5⟩ := x
        cbv
        refine ⟨⟨hk.lo, by have e1 := h4.len; have e2 := h5.yes; have := hk.lo; omega⟩, ?_⟩
        intro r hr
        obtain ⟨y, hy, rfl⟩ := hr.row hY
        obtain ⟨y1, y2, y3, y4, y5⟩ := y
        cbv
        intro b3 h6
        cbv
        have hq : b3 = decide ((⟨x1, x2, x3, x4, x5⟩ : Rl) ≠ ⟨y1, y2, y3, y4, y5⟩) := h6.out.trans (neR ⟨x1, x2, x3, x4, x5⟩ ⟨y1, y2, y3, y4, y5⟩)
        cases b3
        · cbv
          intro k' hk'
          cbv
          have e1 := h4.len
          have e2 := h5.yes
          have e4 := hk'.add1 (by have := hk.lo; omega) (by omega)
          refine ⟨k', ?_, ?_, ?_⟩
          · exact hk.next hx hy (Decidable.not_not.1 (of_decide_eq_false hq.symm)) e4
          · show X.length - k'.toNat < X.length - k.toNat
            have := hk.lo
            omega
          · cbv
            simp
        · cbv
          refine litB ?_
          rw [hc.out]
          refine (decide_eq_false (fun e => ?_)).symm
          rw [e] at hx
          rw [hx] at hy
          cases hy
          exact of_decide_eq_true hq.symm rfl
  · cbv
    refine litB ?_
    have e1 := h1.len
    have e2 := h2.len
    have e3 := h3.yes
    rw [hc.out]
    refine (decide_eq_false (fun e => ?_)).symm
    subst e
    omega
def smallR (r : Rl) : Prop := r.entity.size ≤ 300 ∧ r.reason.size ≤ 300 ∧ r.room.size ≤ 300 ∧ r.key.size ≤ 300
structure LightR (l : List Rl) : Prop where
  len : l.length ≤ 40
  all : ∀ (i : Nat) (x : Rl), l[i]? = some x → smallR x
structure LightAt (l : List Rl) (k : Int) : Prop where
  lo : 0 ≤ k
  hi : k ≤ l.length
  all : ∀ (i : Nat) (x : Rl), i < k.toNat → l[i]? = some x → smallR x
theorem LightAt.next {l : List Rl} {k : Int} (h : LightAt l k) {x : Rl} (hx : l[k.toNat]? = some x) (hs : smallR x) {k' : Int} (hk : k' = k + 1) : LightAt l k' := by
  have h0 := h.lo
  have hlt := (List.getElem?_eq_some_iff.1 hx).1
  refine ⟨by omega, by omega, fun i y hi hy => ?_⟩
  by_cases e : i < k.toNat
  · exact h.all i y e hy
  · have : i = k.toNat := by omega
    subst this
    rw [hx] at hy
    cases hy
    exact hs
theorem dec_no {c : Bool} {p : Prop} (hc : c = true ↔ p) (h : ¬ p) : false = c := by
  cases c with
  | false => rfl
  | true => exact absurd (hc.1 rfl) h
set_option maxRecDepth 100000 in
set_option maxHeartbeats 4000000 in
theorem lightR_ac {G : World → Prop} (hst : Stable G) (l : List Rl) (X : List (List PV)) (hX : l.map encR = X) (hl : l.length ≤ 9223372036854775807) (c : Bool) (hc : c = true ↔ LightR l) :
    ACalls G Tryz.prog 16 [.sl X, .lit (.int .i64 40)] (.lit (.bool c)) none := by
  have hXl : X.length = l.length := by rw [← hX]; simp
  refine acalls_fn hst mixed tau_ok Tryz.func16 (by kernel_rfl) (by kernel_rfl) (by kernel_rfl) ?_
  intro Q hQ
  cbv
  refine Or.inr ⟨[0, 1], [], Int, fun k => [(.t 5, ⟨.pv (.lit (.int .i64 k)), none, none⟩)], LightAt l, fun k => X.length - k.toNat, 0, (show LightAt l 0 from ⟨by omega, by omega, by simp⟩), ?_, ?_⟩
  · cbv
    simp
  · intro k hk
    have hk : LightAt l k := hk
    cbv
    intro m1 h1
    cbv
    intro b1 h2
    cbv
    cases b1
    · cbv
      intro m2 h3
      cbv
      intro b2 h4
      cbv
      refine litB ?_
      have e1 := h1.len
      have e2 := h2.no
      have e3 := h3.len
      have e4 := hk.all
      have e5 := hk.hi
      have e6 := is_b.1 h4
      cases b2
      · refine dec_no hc (fun q => ?_)
        have := e6.2 (by have := q.len; omega)
        cases this
      · exact (hc.2 ⟨by have := e6.1 rfl; omega, fun i x hx => e4 i x (by have := (List.getElem?_eq_some_iff.1 hx).1; omega) hx⟩).symm
    · cbv
      refine ⟨h1.atL hk.lo h2.yes, ?_⟩
      intro r hr
      obtain ⟨x, hx, rfl⟩ := hr.row hX
      obtain ⟨x1, x2, x3, x4, x5⟩ := x
      cbv
      intro s1 g1
      cbv
      intro c1 j1
      cbv
      have bad : (¬ smallR ⟨x1, x2, x3, x4, x5⟩) → false = c := fun h => dec_no hc (fun q => h (q.all _ _ hx))
      cases c1
      rotate_left
      · cbv
        refine litB (bad (fun q => ?_))
        have e1 := g1.len
        have e2 := j1.yes
        have e3 := q.1
        simp only at e3
        omega
      cbv
      refine ⟨⟨hk.lo, by have e1 := h1.len; have e2 := h2.yes; have := hk.lo; omega⟩, ?_⟩
      intro r hr
      obtain ⟨y, hy, rfl⟩ := hr.row hX
      obtain rfl : y = ⟨x1, x2, x3, x4, x5⟩ := by rw [hx] at hy; cases hy; rfl
      cbv
      intro s2 g2
      cbv
      intro c2 j2
      cbv
      cases c2
      rotate_left
      · cbv
        refine litB (bad (fun q => ?_))
        have e1 := g2.len
        have e2 := j2.yes
        have e3 := q.2.1
        simp only at e3
        omega
      cbv
      refine ⟨⟨hk.lo, by have e1 := h1.len; have e2 := h2.yes; have := hk.lo; omega⟩, ?_⟩
      intro r hr
      obtain ⟨y, hy, rfl⟩ := hr.row hX
      obtain rfl : y = ⟨x1, x2, x3, x4, x5⟩ := by rw [hx] at hy; cases hy; rfl
      cbv
      intro s3 g3
      cbv
      intro c3 j3
      cbv
      cases c3
      rotate_left
      · cbv
        refine litB (bad (fun q => ?_))
        have e1 := g3.len
        have e2 := j3.yes
        have e3 := q.2.2.1
        simp only at e3
        omega
      cbv
      refine ⟨⟨hk.lo, by have e1 := h1.len; have e2 := h2.yes; have := hk.lo; omega⟩, ?_⟩
      intro r hr
      obtain ⟨y, hy, rfl⟩ := hr.row hX
      obtain rfl : y = ⟨x1, x2, x3, x4, x5⟩ := by rw [hx] at hy; cases hy; rfl
      cbv
      intro s4 g4
      cbv
      intro c4 j4
      cbv
      cases c4
      rotate_left
      · cbv
        refine litB (bad (fun q => ?_))
        have e1 := g4.len
        have e2 := j4.yes
        have e3 := q.2.2.2
        simp only at e3
        omega
      cbv
      intro k' hk'
      cbv
      have e1 := h1.len
      have e2 := h2.yes
      have e4 := hk'.i64 (by have := hk.lo; omega) (by omega)
      refine ⟨k', ?_, ?_, ?_⟩
      · refine hk.next hx ⟨?_, ?_, ?_, ?_⟩ e4
        · have := g1.len; have := j1.no; simp only; omega
        · have := g2.len; have := j2.no; simp only; omega
        · have := g3.len; have := j3.no; simp only; omega
        · have := g4.len; have := j4.no; simp only; omega
      · show X.length - k'.toNat < X.length - k.toNat
        have := hk.lo
        omega
      · cbv
        simp
/-- A number from 0 on, below another. -/
def pickI (n m : Int) : Int := if m < 1 then 0 else if n.tmod m < 0 then n.tmod m + m else n.tmod m
theorem pickI_lt {n m : Int} (hm : 1 ≤ m) : 0 ≤ pickI n m ∧ pickI n m < m := by
  unfold pickI
  have h1 := Int.tmod_lt_of_pos n (show 0 < m by omega)
  have h2 : -m < n.tmod m := by
    have := Int.neg_tmod n m
    have h3 := Int.tmod_lt_of_pos (-n) (show 0 < m by omega)
    omega
  rw [if_neg (by omega)]
  split <;> omega
set_option maxRecDepth 100000 in
set_option maxHeartbeats 4000000 in
theorem pick_ac {G : World → Prop} (hst : Stable G) (n m r : Int) (hm : m ≤ 4611686018427387904) (hr : Is r (fun _ => pickI n m)) :
    ACalls G Tryz.prog 13 [.lit (.int .i64 n), .lit (.int .i64 m)] (.lit (.int .i64 r)) none := by
  refine acalls_fn hst mixed tau_ok Tryz.func13 (by kernel_rfl) (by kernel_rfl) (by kernel_rfl) ?_
  intro Q hQ
  cbv
  intro b1 h1
  cbv
  cases b1
  · cbv
    refine ⟨⟨by have := h1.no; omega⟩, ?_⟩
    intro q hq
    cbv
    intro b2 h2
    cbv
    have e1 := h1.no
    have e2 := hq.out
    cases b2
    · cbv
      refine litI ?_
      have e3 := h2.no
      rw [hr.out]
      unfold pickI
      rw [if_neg e1, ← e2, if_neg e3]
    · cbv
      intro r2 h3
      cbv
      refine litI ?_
      have e3 := h2.yes
      rw [hr.out]
      have h4 : -m < n.tmod m := by
        have := Int.neg_tmod n m
        have h5 := Int.tmod_lt_of_pos (-n) (show 0 < m by omega)
        omega
      have e4 := h3.add (by omega) (by omega)
      unfold pickI
      rw [if_neg e1, ← e2, if_pos e3]
      exact e4
  · cbv
    refine litI ?_
    rw [hr.out]
    unfold pickI
    rw [if_pos h1.yes]
end Go.Proofs.YtbjfmkmaghapgaaGreatDoor.B

set_option linter.unusedVariables false
set_option linter.unusedSimpArgs false
namespace Go.Proofs.YtbjfmkmaghapgaaGreatDoor.B
open Go.RowKit
def textJ (s : ByteArray) : J := .mk 4 0 s [] []
/-- The body that is made of a rule. -/
def bodyJ (r : RB) : J := if r.reason = ⟨#[]⟩ then .mk 6 0 ⟨#[]⟩ [bEntity, bRecommendation] [textJ r.entity, textJ r.recommendation]
  else .mk 6 0 ⟨#[]⟩ [bEntity, bReason, bRecommendation] [textJ r.entity, textJ r.reason, textJ r.recommendation]
/-- The contract of outlawref06.RuleBody. -/
structure RuleBodyC (G : World → Prop) : Prop where
  yes : ∀ (r : RB) (k n : Int) (t : ByteArray) (KX IX : List (List PV)), ruledB r = true → JRow (bodyJ r) k n t KX IX → ACalls G Tryz.prog 15 [.agg (encRB r)] (.tup [jp k n t KX IX, .lit (.bool true)]) none
  no : ∀ (r : RB), ruledB r = false → ACalls G Tryz.prog 15 [.agg (encRB r)] (.tup [jp 0 0 ⟨#[]⟩ [] [], .lit (.bool false)]) none
/-- What the walks rest on. -/
structure Base (G : World → Prop) : Prop where
  st : Stable G
  valid : ValidC G
  check : CheckC G
  sort : SortC G
  sort0 : SortNilC G
  body : RuleBodyC G
def sSpam : ByteArray := ⟨#[115, 112, 97, 109]⟩
def sA : ByteArray := ⟨#[64, 97, 42, 58, 98]⟩
def sC : ByteArray := ⟨#[64, 99, 58, 100]⟩
def sK : ByteArray := ⟨#[107]⟩
def sRoom : ByteArray := ⟨#[33, 112, 58, 120]⟩
def sAB : ByteArray := ⟨#[64, 97, 58, 98]⟩
def sWarn : ByteArray := ⟨#[109, 46, 119, 97, 114, 110]⟩
def bodyA : J := bodyJ ⟨sA, wMban, sSpam⟩
def bodyC : J := bodyJ ⟨sC, wMban, sSpam⟩
def entA : En := ⟨bT10, sK, ⟨#[]⟩, ⟨#[]⟩, bodyA⟩
def entC : En := ⟨bT11, sK, ⟨#[]⟩, ⟨#[]⟩, bodyC⟩
def want : Rl := ⟨1, sA, sSpam, sRoom, sK⟩
theorem rulesOf_1 : rulesOf [entA] sRoom = [want] := by kernel_rfl
theorem rulesOf_2 : rulesOf [entA, entC] sRoom = [want] := by kernel_rfl
theorem sortU_1 (r : Rl) : sortU [r] = [r] := sortU_self (List.pairwise_singleton _ _)
theorem extract_1 : extractR [entA] sRoom = [want] := by unfold extractR; rw [rulesOf_1, sortU_1]
theorem extract_2 : extractR [entA, entC] sRoom = [want] := by unfold extractR; rw [rulesOf_2, sortU_1]
theorem ruled_A : ruledB ⟨sA, wMban, sSpam⟩ = true := by kernel_rfl
theorem ruled_C : ruledB ⟨sC, wMban, sSpam⟩ = true := by kernel_rfl
set_option maxRecDepth 100000 in
set_option maxHeartbeats 4000000 in
theorem body_ac {G : World → Prop} (hB : Base G) (e r : ByteArray) (k n : Int) (t : ByteArray) (KX IX : List (List PV)) (hr : ruledB ⟨e, r, sSpam⟩ = true) (hJ : JRow (bodyJ ⟨e, r, sSpam⟩) k n t KX IX) :
    ACalls G Tryz.prog 50 [.lit (.string e), .lit (.string r)] (jp k n t KX IX) none := by
  refine acalls_fn hB.st mixed tau_ok Tryz.func50 (by kernel_rfl) (by kernel_rfl) (by kernel_rfl) ?_
  intro Q hQ
  cbv
  refine Or.inl ⟨_, _, hQ _ _ _ _ (hB.body.yes ⟨e, r, sSpam⟩ k n t KX IX hr hJ), ?_⟩
  cbv
  try exact ⟨rfl, trivial⟩
set_option maxRecDepth 100000 in
set_option maxHeartbeats 4000000 in
theorem two_ac {G : World → Prop} (hB : Base G) (X : List (List PV)) (hX : Is X (fun _ => [entA, entC].map encEn)) :
    ACalls G Tryz.prog 31 [] (.sl X) none := by
  refine acalls_fn hB.st mixed tau_ok Tryz.func31 (by kernel_rfl) (by kernel_rfl) (by kernel_rfl) ?_
  intro Q hQ
  cbv
  obtain ⟨k, n, t, KX, IX, hJ, he⟩ := JRow.of bodyA
  refine Or.inl ⟨_, _, hQ _ _ _ _ (body_ac hB sA wMban k n t KX IX ruled_A hJ), ?_⟩
  cbv
  obtain ⟨k', n', t', KX', IX', hJ', he'⟩ := JRow.of bodyC
  refine Or.inl ⟨_, _, hQ _ _ _ _ (body_ac hB sC wMban k' n' t' KX' IX' ruled_C hJ'), ?_⟩
  cbv
  have e : X = [[.lit (.string bT10), .lit (.string sK), .lit (.string ⟨#[]⟩), .lit (.string ⟨#[]⟩), .lit (.int .i64 k), .lit (.int .i64 n), .lit (.string t), .sl KX, .sl IX],
      [.lit (.string bT11), .lit (.string sK), .lit (.string ⟨#[]⟩), .lit (.string ⟨#[]⟩), .lit (.int .i64 k'), .lit (.int .i64 n'), .lit (.string t'), .sl KX', .sl IX']] := by
    rw [hX.out]
    show [encEn entA, encEn entC] = _
    unfold encEn
    show [_ ++ encJ bodyA, _ ++ encJ bodyC] = _
    rw [he, he']
    rfl
  subst e
  try exact ⟨rfl, trivial⟩
set_option maxRecDepth 100000 in
set_option maxHeartbeats 4000000 in
theorem lives_ac {G : World → Prop} (hB : Base G) : ACalls G Tryz.prog 6 [] (.lit (.bool true)) none := by
  refine acalls_fn hB.st mixed tau_ok Tryz.func6 (by kernel_rfl) (by kernel_rfl) (by kernel_rfl) ?_
  intro Q hQ
  cbv
  obtain ⟨X, hX⟩ : ∃ X, Is X (fun _ => [entA, entC].map encEn) := ⟨_, ⟨rfl⟩⟩
  refine Or.inl ⟨_, _, hQ _ _ _ _ (two_ac hB X hX), ?_⟩
  cbv
  have hXl : X.length = 2 := by rw [hX.out]; rfl
  have hX9 : ∀ r, r ∈ X → r.length = 9 := by rw [hX.out]; exact lenEn _
  have hq : 0 ≤ (1 : Int) ∧ (1 : Int) ≤ (X.length : Int) ∧ ∀ r, r ∈ X → r.length = 9 := ⟨by omega, by omega, hX9⟩
  refine ⟨⟨hq⟩, ?_⟩
  intro Y hY
  have hY1 : [entA].map encEn = Y := by rw [hY.out, hX.out]; rfl
  cbv
  have hs1 : ∀ (x : En), x ∈ [entA] → x.body.size ≤ 1000000 ∧ okB x.body = true := by
    intro x hx
    obtain rfl : x = entA := by simpa using hx
    exact ⟨of_decide_eq_true (by kernel_rfl), by kernel_rfl⟩
  obtain ⟨W, hW⟩ : ∃ W, Is W (fun _ => [want].map encR) := ⟨_, ⟨rfl⟩⟩
  refine Or.inl ⟨_, _, hQ _ _ _ _ (extract_ac hB.st hB.valid hB.check hB.sort hB.sort0 [entA] Y hY1 (by simp) hs1 ⟨#[]⟩ ⟨#[]⟩ ⟨#[]⟩ [] [] [] 0 0 0 0 0 0 0 sRoom W ⟨by rw [hW.out, extract_1]⟩), ?_⟩
  cbv
  obtain ⟨X2, hX2⟩ : ∃ X, Is X (fun _ => [entA, entC].map encEn) := ⟨_, ⟨rfl⟩⟩
  refine Or.inl ⟨_, _, hQ _ _ _ _ (two_ac hB X2 hX2), ?_⟩
  cbv
  have hs2 : ∀ (x : En), x ∈ [entA, entC] → x.body.size ≤ 1000000 ∧ okB x.body = true := by
    intro x hx
    have hx' : x = entA ∨ x = entC := by simpa using hx
    rcases hx' with rfl | rfl
    · exact ⟨of_decide_eq_true (by kernel_rfl), by kernel_rfl⟩
    · exact ⟨of_decide_eq_true (by kernel_rfl), by kernel_rfl⟩
  refine Or.inl ⟨_, _, hQ _ _ _ _ (extract_ac hB.st hB.valid hB.check hB.sort hB.sort0 [entA, entC] X2 hX2.out.symm (by simp) hs2 ⟨#[]⟩ ⟨#[]⟩ ⟨#[]⟩ [] [] [] 0 0 0 0 0 0 0 sRoom W ⟨by rw [hW.out, extract_2]⟩), ?_⟩
  cbv
  have hw : [want].map encR = [encR want] := rfl
  refine Or.inl ⟨_, _, hQ _ _ _ _ (sameR_ac hB.st [want] [want] W [encR want] hW.out.symm rfl (by simp) true ⟨by simp⟩), ?_⟩
  cbv
  refine Or.inl ⟨_, _, hQ _ _ _ _ (sameR_ac hB.st [want] [want] W [encR want] hW.out.symm rfl (by simp) true ⟨by simp⟩), ?_⟩
  cbv
  done
end Go.Proofs.YtbjfmkmaghapgaaGreatDoor.B
