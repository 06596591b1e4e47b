/-
slices.Compact of texts, walked. Condition: none.
The contracts of the standard library's functions that the program calls, applied at this program (laid by the kit's tool). Condition: none.
slices.Sort of texts, by its contract, as a contract on pure values. Condition: the count of draws is not asked for.
-/
import Derived.Test.YtbjfmkmaghapgaaGreatDoorBSl
import Derived.Shelf.SortM.Plain
import Derived.Shelf.SortM.SortNone
import Derived.Ground.SlgmProg
import Derived.Ground.NamesProg
import Derived.Test.YtbjfmkmaghapgaaGreatDoorProg
import Derived.Test.YtbjfmkmaghapgaaGreatDoorBFun3
set_option linter.unusedVariables false
set_option linter.unusedSimpArgs false
namespace Go.Proofs.YtbjfmkmaghapgaaGreatDoor.B
open Go.RowKit
/-- No two neighbours alike, so far. -/
structure NoTwoZ (l : List ByteArray) (k : Int) : Prop where
  lo : 1 ≤ k
  hi : k ≤ l.length
  all : ∀ (i : Nat) x y, (i : Int) + 1 < k → l[i]? = some x → l[i + 1]? = some y → x ≠ y
/-- What the inner loop has done. -/
structure CmpZ (l : List ByteArray) (k0 : Int) (k2 k : Int) (Y : List (List PV)) : Prop where
  lo : 1 ≤ k2
  hi : k0 + k2 ≤ l.length
  q0 : 1 ≤ k0
  kk : k = (dedupA (l.take (k0 + k2).toNat)).length
  kl : k ≤ k0 + k2 - 1
  y : Y = (dedupA (l.take (k0 + k2).toNat)).map encS ++ (l.map encS).drop k.toNat
structure CFZ (l : List ByteArray) (k : Int) (n r1 r2 q1 q2 : Nat) : Prop where
  out : k = (r1 : Int) ∧ r2 + 1 = r1 ∧ r1 < n ∧ q1 = r1 ∧ q2 = n - r1 ∧ n = l.length ∧ n ≤ 1000000
structure CCZ (k2 : Int) (q2 : Nat) : Prop where
  out : k2 < q2 ∧ 1 ≤ k2
structure CEZ (kc : Int) (m n : Nat) : Prop where
  out : kc = m ∧ m ≤ n
theorem natAt'_z {r : Nat} {X : List (List PV)} (h : r < X.length) : Req (fun _ => 0 ≤ (r : Int) ∧ (r : Int).toNat < X.length) := ⟨by omega, by omega⟩
theorem CEZ.le2 {kc : Int} {m n : Nat} (h : CEZ kc m n) : kc ≤ (n : Int) := by have := h.out; omega
theorem CCZ.lt1 {k2 : Int} {q2 : Nat} (h : CCZ k2 q2) : k2 < (q2 : Int) := h.out.1
section
variable {l : List ByteArray} {n r1 r2 q1 q2 : Nat} {k k2 kc : Int} {Yc X : List (List PV)}
theorem ltC_z {k3 : Int} (h : CCZ k2 q2) (h3 : Is k3 (fun _ => IntKind.i64.wrap (k2 - 1))) (F : CFZ l k n r1 r2 q1 q2) : k3 < (q2 : Int) := by
  have := h.out
  have := F.out
  have := h3.sub1 (by omega) (by omega)
  omega
theorem cmp_start_z (hk : NoTwoZ l k) (F : CFZ l k n r1 r2 q1 q2) {x y : ByteArray} (hx : l[r1]? = some x) (hy : l[r2]? = some y) (hX : l.map encS = X) (e : x = y) : CmpZ l k 1 k X := by
  have f := F.out
  have e1 : (k + 1).toNat = r1 + 1 := by omega
  have e2 : dedupA (l.take (r1 + 1)) = l.take r1 := by
    rw [dedupA_take hx (by omega) (show l[r1 - 1]? = some y by rw [show r1 - 1 = r2 by omega]; exact hy), if_pos e.symm]
    exact dedupA_id l r1 (by omega) (fun i a b hi => hk.all i a b (by omega))
  refine ⟨by omega, by omega, hk.lo, ?_, by omega, ?_⟩
  · rw [e1, e2, List.length_take]
    omega
  · rw [e1, e2, ← hX, show k.toNat = r1 by omega, List.map_take, List.take_append_drop]
theorem cmp_len_z (hc : CmpZ l k k2 kc Yc) (F : CFZ l k n r1 r2 q1 q2) : Yc.length = n := by
  have f := F.out
  have h1 := hc.kk
  have h2 := hc.kl
  have h3 := hc.hi
  rw [hc.y, List.length_append, List.length_map, List.length_drop, List.length_map]
  omega
theorem cmp_row_z (hc : CmpZ l k k2 kc Yc) {r : List PV} {j : Nat} (hj : kc ≤ j) (hr : Is (some r) (fun _ => Yc[((j : Nat) : Int).toNat]?)) : ∃ x, l[j]? = some x ∧ r = encS x := by
  have h1 := hc.kk
  have h := hr.out
  rw [Int.toNat_natCast, hc.y, List.getElem?_append_right (by rw [List.length_map]; omega), List.length_map, List.getElem?_drop, show kc.toNat + (j - (dedupA (l.take (k + k2).toNat)).length) = j by omega, List.getElem?_map] at h
  cases hq : l[j]? with
  | none => rw [hq] at h; cases h
  | some x => rw [hq] at h; exact ⟨x, rfl, by simpa using h⟩
theorem cmp_end'_z (F : CFZ l k n r1 r2 q1 q2) (hc : CmpZ l k k2 kc Yc) {m5 : Int} (h6 : Is m5 (fun _ => (q2 : Int))) (h7 : Is false (fun _ => decide (k2 < m5))) : dedupA (l.take (k + k2).toNat) = dedupA l := by
  have f := F.out
  have h := h7.no
  have h' := h6.len
  rw [List.take_of_length_le (by omega)]
theorem cmp_end_z (F : CFZ l k n r1 r2 q1 q2) (hc : CmpZ l k k2 kc Yc) {m5 : Int} (h6 : Is m5 (fun _ => (q2 : Int))) (h7 : Is false (fun _ => decide (k2 < m5))) {m : Nat} (hm : Is m (fun _ => (dedupA l).length)) : kc = m ∧ m ≤ n := by
  have f := F.out
  have h1 := hc.kk
  rw [cmp_end'_z F hc h6 h7] at h1
  have := hm.out
  have := dedupA_len l
  omega
theorem cmp_fin_z (F : CFZ l k n r1 r2 q1 q2) (hc : CmpZ l k k2 kc Yc) {m : Nat} (E : kc = m ∧ m ≤ n) (hm : Is m (fun _ => (dedupA l).length)) {a1 a2 : Nat} (ha1 : Is a1 (fun _ => 0 + kc.toNat)) (ha2 : Is a2 (fun _ => n - kc.toNat)) (hd : dedupA (l.take (k + k2).toNat) = dedupA l) {Z : List PV} :
    Yc.take a1 ++ (List.replicate a2 Z ++ Yc.drop (a1 + a2)) = (dedupA l).map encS ++ List.replicate (n - m) Z := by
  have f := F.out
  have e1 : a1 = m := by have := ha1.out; omega
  have e2 : a2 = n - m := by have := ha2.out; omega
  have e3 : Yc.drop (a1 + a2) = [] := List.drop_eq_nil_of_le (by rw [cmp_len_z hc F]; omega)
  have e4 : Yc.take a1 = (dedupA l).map encS := by
    rw [hc.y, hd, List.take_append_of_le_length (by rw [List.length_map, e1, hm.out]; exact Nat.le_refl _), List.take_of_length_le (by rw [List.length_map, e1, hm.out]; exact Nat.le_refl _)]
  rw [e3, e4, e2, List.append_nil]
theorem cmp_eq_z (hc : CmpZ l k k2 kc Yc) (F : CFZ l k n r1 r2 q1 q2) (C : CCZ k2 q2) {r3 r4 : Nat} {k3 : Int} (hr3 : Is r3 (fun _ => q1 + k2.toNat)) (hr4 : Is r4 (fun _ => q1 + k3.toNat)) (hk3 : Is k3 (fun _ => IntKind.i64.wrap (k2 - 1)))
    {x3 x4 : ByteArray} (hx3 : l[r3]? = some x3) (hx4 : l[r4]? = some x4) (e : ¬ x3 ≠ x4) {k4 : Int} (e4 : k4 = k2 + 1) : CmpZ l k k4 kc Yc := by
  have f := F.out
  have c := C.out
  have z1 := hr3.out
  have z2 := hr4.out
  have z3 := hk3.sub1 (by omega) (by omega)
  have z4 := hc.q0
  have hl3 := (List.getElem?_eq_some_iff.1 hx3).1
  have g : dedupA (l.take (k + k4).toNat) = dedupA (l.take (k + k2).toNat) := by
    rw [show (k + k4).toNat = r3 + 1 by omega, show (k + k2).toNat = r3 by omega, dedupA_take hx3 (by omega) (show l[r3 - 1]? = some x4 by rw [show r3 - 1 = r4 by omega]; exact hx4), if_pos (Decidable.not_not.1 e).symm]
  have := hc.kl
  exact ⟨by omega, by omega, z4, by rw [g]; exact hc.kk, by omega, by rw [g]; exact hc.y⟩
theorem ltK_z (hc : CmpZ l k k2 kc Yc) (F : CFZ l k n r1 r2 q1 q2) (C : CCZ k2 q2) : kc < (n : Int) := by
  have := hc.kl
  have := C.out
  have := F.out
  omega
theorem cmp_ne_z (hc : CmpZ l k k2 kc Yc) (F : CFZ l k n r1 r2 q1 q2) (C : CCZ k2 q2) {r3 r4 : Nat} {k3 : Int} (hr3 : Is r3 (fun _ => q1 + k2.toNat)) (hr4 : Is r4 (fun _ => q1 + k3.toNat)) (hk3 : Is k3 (fun _ => IntKind.i64.wrap (k2 - 1)))
    {x3 x4 : ByteArray} (hx3 : l[r3]? = some x3) (hx4 : l[r4]? = some x4) (e : x3 ≠ x4) {k4 k5 : Int} (e4 : k4 = k2 + 1) (e5 : k5 = kc + 1) {Y' : List (List PV)} (hY : Y' = Yc.set kc.toNat (encS x3)) : CmpZ l k k4 k5 Y' := by
  have f := F.out
  have c := C.out
  have z1 := hr3.out
  have z2 := hr4.out
  have z3 := hk3.sub1 (by omega) (by omega)
  have z4 := hc.q0
  have z5 := hc.kk
  have z6 := hc.kl
  have hl3 := (List.getElem?_eq_some_iff.1 hx3).1
  have g : dedupA (l.take (k + k4).toNat) = dedupA (l.take (k + k2).toNat) ++ [x3] := by
    rw [show (k + k4).toNat = r3 + 1 by omega, show (k + k2).toNat = r3 by omega, dedupA_take hx3 (by omega) (show l[r3 - 1]? = some x4 by rw [show r3 - 1 = r4 by omega]; exact hx4), if_neg (fun q => e q.symm)]
  refine ⟨by omega, by omega, z4, by rw [g, List.length_append]; simp; omega, by omega, ?_⟩
  rw [g, hY, hc.y, List.set_append, if_neg (by rw [List.length_map]; omega), List.length_map, show kc.toNat - (dedupA (l.take (k + k2).toNat)).length = 0 by omega, show k5.toNat = kc.toNat + 1 by omega]
  have hlt : kc.toNat < (l.map encS).length := by rw [List.length_map]; omega
  rw [List.drop_eq_getElem_cons hlt]
  simp
end
set_option maxRecDepth 100000 in
set_option maxHeartbeats 2000000 in
theorem compactStr_hc {G : World → Prop} (l : List ByteArray) (X : List (List PV)) (hX : l.map encS = X) (hl : l.length ≤ 1000000) (n : Nat) (hn : Is n (fun _ => X.length)) (m : Nat) (hm : Is m (fun _ => (dedupA l).length)) (Y : List (List PV)) (hY : Is Y (fun _ => (dedupA l).map encS ++ List.replicate (n - m) (encS ⟨#[]⟩))) :
    HCalls G Tryz.prog 90 [.slp 30000 1 0 n] [(30000, [.rows 1 X])] (.slp 30000 1 0 m) none [(30000, [.rows 1 Y])] := by
  have hXl : X.length = l.length := by rw [← hX]; simp
  have hnl : n = l.length := by rw [hn.out, hXl]
  have same : ∀ (x : dedupA l = l), m = n ∧ Y = X := fun e => by
    have h1 : m = n := by rw [hm.out, e, hnl]
    refine ⟨h1, ?_⟩
    rw [hY.out, h1, e]
    simpa using hX
  refine hcalls_fn mixed tau_ok Tryz.func90 (by kernel_rfl) (by kernel_rfl) (by kernel_rfl) (by kernel_rfl) ?_
  intro Q hQ hH
  cbv
  intro m1 h1
  cbv
  intro b1 h2
  cbv
  cases b1
  · cbv
    refine Or.inr ⟨[0], [30000], Int, fun k => [(.t 3, ⟨.pv (.lit (.int .i64 k)), none, none⟩)], NoTwoZ l, fun k => n - k.toNat, 1, ⟨by omega, ?_, fun i x y h => by omega⟩, ?_, ?_⟩
    · have := h2.no
      have := h1.len
      omega
    · cbv
      simp
    · intro k hk
      cbv
      intro m3 h3
      cbv
      intro b2 h4
      cbv
      cases b2
      · cbv
        have hd : dedupA l = l := by
          have h := h4.no
          have h' := h3.len
          have := hk.hi
          have e := dedupA_id l l.length (Nat.le_refl _) (fun i x y hi => hk.all i x y (by omega))
          rwa [List.take_length] at e
        obtain ⟨rfl, rfl⟩ := same hd
        exact ⟨Le.refl _, ⟨Le.refl _, trivial⟩, trivial⟩
      · cbv
        refine ⟨ltAt h3 (by have := hk.lo; omega) h4.yes, ?_⟩
        intro r1 hr1
        cbv
        refine ⟨natAt hr1 (by rw [hXl, ← hnl]; have := h4.yes; have := h3.len; have := hk.lo; omega), ?_⟩
        intro r hr
        obtain ⟨x, hx, rfl⟩ := hr.rowN hX
        cbv
        intro k1 hk1
        cbv
        refine ⟨ltAt' h3 (by have := hk.lo; omega) h4.yes hk1 (by omega), ?_⟩
        intro r2 hr2
        cbv
        refine ⟨natAt hr2 (by rw [hXl, ← hnl]; have := hk1.sub1 (by have := hk.lo; omega) (by have := h4.yes; have := h3.len; omega); have := h4.yes; have := h3.len; have := hk.lo; omega), ?_⟩
        intro r' hr'
        obtain ⟨y, hy, rfl⟩ := hr'.rowN hX
        cbv
        intro b3 h5
        have h5 : Is b3 (fun _ => decide (x = y)) := ⟨h5.out⟩
        cbv
        cases b3
        · cbv
          intro k' hk'
          cbv
          have hkk := hk.lo
          have e1 := h3.len
          have e2 := h4.yes
          have e3 := hk1.sub1 hkk (by omega)
          have e4 := hr1.out
          have e5 := hr2.out
          refine ⟨k', ?_, ?_, ?_⟩
          · obtain rfl := hk'.add1 (by omega) (by omega)
            refine ⟨by omega, by omega, fun i a b hi ha hb => ?_⟩
            by_cases e : (i : Int) + 1 < k
            · exact hk.all i a b e ha hb
            · have i1 : i = r2 := by omega
              have i2 : i + 1 = r1 := by omega
              rw [i2, hx] at hb
              rw [i1, hy] at ha
              cases ha
              cases hb
              exact fun q => h5.no q.symm
          · obtain rfl := hk'.add1 (by omega) (by omega)
            show n - (k + 1).toNat < n - k.toNat
            omega
          · cbv
            simp
        · cbv
          refine ⟨leAt h3 (by have := hk.lo; omega) h4.yes, ?_⟩
          intro q1 hq1
          cbv
          intro q2 hq2
          have F : CFZ l k n r1 r2 q1 q2 := ⟨by
            have hkk := hk.lo
            have e1 := h3.len
            have e2 := h4.yes
            have e3 := hk1.sub1 hkk (by omega)
            have e4 := hr1.out
            have e5 := hr2.out
            have e6 := hq1.out
            have e7 := hq2.out
            omega⟩
          cbv
          refine Or.inr ⟨[0, 4], [30000], Int × Int × List (List PV), fun p => [(.t 5, ⟨.pv (.lit (.int .i64 p.1)), none, none⟩), (.t 3, ⟨.pv (.lit (.int .i64 p.2.1)), none, none⟩), (.b 30000 0, ⟨.rows 1 p.2.2, none, none⟩)], fun p => CmpZ l k p.1 p.2.1 p.2.2, fun p => n - p.1.toNat, (1, k, X), ?_, ?_, ?_⟩
          · exact cmp_start_z hk F hx hy hX h5.yes
          · cbv
            simp
          · intro ⟨k2, kc, Yc⟩ hc
            have hc : CmpZ l k k2 kc Yc := hc
            cbv
            intro m5 h6
            cbv
            intro b4 h7
            cbv
            cases b4
            · cbv
              have E : CEZ kc m n := ⟨cmp_end_z F hc h6 h7 hm⟩
              refine ⟨⟨by have := E.out; omega, E.le2⟩, ?_⟩
              intro a1 ha1
              cbv
              intro a2 ha2
              cbv
              refine ⟨⟨by have := E.out; have := ha1.out; have := ha2.out; have := cmp_len_z hc F; omega⟩, ?_⟩
              intro ys hys
              cbv
              refine ⟨⟨by have := E.out; omega, E.le2⟩, ?_⟩
              intro a3 ha3
              cbv
              have e3 : a3 = m := by have := E.out; have := ha3.out; omega
              have e4 : ys = Y := by
                have := E.out
                rw [hys.out, hY.out]
                exact cmp_fin_z F hc E.out hm ha1 ha2 (cmp_end'_z F hc h6 h7)
              subst e3
              subst e4
              exact ⟨Le.refl _, ⟨Le.refl _, trivial⟩, trivial⟩
            · cbv
              have C : CCZ k2 q2 := ⟨⟨by have := h7.yes; have := h6.len; omega, hc.lo⟩⟩
              refine ⟨⟨by have := C.out; omega, C.lt1⟩, ?_⟩
              intro r3 hr3
              cbv
              refine ⟨natAt'_z (by have := C.out; have := F.out; have := hr3.out; have := cmp_len_z hc F; omega), ?_⟩
              intro r hr3'
              obtain ⟨x3, hx3, rfl⟩ := cmp_row_z hc (by have := hc.kl; have := C.out; have := F.out; have := hr3.out; omega) hr3'
              cbv
              intro k3 hk3
              cbv
              refine ⟨⟨by have := C.out; have := F.out; have := hk3.sub1 (by omega) (by omega); omega, ltC_z C hk3 F⟩, ?_⟩
              intro r4 hr4
              cbv
              refine ⟨natAt'_z (by have := C.out; have := F.out; have := hr4.out; have := hk3.sub1 (by omega) (by omega); have := cmp_len_z hc F; omega), ?_⟩
              intro r hr4'
              obtain ⟨x4, hx4, rfl⟩ := cmp_row_z hc (by have := hc.kl; have := C.out; have := F.out; have := hr4.out; have := hk3.sub1 (by omega) (by omega); omega) hr4'
              cbv
              intro b5 h8
              have h8 : Is b5 (fun _ => decide (x3 ≠ x4)) := ⟨h8.out⟩
              cbv
              cases b5
              · cbv
                intro k4 hk4
                cbv
                have c := C.out
                have f := F.out
                have e4 := hk4.add1 (by omega) (by omega)
                refine ⟨(k4, kc, Yc), ?_, ?_, ?_⟩
                · exact cmp_eq_z hc F C hr3 hr4 hk3 hx3 hx4 h8.no e4
                · show n - k4.toNat < n - k2.toNat
                  have := hc.hi
                  omega
                · cbv
                  simp
              · cbv
                refine ⟨⟨by have := C.out; omega, C.lt1⟩, ?_⟩
                intro r5 hr5
                cbv
                refine ⟨natAt'_z (by have := C.out; have := F.out; have := hr5.out; have := cmp_len_z hc F; omega), ?_⟩
                intro r hr5'
                obtain ⟨x5, hx5, rfl⟩ := cmp_row_z hc (by have := hc.kl; have := C.out; have := F.out; have := hr5.out; omega) hr5'
                have e5 : x5 = x3 := by
                  have := hr5.out.trans hr3.out.symm
                  rw [this, hx3] at hx5
                  cases hx5
                  rfl
                cbv
                refine ⟨⟨by have := hc.kk; omega, ltK_z hc F C⟩, ?_⟩
                intro r6 hr6
                cbv
                refine ⟨natAt'_z (by have := hc.kk; have := hc.kl; have := C.out; have := F.out; have := hr6.out; have := cmp_len_z hc F; omega), ?_⟩
                intro r hr6'
                obtain ⟨x6, hx6, rfl⟩ := cmp_row_z hc (by have := hc.kk; have := hr6.out; omega) hr6'
                cbv
                intro ys hys
                have hys : Is ys (fun _ => Yc.set r6 (encS x5)) := hys
                cbv
                intro k5 hk5
                cbv
                intro k6 hk6
                cbv
                have c := C.out
                have f := F.out
                have e4 := hk6.add1 (by omega) (by omega)
                have e6 := hk5.add1 (by have := hc.kk; omega) (by have := hc.kl; omega)
                refine ⟨(k6, k5, ys), ?_, ?_, ?_⟩
                · exact cmp_ne_z hc F C hr3 hr4 hk3 hx3 hx4 h8.yes e4 e6 (by rw [hys.out, e5, show r6 = kc.toNat by have := hr6.out; omega])
                · show n - k6.toNat < n - k2.toNat
                  have := hc.hi
                  omega
                · cbv
                  simp
  · cbv
    have h := h2.yes
    have h' := h1.len
    have hd : dedupA l = l := by
      match l, hnl with
      | [], _ => rfl
      | [_], _ => rfl
      | _ :: _ :: _, e => simp at e; omega
    obtain ⟨rfl, rfl⟩ := same hd
    exact ⟨Le.refl _, ⟨Le.refl _, trivial⟩, trivial⟩
end Go.Proofs.YtbjfmkmaghapgaaGreatDoor.B

namespace Go.Proofs
open Go.Shelf
def Tryz.laysSortStr_ren : Go.Shelf.Ren := ⟨fun | 6 => 107 | 8 => 62 | 9 => 114 | 19 => 82 | 20 => 83 | 21 => 115 | 22 => 116 | 23 => 117 | 24 => 118 | 25 => 119 | 26 => 120 | 27 => 121 | 28 => 122 | 29 => 123 | 36 => 124 | 31 => 100 | 32 => 101 | 37 => 125 | 38 => 126 | 39 => 52 | 41 => 127 | n => n, fun | 27 => 39 | 29 => 9 | 3 => 3 | 32 => 98 | 26 => 39 | 0 => 0 | 44 => 110 | 46 => 112 | 4 => 4 | 36 => 103 | 35 => 102 | 41 => 107 | 5 => 5 | 9 => 9 | 53 => 122 | 57 => 126 | 63 => 136 | 64 => 120 | n => n, fun | n => n⟩
theorem Tryz.laysSortStr : Go.Proofs.SlLaysM.n6 Tryz.prog Tryz.laysSortStr_ren := {
  mixed := by kernel_rfl
  f6 := ⟨Tryz.f107.name, by decide, Tryz.func107.trans (congrArg some (by kernel_rfl))⟩
  f8 := Tryz.func62.trans (congrArg some (by kernel_rfl))
  f9 := ⟨Tryz.f114.name, by decide, Tryz.func114.trans (congrArg some (by kernel_rfl))⟩
  f19 := Tryz.func82.trans (congrArg some (by kernel_rfl))
  f20 := Tryz.func83.trans (congrArg some (by kernel_rfl))
  f21 := ⟨Tryz.f115.name, by decide, Tryz.func115.trans (congrArg some (by kernel_rfl))⟩
  f22 := ⟨Tryz.f116.name, by decide, Tryz.func116.trans (congrArg some (by kernel_rfl))⟩
  f23 := ⟨Tryz.f117.name, by decide, Tryz.func117.trans (congrArg some (by kernel_rfl))⟩
  f24 := ⟨Tryz.f118.name, by decide, Tryz.func118.trans (congrArg some (by kernel_rfl))⟩
  f25 := ⟨Tryz.f119.name, by decide, Tryz.func119.trans (congrArg some (by kernel_rfl))⟩
  f26 := ⟨Tryz.f120.name, by decide, Tryz.func120.trans (congrArg some (by kernel_rfl))⟩
  f27 := ⟨Tryz.f121.name, by decide, Tryz.func121.trans (congrArg some (by kernel_rfl))⟩
  f28 := ⟨Tryz.f122.name, by decide, Tryz.func122.trans (congrArg some (by kernel_rfl))⟩
  f29 := ⟨Tryz.f123.name, by decide, Tryz.func123.trans (congrArg some (by kernel_rfl))⟩
  f31 := Tryz.func100.trans (congrArg some (by kernel_rfl))
  f32 := Tryz.func101.trans (congrArg some (by kernel_rfl))
  f36 := ⟨Tryz.f124.name, by decide, Tryz.func124.trans (congrArg some (by kernel_rfl))⟩
  f37 := ⟨Tryz.f125.name, by decide, Tryz.func125.trans (congrArg some (by kernel_rfl))⟩
  f38 := ⟨Tryz.f126.name, by decide, Tryz.func126.trans (congrArg some (by kernel_rfl))⟩
  f39 := ⟨Tryz.f52.name, by decide, Tryz.func52.trans (congrArg some (by kernel_rfl))⟩
  f41 := ⟨Tryz.f127.name, by decide, Tryz.func127.trans (congrArg some (by kernel_rfl))⟩
  t0 := Tryz.underlying0
  a0 := Tryz.isAgg0
  z0 := Tryz.sizeOf0
  v0 := Tryz.zeroValue0
  t3 := Tryz.underlying3
  a3 := Tryz.isAgg3
  z3 := Tryz.sizeOf3
  v3 := Tryz.zeroValue3
  t4 := Tryz.underlying4
  a4 := Tryz.isAgg4
  z4 := Tryz.sizeOf4
  v4 := Tryz.zeroValue4
  t5 := Tryz.underlying5
  a5 := Tryz.isAgg5
  z5 := Tryz.sizeOf5
  v5 := Tryz.zeroValue5
  t9 := Tryz.underlying9
  a9 := Tryz.isAgg9
  z9 := Tryz.sizeOf9
  v9 := Tryz.zeroValue9
  t26 := Tryz.underlying39
  a26 := Tryz.isAgg39
  z26 := Tryz.sizeOf39
  v26 := Tryz.zeroValue39
  t27 := Tryz.underlying39
  a27 := Tryz.isAgg39
  z27 := Tryz.sizeOf39
  v27 := Tryz.zeroValue39
  t29 := Tryz.underlying9
  a29 := Tryz.isAgg9
  z29 := Tryz.sizeOf9
  v29 := Tryz.zeroValue9
  t32 := Tryz.underlying98
  a32 := Tryz.isAgg98
  z32 := Tryz.sizeOf98
  v32 := Tryz.zeroValue98
  t35 := Tryz.underlying102
  a35 := Tryz.isAgg102
  z35 := Tryz.sizeOf102
  v35 := Tryz.zeroValue102
  t36 := Tryz.underlying103
  a36 := Tryz.isAgg103
  z36 := Tryz.sizeOf103
  v36 := Tryz.zeroValue103
  t41 := Tryz.underlying107
  a41 := Tryz.isAgg107
  z41 := Tryz.sizeOf107
  v41 := Tryz.zeroValue107
  t44 := Tryz.underlying110
  a44 := Tryz.isAgg110
  z44 := Tryz.sizeOf110
  v44 := Tryz.zeroValue110
  t46 := Tryz.underlying112
  a46 := Tryz.isAgg112
  z46 := Tryz.sizeOf112
  v46 := Tryz.zeroValue112
  t53 := Tryz.underlying122
  a53 := Tryz.isAgg122
  z53 := Tryz.sizeOf122
  v53 := Tryz.zeroValue122
  t57 := Tryz.underlying126
  a57 := Tryz.isAgg126
  z57 := Tryz.sizeOf126
  v57 := Tryz.zeroValue126
  t63 := Tryz.underlying136
  a63 := Tryz.isAgg136
  z63 := Tryz.sizeOf136
  v63 := Tryz.zeroValue136
  t64 := Tryz.underlying120
  a64 := Tryz.isAgg120
  z64 := Tryz.sizeOf120
  v64 := Tryz.zeroValue120 }
end Go.Proofs

set_option linter.unusedVariables false
set_option linter.unusedSimpArgs false
namespace Go.Proofs.YtbjfmkmaghapgaaGreatDoor.B
open Go.RowKit Go.Sort Go.Shelf
def unS (b : List UInt8) : ByteArray := ⟨b.toArray⟩
def bytesS (s : ByteArray) : List UInt8 := s.data.toList
theorem unS_bytes (s : ByteArray) : unS (bytesS s) = s := by
  unfold unS bytesS
  simp
theorem bytes_unS (b : List UInt8) : bytesS (unS b) = b := by
  unfold unS bytesS
  simp
/-- Texts, sorted. -/
def sortS (l : List ByteArray) : List ByteArray := ((l.map bytesS).mergeSort fun x y => decide (x ≤ y)).map unS
theorem sortS_len (l : List ByteArray) : (sortS l).length = l.length := by
  unfold sortS
  rw [List.length_map, List.length_mergeSort, List.length_map]
theorem sortS_bytes (l : List ByteArray) : (sortS l).map bytesS = (l.map bytesS).mergeSort fun x y => decide (x ≤ y) := by
  unfold sortS
  rw [List.map_map]
  have : bytesS ∘ unS = id := by funext b; exact bytes_unS b
  rw [this, List.map_id]
theorem mem_sortS (l : List ByteArray) (x : ByteArray) : x ∈ sortS l ↔ x ∈ l := by
  unfold sortS
  rw [List.mem_map]
  constructor
  · rintro ⟨b, hb, rfl⟩
    rw [List.mem_mergeSort, List.mem_map] at hb
    obtain ⟨s, hs, rfl⟩ := hb
    rw [unS_bytes]
    exact hs
  · intro h
    exact ⟨bytesS x, by rw [List.mem_mergeSort]; exact List.mem_map_of_mem h, unS_bytes x⟩
theorem bangS (l : List (List UInt8)) (i : Nat) (h : i < l.length) : l.toArray[i]! = l[i] := by
  rw [getElem!_pos l.toArray i (by simpa using h)]
  simp
theorem holds_of_rowsS {S : Nat → Nat → Prop} {w : World} {b : Nat} {l : List ByteArray} (h : RowsAt S w b 1 (l.map encS)) (hf : ∀ q, w.frozen? ⟨b, q, none⟩ = false) : Holds encStr w b 0 (l.map bytesS).toArray := by
  intro t ht
  rw [Nat.zero_add]
  refine ⟨?_, hf t⟩
  have ht' : t < (l.map bytesS).length := by simpa using ht
  have hl : t < l.length := by simpa using ht'
  rw [bangS _ t ht', List.getElem_map]
  obtain ⟨c, c1, c2, _⟩ := h.2 t 0 (encS l[t]) _ (by rw [List.getElem?_map, List.getElem?_eq_getElem hl]; rfl) rfl
  rw [(rep_lit c2).1, Nat.mul_one, Nat.add_zero] at c1
  rw [c1]
  show some (Value.string l[t]) = some (Value.string (unS (bytesS l[t])))
  rw [unS_bytes]
theorem rows_of_holdsS {S : Nat → Nat → Prop} {w : World} {b : Nat} {l : List ByteArray} (h : Holds encStr w b 0 (l.map bytesS).toArray) : RowsAt S w b 1 (l.map encS) := by
  refine ⟨lenS l, fun i j r x hr hx => ?_⟩
  rw [List.getElem?_map] at hr
  cases hq : l[i]? with
  | none => rw [hq] at hr; cases hr
  | some y =>
    rw [hq] at hr
    simp only [Option.map_some, Option.some.injEq] at hr
    subst hr
    obtain ⟨hi, hy⟩ := List.getElem?_eq_some_iff.1 hq
    have hj : j = 0 := by
      have := (List.getElem?_eq_some_iff.1 hx).1
      simp [encS] at this
      omega
    subst hj
    cases hx
    have ht' : i < (l.map bytesS).length := by simpa using hi
    have h1 := (h i (by simpa using hi)).1
    rw [Nat.zero_add, bangS _ i ht', List.getElem_map, hy] at h1
    refine ⟨.string y, ?_, .lit _ rfl, rfl⟩
    rw [Nat.mul_one, Nat.add_zero, h1]
    show some (Value.string (unS (bytesS y))) = some (Value.string y)
    rw [unS_bytes]
theorem sortStr_hc {G : World → Prop} (l : List ByteArray) (X : List (List PV)) (hX : l.map encS = X) (hl : l.length ≤ 1000000) (hne : l ≠ []) (n : Nat) (hn : Is n (fun _ => X.length)) (Y : List (List PV)) (hY : Is Y (fun _ => (sortS l).map encS)) :
    HCalls G Tryz.prog 107 [.slp 30000 1 0 n] [(30000, [.rows 1 X])] (.pv (.tup [])) none [(30000, [.rows 1 Y])] := by
  have hXl : X.length = l.length := by rw [← hX]; simp
  refine ⟨⟨_, Tryz.func107, by kernel_rfl, by kernel_rfl⟩, fun w S β vs hG hSa hpre hrep => ?_⟩
  obtain ⟨hsz, hrep⟩ := hrep
  obtain ⟨v0, rfl⟩ : ∃ v0, vs = #[v0] := by
    obtain ⟨vl⟩ := vs
    match vl, hsz with
    | [a], _ => exact ⟨a, rfl⟩
  have hv0 : RepF β S w v0 (.slp 30000 1 0 n) := hrep 0 v0 _ rfl rfl
  obtain ⟨cap, off, hcap, rfl, hoff⟩ := hv0
  obtain ⟨_, _, hrows, hfz⟩ := hpre.holds 30000 _ (List.mem_cons_self ..) 0 _ rfl (by simp)
  obtain ⟨hlt, hnS⟩ := hpre.lt 30000 (by simp [idsOf])
  have hnl : n = l.length := by rw [hn.out, hXl]
  have hpos : 0 < l.length := List.length_pos_iff.2 hne
  have hoff0 : off = 0 := by rcases hoff with h | h; omega; omega
  subst hoff0
  have hsize : (l.map bytesS).length = n := by simp [hnl]
  have hH : Holds encStr w (β 30000) 0 (l.map bytesS).toArray := holds_of_rowsS (hX ▸ hrows) hfz
  have hcall := AnyM.slices_Sort_string (P := Tryz.prog) (ρ := Tryz.laysSortStr_ren) Tryz.laysSortStr (β 30000) 0 cap (l.map bytesS) w hH hlt (by omega)
  rw [hsize] at hcall
  refine Calls.mono (f := 107) hcall ?_
  rintro e w' ⟨rfl, m, os, hw⟩
  rw [← sortS_bytes] at hw
  have hds : ((sortS l).map bytesS).toArray.size = (l.map bytesS).toArray.size := by simp [sortS_len]
  have hH0 : Holds encStr (Go.Sort.ahead w m) (β 30000) 0 (l.map bytesS).toArray := hH
  have hH' : Holds encStr w' (β 30000) 0 ((sortS l).map bytesS).toArray := by
    rw [hw]
    exact holds_grow encStr _ os (β 30000) 0 _ (by rw [size_putRow]; exact hlt) (holds_putRow encStr _ _ _ _ _ hH0 hds)
  have hold : ∀ k, k < w.heap.size → k ≠ β 30000 → w'.heap[k]? = w.heap[k]? := fun k hk hne => by
    rw [hw, heap_grow_old _ _ (by rw [size_putRow]; exact hk)]
    unfold putRow mapBlock
    show ((Go.Sort.ahead w m).heap.modify _ _)[k]? = _
    rw [Array.getElem?_modify, if_neg (fun e => hne e.symm)]
    rfl
  have hos : w'.os = w.os ∧ w'.tape = w.tape ∧ w'.output = w.output ∧ w'.drawn = w.drawn + m := by rw [hw]; exact ⟨rfl, rfl, rfl, rfl⟩
  have hszw : w.heap.size ≤ w'.heap.size := by
    rw [hw, size_grow, size_putRow]
    show w.heap.size ≤ w.heap.size + _
    omega
  have hfz' : ∀ q, w'.frozen? ⟨β 30000, q, none⟩ = false := fun q => by
    rw [hw, frozen?_grow _ _ _ (by rw [size_putRow]; exact hlt), frozen?_putRow]
    exact hfz q
  have hro : RowsAt S w' (β 30000) 1 Y := by
    rw [hY.out]
    exact rows_of_holdsS hH'
  refine ⟨_, S, β, rfl, ⟨hos.1, hos.2.1, hos.2.2.1, hszw, fun k hk hne => hold k hk (fun e => hne ⟨30000, by simp [idsOf], e.symm⟩)⟩, fun _ _ h => h, fun _ _ h => .inl h, fun b o hs => Nat.lt_of_lt_of_le (hSa b o hs) hszw, fun _ _ => rfl, fun i hi hni => absurd hi hni, ⟨fun i hi => ?_, fun i j hi hj _ => ?_, fun i xs hm o x hx hne => ?_⟩, .tup _ _ rfl (fun i v p hv => by simp at hv), trivial, fun b hne => hne.elim, fun _ => by rw [hos.2.2.2]; omega⟩
  · simp [idsOf] at hi
    subst hi
    exact ⟨Nat.lt_of_lt_of_le hlt hszw, hnS⟩
  · simp [idsOf] at hi hj
    rw [hi, hj]
  · simp at hm
    obtain ⟨rfl, rfl⟩ := hm
    cases o with
    | succ o => simp at hx
    | zero =>
      simp at hx
      subst hx
      exact ⟨rfl, rfl, hro, hfz'⟩
theorem sortStr0_ac {G : World → Prop} (hst : Stable G) (hD : ¬ ∀ w, G w) : ACalls G Tryz.prog 107 [.sl []] (.tup []) none := by
  refine of_calls (v0 := .tuple #[]) hst hD ⟨_, Tryz.func107, by kernel_rfl, by kernel_rfl⟩ (fun w S vs _ hrep => ?_) (fun S w => .tup _ _ rfl (fun i v p hv => by simp at hv))
  obtain ⟨v0, rfl, hv0⟩ := hrep.one
  have key : ∀ p cap, Calls Tryz.prog 107 #[.slice p 0 cap] w fun e w' => e = .returned (.tuple #[]) ∧ Below w.heap.size w w' := fun p cap => by
    refine Calls.mono (f := 107) (AnyM.slices_Sort_string_none (P := Tryz.prog) (ρ := Tryz.laysSortStr_ren) Tryz.laysSortStr p cap w) ?_
    rintro e w' ⟨rfl, rfl⟩
    exact ⟨rfl, Below.refl _ _⟩
  rcases rep_sl hv0 with ⟨⟨A, rfl⟩, _⟩ | ⟨b, off, k', cap, rfl, _⟩
  · exact key _ _
  · exact key _ _
end Go.Proofs.YtbjfmkmaghapgaaGreatDoor.B
