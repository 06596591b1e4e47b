/-
Functions of package slices, walked: Clone, Clip, Index. Condition: none.
-/
import Derived.Test.YtbjfmkmaghapgaaGreatDoorBConv
import Derived.Test.YtbjfmkmaghapgaaGreatDoorBJson
set_option linter.unusedVariables false
set_option linter.unusedSimpArgs false
namespace Go.Proofs.YtbjfmkmaghapgaaGreatDoor.B
open Go.RowKit
set_option maxRecDepth 100000 in
set_option maxHeartbeats 2000000 in
theorem cloneRule_any {G : World → Prop} (hst : Stable G) (X : List (List PV)) (hk : ∀ r, r ∈ X → r.length = 5) (hl : X.length ≤ 1000000000) :
    ACalls G Tryz.prog 46 [.sl X] (.sl X) none := by
  refine acalls_fn hst mixed tau_ok Tryz.func46 (by kernel_rfl) (by kernel_rfl) (by kernel_rfl) ?_
  intro Q hQ
  cbv
  intro b hb
  cbv
  cases b
  · cbv
    refine ⟨⟨by simp; omega, fun r hr => by simp at hr, hk⟩, ?_⟩
    intro r hr
    cbv
    exact ⟨by rw [hr.out]; rfl, trivial⟩
  · cbv
    exact ⟨by rw [hb.out rfl], trivial⟩
set_option maxRecDepth 100000 in
set_option maxHeartbeats 2000000 in
theorem cloneRule_ac {G : World → Prop} (hst : Stable G) (X : List (List PV)) (hk : ∀ r, r ∈ X → r.length = 5) (hl : X.length ≤ 1000000000) (hne : X ≠ []) :
    ACalls G Tryz.prog 46 [.sl X] (.sl X) (some (36, 5)) := by
  refine acalls_fn hst mixed tau_ok Tryz.func46 (by kernel_rfl) (by kernel_rfl) (by kernel_rfl) ?_
  intro Q hQ
  cbv
  intro b hb
  cbv
  cases b
  · cbv
    refine ⟨⟨by simp; omega, fun r hr => by simp at hr, hk⟩, ?_⟩
    intro r hr
    cbv
    exact ⟨by rw [hr.out]; rfl, Or.inr trivial⟩
  · exact absurd (hb.out rfl) hne
set_option maxRecDepth 100000 in
set_option maxHeartbeats 2000000 in
theorem cloneString_any {G : World → Prop} (hst : Stable G) (X : List (List PV)) (hk : ∀ r, r ∈ X → r.length = 1) (hl : X.length ≤ 1000000000) :
    ACalls G Tryz.prog 109 [.sl X] (.sl X) none := by
  refine acalls_fn hst mixed tau_ok Tryz.func109 (by kernel_rfl) (by kernel_rfl) (by kernel_rfl) ?_
  intro Q hQ
  cbv
  intro b hb
  cbv
  cases b
  · cbv
    refine ⟨⟨by simp; omega, fun r hr => by simp at hr, hk⟩, ?_⟩
    intro r hr
    cbv
    exact ⟨by rw [hr.out]; rfl, trivial⟩
  · cbv
    exact ⟨by rw [hb.out rfl], trivial⟩
set_option maxRecDepth 100000 in
set_option maxHeartbeats 2000000 in
theorem cloneString_ac {G : World → Prop} (hst : Stable G) (X : List (List PV)) (hk : ∀ r, r ∈ X → r.length = 1) (hl : X.length ≤ 1000000000) (hne : X ≠ []) :
    ACalls G Tryz.prog 109 [.sl X] (.sl X) (some (9, 1)) := by
  refine acalls_fn hst mixed tau_ok Tryz.func109 (by kernel_rfl) (by kernel_rfl) (by kernel_rfl) ?_
  intro Q hQ
  cbv
  intro b hb
  cbv
  cases b
  · cbv
    refine ⟨⟨by simp; omega, fun r hr => by simp at hr, hk⟩, ?_⟩
    intro r hr
    cbv
    exact ⟨by rw [hr.out]; rfl, Or.inr trivial⟩
  · exact absurd (hb.out rfl) hne
/-- A rule. -/
structure Rl where
  kind : Int
  entity : ByteArray
  reason : ByteArray
  room : ByteArray
  key : ByteArray
  deriving DecidableEq
def encR (r : Rl) : List PV := [.lit (.int .i64 r.kind), .lit (.string r.entity), .lit (.string r.reason), .lit (.string r.room), .lit (.string r.key)]
/-- Of neighbours that are alike, the first. -/
def dedupA {α : Type} [DecidableEq α] : List α → List α
  | [] => []
  | [x] => [x]
  | x :: y :: r => if x = y then dedupA (y :: r) else x :: dedupA (y :: r)
theorem dedupA_snoc {α : Type} [DecidableEq α] : ∀ (l : List α) (x y : α), l.getLast? = some y → dedupA (l ++ [x]) = if y = x then dedupA l else dedupA l ++ [x]
  | [], x, y, h => by simp at h
  | [a], x, y, h => by
    simp at h
    subst h
    by_cases e : a = x <;> simp [dedupA, e]
  | a :: b :: r, x, y, h => by
    have h' : (b :: r).getLast? = some y := by simpa [List.getLast?_cons_cons] using h
    have ih := dedupA_snoc (b :: r) x y h'
    simp only [List.cons_append] at ih ⊢
    simp only [dedupA]
    rw [ih]
    by_cases e : a = b <;> by_cases e2 : y = x <;> simp [e, e2]
theorem dedupA_len {α : Type} [DecidableEq α] : ∀ (l : List α), (dedupA l).length ≤ l.length
  | [] => Nat.le_refl _
  | [x] => Nat.le_refl _
  | x :: y :: r => by
    have := dedupA_len (y :: r)
    simp only [dedupA]
    split <;> simp only [List.length_cons] at this ⊢ <;> omega
theorem dedupA_take {α : Type} [DecidableEq α] {l : List α} {k : Nat} {x y : α} (hx : l[k]? = some x) (h1 : 1 ≤ k) (hy : l[k - 1]? = some y) : dedupA (l.take (k + 1)) = if y = x then dedupA (l.take k) else dedupA (l.take k) ++ [x] := by
  have hlt := (List.getElem?_eq_some_iff.1 hx).1
  have e : l.take (k + 1) = l.take k ++ [x] := by rw [List.take_add_one, hx]; rfl
  rw [e]
  refine dedupA_snoc _ x y ?_
  rw [List.getLast?_eq_getElem?, List.getElem?_take, List.length_take, if_pos (by omega), show min k l.length - 1 = k - 1 by omega]
  exact hy
theorem dedupA_id {α : Type} [DecidableEq α] (l : List α) : ∀ (k : Nat), k ≤ l.length → (∀ i x y, i + 1 < k → l[i]? = some x → l[i + 1]? = some y → x ≠ y) → dedupA (l.take k) = l.take k
  | 0, _, _ => by simp [dedupA]
  | k + 1, hk, h => by
    have hx := List.getElem?_eq_getElem (show k < l.length by omega)
    by_cases h0 : k = 0
    · subst h0
      rw [List.take_add_one, hx]
      simp [dedupA]
    · have hy := List.getElem?_eq_getElem (show k - 1 < l.length by omega)
      have hy' : l[k - 1 + 1]? = some l[k] := by rw [show k - 1 + 1 = k by omega]; exact hx
      rw [dedupA_take hx (by omega) hy, if_neg (h (k - 1) _ _ (by omega) hy hy'), dedupA_id l k (by omega) (fun i x y hi => h i x y (by omega)), List.take_add_one, hx]
      rfl
theorem natAt {r : Nat} {i : Int} {X : List (List PV)} (h : Is r (fun _ => 0 + i.toNat)) (hi : i.toNat < X.length) : Req (fun _ => 0 ≤ (r : Int) ∧ (r : Int).toNat < X.length) := ⟨by omega, by have := h.out; omega⟩
theorem ltAt {m k : Int} {n : Nat} (h : Is m (fun _ => (n : Int))) (h0 : 0 ≤ k) (h1 : k < m) : Req (fun _ => 0 ≤ k ∧ k < (n : Int)) := ⟨h0, by rw [← h.out]; exact h1⟩
theorem Is.sub1 {m k : Int} (h : Is m (fun _ => IntKind.i64.wrap (k - 1))) (h0 : 1 ≤ k) (h1 : k ≤ 4611686018427387904) : m = k - 1 := h.i64 (by omega) (by omega)
theorem ltAt' {m k k1 : Int} {n : Nat} (h : Is m (fun _ => (n : Int))) (h0 : 1 ≤ k) (h1 : k < m) (h2 : Is k1 (fun _ => IntKind.i64.wrap (k - 1))) (hn : n ≤ 1000000) : Req (fun _ => 0 ≤ k1 ∧ k1 < (n : Int)) := by
  have := h.len
  obtain rfl := h2.sub1 h0 (by omega)
  exact ⟨by omega, by omega⟩
theorem Is.rowN {α : Type} {E : α → List PV} {l : List α} {n : Nat} {r : List PV} {X : List (List PV)} (hX : l.map E = X) (h : Is (some r) (fun _ => X[((n : Nat) : Int).toNat]?)) : ∃ x, l[n]? = some x ∧ r = E x := by
  obtain ⟨x, h1, h2⟩ := Is.row hX h
  exact ⟨x, by simpa using h1, h2⟩
theorem leAt {m k : Int} {n : Nat} (h : Is m (fun _ => (n : Int))) (h0 : 0 ≤ k) (h1 : k < m) : Req (fun _ => 0 ≤ k ∧ k ≤ (n : Int)) := ⟨h0, by rw [← h.out]; omega⟩
theorem eqR (x y : Rl) : (if false = true then !(decide (x.kind = y.kind) && (decide (x.entity = y.entity) && (decide (x.reason = y.reason) && (decide (x.room = y.room) && (decide (x.key = y.key) && true))))) else (decide (x.kind = y.kind) && (decide (x.entity = y.entity) && (decide (x.reason = y.reason) && (decide (x.room = y.room) && (decide (x.key = y.key) && true)))))) = decide (x = y) := by
  obtain ⟨a1, a2, a3, a4, a5⟩ := x
  obtain ⟨b1, b2, b3, b4, b5⟩ := y
  simp [Bool.and_assoc]
theorem neR (x y : Rl) : (if true = true then !(decide (x.kind = y.kind) && (decide (x.entity = y.entity) && (decide (x.reason = y.reason) && (decide (x.room = y.room) && (decide (x.key = y.key) && true))))) else (decide (x.kind = y.kind) && (decide (x.entity = y.entity) && (decide (x.reason = y.reason) && (decide (x.room = y.room) && (decide (x.key = y.key) && true)))))) = decide (x ≠ y) := by
  obtain ⟨a1, a2, a3, a4, a5⟩ := x
  obtain ⟨b1, b2, b3, b4, b5⟩ := y
  simp [Bool.and_assoc]
/-- No two neighbours alike, so far. -/
structure NoTwo (l : List Rl) (k : Int) : Prop where
  lo : 1 ≤ k
  hi : k ≤ l.length
  all : ∀ (i : Nat) x y, (i : Int) + 1 < k → l[i]? = some x → l[i + 1]? = some y → x ≠ y
/-- What the inner loop has done. -/
structure Cmp (l : List Rl) (k0 : Int) (k2 k : Int) (Y : List (List PV)) : Prop where
  lo : 1 ≤ k2
  hi : k0 + k2 ≤ l.length
  q0 : 1 ≤ k0
  kk : k = (dedupA (l.take (k0 + k2).toNat)).length
  kl : k ≤ k0 + k2 - 1
  y : Y = (dedupA (l.take (k0 + k2).toNat)).map encR ++ (l.map encR).drop k.toNat
structure CF (l : List Rl) (k : Int) (n r1 r2 q1 q2 : Nat) : Prop where
  out : k = (r1 : Int) ∧ r2 + 1 = r1 ∧ r1 < n ∧ q1 = r1 ∧ q2 = n - r1 ∧ n = l.length ∧ n ≤ 1000000
structure CC (k2 : Int) (q2 : Nat) : Prop where
  out : k2 < q2 ∧ 1 ≤ k2
structure CE (kc : Int) (m n : Nat) : Prop where
  out : kc = m ∧ m ≤ n
theorem natAt' {r : Nat} {X : List (List PV)} (h : r < X.length) : Req (fun _ => 0 ≤ (r : Int) ∧ (r : Int).toNat < X.length) := ⟨by omega, by omega⟩
theorem CE.le2 {kc : Int} {m n : Nat} (h : CE kc m n) : kc ≤ (n : Int) := by have := h.out; omega
theorem CC.lt1 {k2 : Int} {q2 : Nat} (h : CC k2 q2) : k2 < (q2 : Int) := h.out.1
section
variable {l : List Rl} {n r1 r2 q1 q2 : Nat} {k k2 kc : Int} {Yc X : List (List PV)}
theorem ltC {k3 : Int} (h : CC k2 q2) (h3 : Is k3 (fun _ => IntKind.i64.wrap (k2 - 1))) (F : CF l k n r1 r2 q1 q2) : k3 < (q2 : Int) := by
  have := h.out
  have := F.out
  have := h3.sub1 (by omega) (by omega)
  omega
theorem cmp_start (hk : NoTwo l k) (F : CF l k n r1 r2 q1 q2) {x y : Rl} (hx : l[r1]? = some x) (hy : l[r2]? = some y) (hX : l.map encR = X) (e : x = y) : Cmp l k 1 k X := by
  have f := F.out
  have e1 : (k + 1).toNat = r1 + 1 := by omega
  have e2 : dedupA (l.take (r1 + 1)) = l.take r1 := by
    rw [dedupA_take hx (by omega) (show l[r1 - 1]? = some y by rw [show r1 - 1 = r2 by omega]; exact hy), if_pos e.symm]
    exact dedupA_id l r1 (by omega) (fun i a b hi => hk.all i a b (by omega))
  refine ⟨by omega, by omega, hk.lo, ?_, by omega, ?_⟩
  · rw [e1, e2, List.length_take]
    omega
  · rw [e1, e2, ← hX, show k.toNat = r1 by omega, List.map_take, List.take_append_drop]
theorem cmp_len (hc : Cmp l k k2 kc Yc) (F : CF l k n r1 r2 q1 q2) : Yc.length = n := by
  have f := F.out
  have h1 := hc.kk
  have h2 := hc.kl
  have h3 := hc.hi
  rw [hc.y, List.length_append, List.length_map, List.length_drop, List.length_map]
  omega
theorem cmp_row (hc : Cmp l k k2 kc Yc) {r : List PV} {j : Nat} (hj : kc ≤ j) (hr : Is (some r) (fun _ => Yc[((j : Nat) : Int).toNat]?)) : ∃ x, l[j]? = some x ∧ r = encR x := by
  have h1 := hc.kk
  have h := hr.out
  rw [Int.toNat_natCast, hc.y, List.getElem?_append_right (by rw [List.length_map]; omega), List.length_map, List.getElem?_drop, show kc.toNat + (j - (dedupA (l.take (k + k2).toNat)).length) = j by omega, List.getElem?_map] at h
  cases hq : l[j]? with
  | none => rw [hq] at h; cases h
  | some x => rw [hq] at h; exact ⟨x, rfl, by simpa using h⟩
theorem cmp_end' (F : CF l k n r1 r2 q1 q2) (hc : Cmp l k k2 kc Yc) {m5 : Int} (h6 : Is m5 (fun _ => (q2 : Int))) (h7 : Is false (fun _ => decide (k2 < m5))) : dedupA (l.take (k + k2).toNat) = dedupA l := by
  have f := F.out
  have h := h7.no
  have h' := h6.len
  rw [List.take_of_length_le (by omega)]
theorem cmp_end (F : CF l k n r1 r2 q1 q2) (hc : Cmp l k k2 kc Yc) {m5 : Int} (h6 : Is m5 (fun _ => (q2 : Int))) (h7 : Is false (fun _ => decide (k2 < m5))) {m : Nat} (hm : Is m (fun _ => (dedupA l).length)) : kc = m ∧ m ≤ n := by
  have f := F.out
  have h1 := hc.kk
  rw [cmp_end' F hc h6 h7] at h1
  have := hm.out
  have := dedupA_len l
  omega
theorem cmp_fin (F : CF l k n r1 r2 q1 q2) (hc : Cmp l k k2 kc Yc) {m : Nat} (E : kc = m ∧ m ≤ n) (hm : Is m (fun _ => (dedupA l).length)) {a1 a2 : Nat} (ha1 : Is a1 (fun _ => 0 + kc.toNat)) (ha2 : Is a2 (fun _ => n - kc.toNat)) (hd : dedupA (l.take (k + k2).toNat) = dedupA l) {Z : List PV} :
    Yc.take a1 ++ (List.replicate a2 Z ++ Yc.drop (a1 + a2)) = (dedupA l).map encR ++ List.replicate (n - m) Z := by
  have f := F.out
  have e1 : a1 = m := by have := ha1.out; omega
  have e2 : a2 = n - m := by have := ha2.out; omega
  have e3 : Yc.drop (a1 + a2) = [] := List.drop_eq_nil_of_le (by rw [cmp_len hc F]; omega)
  have e4 : Yc.take a1 = (dedupA l).map encR := by
    rw [hc.y, hd, List.take_append_of_le_length (by rw [List.length_map, e1, hm.out]; exact Nat.le_refl _), List.take_of_length_le (by rw [List.length_map, e1, hm.out]; exact Nat.le_refl _)]
  rw [e3, e4, e2, List.append_nil]
theorem cmp_eq (hc : Cmp l k k2 kc Yc) (F : CF l k n r1 r2 q1 q2) (C : CC k2 q2) {r3 r4 : Nat} {k3 : Int} (hr3 : Is r3 (fun _ => q1 + k2.toNat)) (hr4 : Is r4 (fun _ => q1 + k3.toNat)) (hk3 : Is k3 (fun _ => IntKind.i64.wrap (k2 - 1)))
    {x3 x4 : Rl} (hx3 : l[r3]? = some x3) (hx4 : l[r4]? = some x4) (e : ¬ x3 ≠ x4) {k4 : Int} (e4 : k4 = k2 + 1) : Cmp l k k4 kc Yc := by
  have f := F.out
  have c := C.out
  have z1 := hr3.out
  have z2 := hr4.out
  have z3 := hk3.sub1 (by omega) (by omega)
  have z4 := hc.q0
  have hl3 := (List.getElem?_eq_some_iff.1 hx3).1
  have g : dedupA (l.take (k + k4).toNat) = dedupA (l.take (k + k2).toNat) := by
    rw [show (k + k4).toNat = r3 + 1 by omega, show (k + k2).toNat = r3 by omega, dedupA_take hx3 (by omega) (show l[r3 - 1]? = some x4 by rw [show r3 - 1 = r4 by omega]; exact hx4), if_pos (Decidable.not_not.1 e).symm]
  have := hc.kl
  exact ⟨by omega, by omega, z4, by rw [g]; exact hc.kk, by omega, by rw [g]; exact hc.y⟩
theorem ltK (hc : Cmp l k k2 kc Yc) (F : CF l k n r1 r2 q1 q2) (C : CC k2 q2) : kc < (n : Int) := by
  have := hc.kl
  have := C.out
  have := F.out
  omega
theorem cmp_ne (hc : Cmp l k k2 kc Yc) (F : CF l k n r1 r2 q1 q2) (C : CC k2 q2) {r3 r4 : Nat} {k3 : Int} (hr3 : Is r3 (fun _ => q1 + k2.toNat)) (hr4 : Is r4 (fun _ => q1 + k3.toNat)) (hk3 : Is k3 (fun _ => IntKind.i64.wrap (k2 - 1)))
    {x3 x4 : Rl} (hx3 : l[r3]? = some x3) (hx4 : l[r4]? = some x4) (e : x3 ≠ x4) {k4 k5 : Int} (e4 : k4 = k2 + 1) (e5 : k5 = kc + 1) {Y' : List (List PV)} (hY : Y' = Yc.set kc.toNat (encR x3)) : Cmp l k k4 k5 Y' := by
  have f := F.out
  have c := C.out
  have z1 := hr3.out
  have z2 := hr4.out
  have z3 := hk3.sub1 (by omega) (by omega)
  have z4 := hc.q0
  have z5 := hc.kk
  have z6 := hc.kl
  have hl3 := (List.getElem?_eq_some_iff.1 hx3).1
  have g : dedupA (l.take (k + k4).toNat) = dedupA (l.take (k + k2).toNat) ++ [x3] := by
    rw [show (k + k4).toNat = r3 + 1 by omega, show (k + k2).toNat = r3 by omega, dedupA_take hx3 (by omega) (show l[r3 - 1]? = some x4 by rw [show r3 - 1 = r4 by omega]; exact hx4), if_neg (fun q => e q.symm)]
  refine ⟨by omega, by omega, z4, by rw [g, List.length_append]; simp; omega, by omega, ?_⟩
  rw [g, hY, hc.y, List.set_append, if_neg (by rw [List.length_map]; omega), List.length_map, show kc.toNat - (dedupA (l.take (k + k2).toNat)).length = 0 by omega, show k5.toNat = kc.toNat + 1 by omega]
  have hlt : kc.toNat < (l.map encR).length := by rw [List.length_map]; omega
  rw [List.drop_eq_getElem_cons hlt]
  simp
end
set_option maxRecDepth 100000 in
set_option maxHeartbeats 2000000 in
theorem compactRule_hc {G : World → Prop} (l : List Rl) (X : List (List PV)) (hX : l.map encR = X) (hl : l.length ≤ 1000000) (n : Nat) (hn : Is n (fun _ => X.length)) (m : Nat) (hm : Is m (fun _ => (dedupA l).length)) (Y : List (List PV)) (hY : Is Y (fun _ => (dedupA l).map encR ++ List.replicate (n - m) (encR ⟨0, ⟨#[]⟩, ⟨#[]⟩, ⟨#[]⟩, ⟨#[]⟩⟩))) :
    HCalls G Tryz.prog 49 [.slp 30000 5 0 n] [(30000, [.rows 5 X])] (.slp 30000 5 0 m) none [(30000, [.rows 5 Y])] := by
  have hXl : X.length = l.length := by rw [← hX]; simp
  have hnl : n = l.length := by rw [hn.out, hXl]
  have same : ∀ (x : dedupA l = l), m = n ∧ Y = X := fun e => by
    have h1 : m = n := by rw [hm.out, e, hnl]
    refine ⟨h1, ?_⟩
    rw [hY.out, h1, e]
    simpa using hX
  refine hcalls_fn mixed tau_ok Tryz.func49 (by kernel_rfl) (by kernel_rfl) (by kernel_rfl) (by kernel_rfl) ?_
  intro Q hQ hH
  cbv
  intro m1 h1
  cbv
  intro b1 h2
  cbv
  cases b1
  · cbv
    refine Or.inr ⟨[0], [30000], Int, fun k => [(.t 3, ⟨.pv (.lit (.int .i64 k)), none, none⟩)], NoTwo l, fun k => n - k.toNat, 1, ⟨by omega, ?_, fun i x y h => by omega⟩, ?_, ?_⟩
    · have := h2.no
      have := h1.len
      omega
    · cbv
      simp
    · intro k hk
      cbv
      intro m3 h3
      cbv
      intro b2 h4
      cbv
      cases b2
      · cbv
        have hd : dedupA l = l := by
          have h := h4.no
          have h' := h3.len
          have := hk.hi
          have e := dedupA_id l l.length (Nat.le_refl _) (fun i x y hi => hk.all i x y (by omega))
          rwa [List.take_length] at e
        obtain ⟨rfl, rfl⟩ := same hd
        exact ⟨Le.refl _, ⟨Le.refl _, trivial⟩, trivial⟩
      · cbv
        refine ⟨ltAt h3 (by have := hk.lo; omega) h4.yes, ?_⟩
        intro r1 hr1
        cbv
        refine ⟨natAt hr1 (by rw [hXl, ← hnl]; have := h4.yes; have := h3.len; have := hk.lo; omega), ?_⟩
        intro r hr
        obtain ⟨x, hx, rfl⟩ := hr.rowN hX
        cbv
        intro k1 hk1
        cbv
        refine ⟨ltAt' h3 (by have := hk.lo; omega) h4.yes hk1 (by omega), ?_⟩
        intro r2 hr2
        cbv
        refine ⟨natAt hr2 (by rw [hXl, ← hnl]; have := hk1.sub1 (by have := hk.lo; omega) (by have := h4.yes; have := h3.len; omega); have := h4.yes; have := h3.len; have := hk.lo; omega), ?_⟩
        intro r' hr'
        obtain ⟨y, hy, rfl⟩ := hr'.rowN hX
        cbv
        intro b3 h5
        have h5 : Is b3 (fun _ => decide (x = y)) := ⟨h5.out.trans (eqR x y)⟩
        cbv
        cases b3
        · cbv
          intro k' hk'
          cbv
          have hkk := hk.lo
          have e1 := h3.len
          have e2 := h4.yes
          have e3 := hk1.sub1 hkk (by omega)
          have e4 := hr1.out
          have e5 := hr2.out
          refine ⟨k', ?_, ?_, ?_⟩
          · obtain rfl := hk'.add1 (by omega) (by omega)
            refine ⟨by omega, by omega, fun i a b hi ha hb => ?_⟩
            by_cases e : (i : Int) + 1 < k
            · exact hk.all i a b e ha hb
            · have i1 : i = r2 := by omega
              have i2 : i + 1 = r1 := by omega
              rw [i2, hx] at hb
              rw [i1, hy] at ha
              cases ha
              cases hb
              exact fun q => h5.no q.symm
          · obtain rfl := hk'.add1 (by omega) (by omega)
            show n - (k + 1).toNat < n - k.toNat
            omega
          · cbv
            simp
        · cbv
          refine ⟨leAt h3 (by have := hk.lo; omega) h4.yes, ?_⟩
          intro q1 hq1
          cbv
          intro q2 hq2
          have F : CF l k n r1 r2 q1 q2 := ⟨by
            have hkk := hk.lo
            have e1 := h3.len
            have e2 := h4.yes
            have e3 := hk1.sub1 hkk (by omega)
            have e4 := hr1.out
            have e5 := hr2.out
            have e6 := hq1.out
            have e7 := hq2.out
            omega⟩
          cbv
          refine Or.inr ⟨[0, 4], [30000], Int × Int × List (List PV), fun p => [(.t 5, ⟨.pv (.lit (.int .i64 p.1)), none, none⟩), (.t 3, ⟨.pv (.lit (.int .i64 p.2.1)), none, none⟩), (.b 30000 0, ⟨.rows 5 p.2.2, none, none⟩)], fun p => Cmp l k p.1 p.2.1 p.2.2, fun p => n - p.1.toNat, (1, k, X), ?_, ?_, ?_⟩
          · exact cmp_start hk F hx hy hX h5.yes
          · cbv
            simp
          · intro ⟨k2, kc, Yc⟩ hc
            have hc : Cmp l k k2 kc Yc := hc
            cbv
            intro m5 h6
            cbv
            intro b4 h7
            cbv
            cases b4
            · cbv
              have E : CE kc m n := ⟨cmp_end F hc h6 h7 hm⟩
              refine ⟨⟨by have := E.out; omega, E.le2⟩, ?_⟩
              intro a1 ha1
              cbv
              intro a2 ha2
              cbv
              refine ⟨⟨by have := E.out; have := ha1.out; have := ha2.out; have := cmp_len hc F; omega⟩, ?_⟩
              intro ys hys
              cbv
              refine ⟨⟨by have := E.out; omega, E.le2⟩, ?_⟩
              intro a3 ha3
              cbv
              have e3 : a3 = m := by have := E.out; have := ha3.out; omega
              have e4 : ys = Y := by
                have := E.out
                rw [hys.out, hY.out]
                exact cmp_fin F hc E.out hm ha1 ha2 (cmp_end' F hc h6 h7)
              subst e3
              subst e4
              exact ⟨Le.refl _, ⟨Le.refl _, trivial⟩, trivial⟩
            · cbv
              have C : CC k2 q2 := ⟨⟨by have := h7.yes; have := h6.len; omega, hc.lo⟩⟩
              refine ⟨⟨by have := C.out; omega, C.lt1⟩, ?_⟩
              intro r3 hr3
              cbv
              refine ⟨natAt' (by have := C.out; have := F.out; have := hr3.out; have := cmp_len hc F; omega), ?_⟩
              intro r hr3'
              obtain ⟨x3, hx3, rfl⟩ := cmp_row hc (by have := hc.kl; have := C.out; have := F.out; have := hr3.out; omega) hr3'
              cbv
              intro k3 hk3
              cbv
              refine ⟨⟨by have := C.out; have := F.out; have := hk3.sub1 (by omega) (by omega); omega, ltC C hk3 F⟩, ?_⟩
              intro r4 hr4
              cbv
              refine ⟨natAt' (by have := C.out; have := F.out; have := hr4.out; have := hk3.sub1 (by omega) (by omega); have := cmp_len hc F; omega), ?_⟩
              intro r hr4'
              obtain ⟨x4, hx4, rfl⟩ := cmp_row hc (by have := hc.kl; have := C.out; have := F.out; have := hr4.out; have := hk3.sub1 (by omega) (by omega); omega) hr4'
              cbv
              intro b5 h8
              have h8 : Is b5 (fun _ => decide (x3 ≠ x4)) := ⟨h8.out.trans (neR x3 x4)⟩
              cbv
              cases b5
              · cbv
                intro k4 hk4
                cbv
                have c := C.out
                have f := F.out
                have e4 := hk4.add1 (by omega) (by omega)
                refine ⟨(k4, kc, Yc), ?_, ?_, ?_⟩
                · exact cmp_eq hc F C hr3 hr4 hk3 hx3 hx4 h8.no e4
                · show n - k4.toNat < n - k2.toNat
                  have := hc.hi
                  omega
                · cbv
                  simp
              · cbv
                refine ⟨⟨by have := C.out; omega, C.lt1⟩, ?_⟩
                intro r5 hr5
                cbv
                refine ⟨natAt' (by have := C.out; have := F.out; have := hr5.out; have := cmp_len hc F; omega), ?_⟩
                intro r hr5'
                obtain ⟨x5, hx5, rfl⟩ := cmp_row hc (by have := hc.kl; have := C.out; have := F.out; have := hr5.out; omega) hr5'
                have e5 : x5 = x3 := by
                  have := hr5.out.trans hr3.out.symm
                  rw [this, hx3] at hx5
                  cases hx5
                  rfl
                cbv
                refine ⟨⟨by have := hc.kk; omega, ltK hc F C⟩, ?_⟩
                intro r6 hr6
                cbv
                refine ⟨natAt' (by have := hc.kk; have := hc.kl; have := C.out; have := F.out; have := hr6.out; have := cmp_len hc F; omega), ?_⟩
                intro r hr6'
                obtain ⟨x6, hx6, rfl⟩ := cmp_row hc (by have := hc.kk; have := hr6.out; omega) hr6'
                cbv
                intro ys hys
                have hys : Is ys (fun _ => Yc.set r6 (encR x5)) := hys
                cbv
                intro k5 hk5
                cbv
                intro k6 hk6
                cbv
                have c := C.out
                have f := F.out
                have e4 := hk6.add1 (by omega) (by omega)
                have e6 := hk5.add1 (by have := hc.kk; omega) (by have := hc.kl; omega)
                refine ⟨(k6, k5, ys), ?_, ?_, ?_⟩
                · exact cmp_ne hc F C hr3 hr4 hk3 hx3 hx4 h8.yes e4 e6 (by rw [hys.out, e5, show r6 = kc.toNat by have := hr6.out; omega])
                · show n - k6.toNat < n - k2.toNat
                  have := hc.hi
                  omega
                · cbv
                  simp
  · cbv
    have h := h2.yes
    have h' := h1.len
    have hd : dedupA l = l := by
      match l, hnl with
      | [], _ => rfl
      | [_], _ => rfl
      | _ :: _ :: _, e => simp at e; omega
    obtain ⟨rfl, rfl⟩ := same hd
    exact ⟨Le.refl _, ⟨Le.refl _, trivial⟩, trivial⟩
end Go.Proofs.YtbjfmkmaghapgaaGreatDoor.B
