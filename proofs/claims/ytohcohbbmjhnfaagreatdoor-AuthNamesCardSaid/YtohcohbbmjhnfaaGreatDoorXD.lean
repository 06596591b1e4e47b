/-
Closed runs: values that are put together, new memory, addresses, slices. Condition: none.
-/
import Derived.Test.YtohcohbbmjhnfaaGreatDoorXC
import Derived.Laws.Tables
import Derived.Laws.Append
import Derived.Laws.Slices
set_option linter.unusedVariables false
set_option linter.unusedSectionVars false
set_option linter.unusedSimpArgs false
namespace Go.Proofs.YtohcohbbmjhnfaaGreatDoor.X
open Go Go.RowKit
noncomputable section
variable [Tabs]
section
variable {P : Program} {B : Nat} {β : Ren} {h : Heap} {nx : Nat} {w : World}
/-- A computation that leaves memory as it is. -/
def RunV (P : Program) (w : World) (β : Ren) (s : Sem Value) (x : XV) : Prop := ∃ v, s.run P w = .ok v w ∧ VR β x v
/-- A computation that makes one block. -/
def RunA (P : Program) (w : World) (β : Ren) (id : Nat) (s : Sem Value) (x : XV) (ob : AO) : Prop := ∃ v w', s.run P w = .ok v w' ∧ NewB 0 β id w w' x v ob

/-! ### structs, arrays -/
def layX (cells : List XV) (off : Nat) (cs : List XV) : List XV := cells.take off ++ (cs ++ cells.drop (Nat.add off cs.length))
def fillX (place : Nat → Option (Nat × Nat)) : List XV → List (Nat × XV) → Option (List XV)
  | cells, [] => some cells
  | cells, (i, x) :: r => match place i, x.cells with
    | some (off, size), some cs => match Nat.beq cs.length size, Nat.ble (Nat.add off cs.length) cells.length with
      | true, true => fillX place (layX cells off cs) r
      | _, _ => none
    | _, _ => none
theorem fold_set {off : Nat} : ∀ (us : List Value) (j : Nat) (vs : Array Value), off + j + us.length ≤ vs.size →
    ((us.zipIdx j).foldl (fun cs p => cs.setIfInBounds (off + p.2) p.1) vs).toList = vs.toList.take (off + j) ++ (us ++ vs.toList.drop (off + j + us.length))
  | [], j, vs, _ => by simp
  | u :: us, j, vs, hle => by
    have hle' : off + (j + 1) + us.length ≤ (vs.setIfInBounds (off + j) u).size := by simp at hle ⊢; omega
    have hj : off + j < vs.toList.length := by simp at hle ⊢; omega
    rw [List.zipIdx_cons, List.foldl_cons]
    show (List.foldl (fun (cs : Array Value) p => cs.setIfInBounds (off + p.2) p.1) (vs.setIfInBounds (off + j) u) (us.zipIdx (j + 1))).toList = _
    rw [fold_set us (j + 1) _ hle', Array.toList_setIfInBounds]
    have e1 : (vs.toList.set (off + j) u).take (off + (j + 1)) = vs.toList.take (off + j) ++ [u] := by
      rw [show off + (j + 1) = off + j + 1 by omega, List.take_add_one, List.getElem?_set_self hj, List.take_set_of_le (Nat.le_refl _)]
      rfl
    have e2 : (vs.toList.set (off + j) u).drop (off + (j + 1) + us.length) = vs.toList.drop (off + j + (u :: us).length) := by
      rw [List.drop_set_of_lt (by omega)]
      congr 1
      simp
      omega
    rw [e1, e2]
    simp
theorem allOne_app : ∀ {xs ys : List XV}, allOne xs = true → allOne ys = true → allOne (xs ++ ys) = true
  | [], ys, _, h => h
  | x :: xs, ys, h, h' => by
    unfold allOne at h
    split at h
    · rename_i h1
      show (match x.one with | true => allOne (xs ++ ys) | false => false) = true
      rw [h1]
      exact allOne_app h h'
    · cases h
theorem allOne_of : ∀ {xs : List XV}, (∀ (i : Nat) x, xs[i]? = some x → x.one = true) → allOne xs = true
  | [], _ => rfl
  | x :: xs, h => by
    unfold allOne
    rw [h 0 x rfl]
    exact allOne_of (fun i y hy => h (i + 1) y (by simpa using hy))
theorem allOne_take {xs : List XV} (h : allOne xs = true) (n : Nat) : allOne (xs.take n) = true :=
  allOne_of (fun i x hx => by
    rw [List.getElem?_take] at hx
    split at hx
    · exact allOne_get h hx
    · cases hx)
theorem allOne_drop {xs : List XV} (h : allOne xs = true) (n : Nat) : allOne (xs.drop n) = true :=
  allOne_of (fun i x hx => by rw [List.getElem?_drop] at hx; exact allOne_get h hx)
/-- The parts of a value, by their numbers. -/
def PtR (β : Ren) : List (Nat × XV) → List (Nat × Value) → Prop
  | [], l => l = []
  | (i, x) :: r, l => ∃ v l', l = (i, v) :: l' ∧ VR β x v ∧ PtR β r l'
theorem fillX_ok {place : Nat → Option (Nat × Nat)} : ∀ {ps : List (Nat × XV)} {ls : List (Nat × Value)} {cells r : List XV} {vs : Array Value}, fillX place cells ps = some r → PtR β ps ls → VRs β cells vs.toList → allOne cells = true →
    ∃ us, Instr.fill place vs ls = some us ∧ VRs β r us.toList ∧ allOne r = true
  | [], ls, cells, r, vs, hr, hp, hc, h1 => by
    rw [show ls = [] from hp]
    cases hr
    exact ⟨vs, rfl, hc, h1⟩
  | (i, x) :: ps, _, cells, r, vs, hr, ⟨v, ls, rfl, hv, hp⟩, hc, h1 => by
    unfold fillX at hr
    split at hr
    · rename_i off size cs hpl hcs
      split at hr
      · rename_i e1 e2
        have e1 := beq_t e1
        have e2 : off + cs.length ≤ cells.length := Nat.le_of_ble_eq_true e2
        obtain ⟨k1, k2⟩ := VR.cells hv hcs
        have hl := k1.length
        have hl2 := hc.length
        have hsz : v.cells.size = cs.length := by rw [← hl]; simp
        have hvs : vs.size = cells.length := by rw [← hl2]; simp
        have hstep : ((v.cells.zipIdx).foldl (fun cs (p : Value × Nat) => cs.setIfInBounds (off + p.2) p.1) vs).toList = vs.toList.take off ++ (v.cells.toList ++ vs.toList.drop (off + cs.length)) := by
          rw [← Array.foldl_toList, Array.toList_zipIdx]
          have := fold_set (off := off) v.cells.toList 0 vs (by rw [hl, hvs]; omega)
          rw [hl] at this
          simpa using this
        obtain ⟨us, q1, q2, q3⟩ := fillX_ok (vs := (v.cells.zipIdx).foldl (fun cs (p : Value × Nat) => cs.setIfInBounds (off + p.2) p.1) vs) hr hp (by
          rw [hstep]
          exact (hc.take off).append (k1.append (hc.drop _))) (allOne_app (allOne_take h1 _) (allOne_app k2 (allOne_drop h1 _)))
        refine ⟨us, ?_, q2, q3⟩
        unfold Instr.fill
        rw [hpl]
        have c1 : ¬ ((decide (v.cells.size ≠ size) || decide (off + v.cells.size > vs.size)) = true) := by
          simp
          omega
        show (if (decide (v.cells.size ≠ size) || decide (off + v.cells.size > vs.size)) = true then none else Instr.fill place (v.cells.zipIdx.foldl (fun cs (c, j) => cs.setIfInBounds (off + j) c) vs) ls) = _
        rw [if_neg c1, ← q1]
      · cases hr
    · cases hr
def placesX (P : Program) : List Field → Option (List (Nat × Nat))
  | [] => some []
  | f :: fs => match szOf P f.type, placesX P fs with
    | some n, some r => some ((f.offset, n) :: r)
    | _, _ => none
theorem placesX_run : ∀ (fs : List Field) {pl : List (Nat × Nat)}, placesX P fs = some pl → fs.mapM (fun f => (P.info? f.type).map fun i => (f.offset, i.size)) = some pl
  | [], pl, h => by cases h; rfl
  | f :: fs, pl, h => by
    unfold placesX at h
    split at h
    · rename_i n r hn hr
      cases h
      unfold szOf at hn
      split at hn
      · rename_i i hi
        cases hn
        simp [List.mapM_cons, hi, placesX_run fs hr]
      · cases hn
    · cases h
/-- The cells of a type's zero. -/
def zcells (P : Program) (t : TypeId) : Option (List XV) :=
  match zeroOf P t with
  | some z => z.cells
  | none => none
theorem zcells_run {t : TypeId} {cs : List XV} (hz : zcells P t = some cs) : ∃ z : Value, (∀ w, (zeroValue t).run P w = .ok z w) ∧ (∀ β, VRs β cs z.cells.toList) ∧ allOne cs = true := by
  unfold zcells at hz
  split at hz
  · rename_i z hz0
    obtain ⟨z', h1, h2⟩ := run_zero hz0
    exact ⟨z', h2, fun β => (VR.cells (β := β) (ofV_ok h1) hz).1, (VR.cells (β := fun _ => none) (ofV_ok h1) hz).2⟩
  · cases hz
theorem zcells_info {t : TypeId} {cs : List XV} (hz : zcells P t = some cs) : ∃ i z, P.info? t = some i ∧ i.zero = some z ∧ (∀ β, VRs β cs z.cells.toList) ∧ allOne cs = true := by
  unfold zcells zeroOf at hz
  split at hz
  · rename_i z hz0
    split at hz0
    · rename_i i hi
      split at hz0
      · rename_i z' hz'
        exact ⟨i, z', hi, hz', fun β => (VR.cells (β := β) (ofV_ok hz0) hz).1, (VR.cells (β := fun _ => none) (ofV_ok hz0) hz).2⟩
      · cases hz0
    · cases hz0
  · cases hz
def xbuild (P : Program) (t : TypeId) (ps : List (Nat × XV)) : Option XV :=
  match zcells P t, P.underlying t with
  | some zs, some (.struct fs) => match placesX P fs.toList with
    | some pl => match fillX (fun i => pl[i]?) zs ps with
      | some r => some (.agg r)
      | none => none
    | none => none
  | some zs, some (.array _ e) => match szOf P e with
    | some n => match fillX (fun i => some (Nat.mul i n, n)) zs ps with
      | some r => some (.agg r)
      | none => none
    | none => none
  | _, _ => none
theorem xbuild_ok {t : TypeId} {ps : List (Nat × XV)} {parts : Array (Nat × Value)} {y : XV} (hp : PtR β ps parts.toList) (hx : xbuild P t ps = some y) : RunV P w β (Instr.build t parts) y := by
  unfold xbuild at hx
  split at hx
  · rename_i zs fs hz hu
    obtain ⟨z, z1, z2, z3⟩ := zcells_run hz
    split at hx
    · rename_i pl hpl
      split at hx
      · rename_i r hr
        cases hx
        obtain ⟨us, q1, q2, q3⟩ := fillX_ok (vs := z.cells) hr hp (z2 β) z3
        have hr1 := run_places (P := P) w _ _ (placesX_run fs.toList hpl)
        refine ⟨.agg us, ?_, us, rfl, q2⟩
        have q1' : Instr.fill (fun x => pl[x]?) z.cells parts.toList = some us := q1
        simp [Instr.build, z1, run_und hu, Array.mapM_eq_mapM_toList, hr1]
        rw [q1']
        rfl
      · cases hx
    · cases hx
  · rename_i zs n e hz hu
    obtain ⟨z, z1, z2, z3⟩ := zcells_run hz
    split at hx
    · rename_i n hn
      split at hx
      · rename_i r hr
        cases hx
        obtain ⟨us, q1, q2, q3⟩ := fillX_ok (vs := z.cells) hr hp (z2 β) z3
        refine ⟨.agg us, ?_, us, rfl, q2⟩
        have q1' : Instr.fill (fun i => some (i * n, n)) z.cells parts.toList = some us := q1
        simp [Instr.build, z1, run_und hu, run_size hn]
        rw [q1']
        rfl
      · cases hx
    · cases hx
  · cases hx
/-! ### new variables, rows -/
theorem Tr.set_dense {α : Type} : ∀ (t : Tr α) (n : Nat) (v : α), (∀ i, i < n → ∃ x, t.get i = some x) → (t.set n v).get n = some v
  | .nil, n, v, hd => by
    cases n with
    | zero => rfl
    | succ n => obtain ⟨x, hx⟩ := hd 0 (by omega); cases hx
  | .node y l r, n, v, hd => by
    simp only [Tr.set_node, Tr.set_nil]
    split
    · rename_i e
      simp only [Tr.get_node, Tr.get_nil]
      rw [e]
    · rename_i e
      have e0 := beq_f e
      split
      · rename_i e1
        rw [Tr.ndL_eq]
        simp only [Tr.get_node, Tr.get_nil]
        rw [e]
        simp only
        rw [e1]
        have e1 : n % 2 = 1 := beq_t e1
        refine Tr.set_dense l (n / 2) v (fun i hi => ?_)
        obtain ⟨x, hx⟩ := hd (2 * i + 1) (by omega)
        refine ⟨x, ?_⟩
        simp only [Tr.get_node, Tr.get_nil] at hx
        have q1 : Nat.beq (2 * i + 1) 0 = false := by
          cases q : Nat.beq (2 * i + 1) 0 with
          | true => have := beq_t q; omega
          | false => rfl
        have q2 : Nat.beq (Nat.mod (2 * i + 1) 2) 1 = true := by
          have : Nat.mod (2 * i + 1) 2 = 1 := by show (2 * i + 1) % 2 = 1; omega
          rw [this]; rfl
        rw [q1] at hx
        simp only at hx
        rw [q2] at hx
        have q3 : Nat.div (2 * i + 1) 2 = i := by show (2 * i + 1) / 2 = i; omega
        rw [q3] at hx
        exact hx
      · rename_i e1
        rw [Tr.ndR_eq]
        simp only [Tr.get_node, Tr.get_nil]
        rw [e]
        simp only
        rw [e1]
        have e1 : n % 2 ≠ 1 := beq_f e1
        refine Tr.set_dense r (n / 2).pred v (fun i hi => ?_)
        rw [Nat.pred_eq_sub_one] at hi
        obtain ⟨x, hx⟩ := hd (2 * i + 2) (by omega)
        refine ⟨x, ?_⟩
        simp only [Tr.get_node, Tr.get_nil] at hx
        have q1 : Nat.beq (2 * i + 2) 0 = false := by
          cases q : Nat.beq (2 * i + 2) 0 with
          | true => have := beq_t q; omega
          | false => rfl
        have q2 : Nat.beq (Nat.mod (2 * i + 2) 2) 1 = false := by
          have : Nat.mod (2 * i + 2) 2 = 0 := by show (2 * i + 2) % 2 = 0; omega
          rw [this]; rfl
        rw [q1] at hx
        simp only at hx
        rw [q2] at hx
        have q3 : Nat.pred (Nat.div (2 * i + 2) 2) = i := by show ((2 * i + 2) / 2).pred = i; rw [Nat.pred_eq_sub_one]; omega
        rw [q3] at hx
        exact hx
theorem Tr.puts_dense {α : Type} : ∀ (xs : List α) (t : Tr α) (n : Nat), (∀ i, i < n → ∃ x, t.get i = some x) → ∀ i, i < n + xs.length → ∃ x, (t.puts n xs).get i = some x
  | [], t, n, hd, i, hi => hd i (by simpa using hi)
  | x :: xs, t, n, hd, i, hi => by
    refine Tr.puts_dense xs (t.set n x) (n + 1) (fun j hj => ?_) i (by simp at hi; omega)
    by_cases e : j = n
    · subst e; exact ⟨x, Tr.set_dense t j x hd⟩
    · rw [Tr.get_set_ne _ _ _ _ e]; exact hd j (by omega)
theorem frozen0 (n : Nat) : FrozenFree (0, 0) n := fun o _ => by
  show (decide (0 ≤ o) && decide (o < 0)) = false
  simp
/-- A row of cells is made. -/
theorem alloc_ok {s : Sem Value} {cs : List XV} {us : Array Value} {e : TypeId} {id : Nat} {x : XV} {v : Value} (hrun : s.run P w = .ok v { w with heap := w.heap.push (.cells us e (0, 0)) }) (hv : VRs β cs us.toList) (h1 : allOne cs = true)
    (hx : ∀ β' bi, β' id = some bi → bi.rb = w.heap.size → bi.base = 0 → bi.size = us.size → VR β' x v) : RunA P w β id s x (newX cs e true) := by
  refine ⟨v, _, hrun, ⟨⟨w.heap.size, 0, us.size⟩, rfl, fun k hk => push_ne w _ hk, by simp, push_below w _, fun β' hext hid => ⟨?_, hx β' _ hid rfl rfl rfl⟩⟩⟩
  refine br_new (us := us.toList) (push_at w _) rfl rfl (fun i u hu => by simpa using hu) (VRs.mono hext _ hv) h1 (fun i hi => ?_) (frozen0 _) (fun _ => by have := hv.length; show us.size = _; rw [← this]; simp)
  exact Tr.puts_dense cs .nil 0 (fun i hi => by omega) i (by omega)
/-- The row of cells that is made. -/
theorem newRow_ok {cs : List XV} {us : Array Value} {e : TypeId} {id : Nat} {x : XV} {mk : Addr → Value} (hv : VRs β cs us.toList) (h1 : allOne cs = true) (hx : ∀ β' bi, β' id = some bi → bi.base = 0 → bi.size = us.size → VR β' x (mk ⟨bi.rb, 0, none⟩)) :
    RunA P w β id (do pure (mk (← newRow e us))) x (newX cs e true) :=
  alloc_ok (v := mk ⟨w.heap.size, 0, none⟩) (by simp [newRow]) hv h1 (fun β' bi k1 k2 k3 k4 => k2 ▸ hx β' bi k1 k3 k4)
def xbox (id : Nat) (e : TypeId) (x : XV) : Option (XV × AO) :=
  match x.cells with
  | some cs => some (.ptr id 0, newX cs e true)
  | none => none
theorem xbox_ok {e : TypeId} {id : Nat} {x y : XV} {v : Value} {ob : AO} (hv : VR β x v) (hx : xbox id e x = some (y, ob)) : RunA P w β id (Instr.box e v) y ob := by
  unfold xbox at hx
  split at hx
  · rename_i cs hcs
    cases hx
    obtain ⟨k1, k2⟩ := VR.cells hv hcs
    have := newRow_ok (P := P) (w := w) (e := e) (id := id) (x := .ptr id 0) (mk := fun a => .pointer (some a)) k1 k2 (fun β' bi q1 q2 q3 => ⟨bi, q1, by rw [q2]⟩)
    exact this
  · cases hx
def xalloc (P : Program) (id : Nat) (e : TypeId) : Option (XV × AO) :=
  match zeroOf P e with
  | some z => xbox id e z
  | none => none
theorem xalloc_ok {e : TypeId} {id : Nat} {y : XV} {ob : AO} (hx : xalloc P id e = some (y, ob)) : RunA P w β id (Instr.alloc e true (.tuple #[])) y ob := by
  unfold xalloc at hx
  split at hx
  · rename_i z hz
    obtain ⟨z', h1, h2⟩ := run_zero hz
    obtain ⟨v, w', k1, k2⟩ := xbox_ok (P := P) (w := w) (β := β) (ofV_ok h1) hx
    refine ⟨v, w', ?_, k2⟩
    rw [← k1]
    simp [Instr.alloc, Instr.box, h2]
  · cases hx
/-- So many times the same cells. -/
def reps (zs : List XV) : Nat → List XV
  | 0 => []
  | n + 1 => zs ++ reps zs n
theorem reps_len (zs : List XV) : ∀ n, (reps zs n).length = n * zs.length
  | 0 => by simp [reps]
  | n + 1 => by simp [reps, reps_len zs n, Nat.add_mul]; omega
theorem reps_get (zs : List XV) : ∀ (n i : Nat), i < n * zs.length → (reps zs n)[i]? = zs[i % zs.length]?
  | 0, i, h => by omega
  | n + 1, i, h => by
    show (zs ++ reps zs n)[i]? = _
    rw [Nat.add_mul, Nat.one_mul] at h
    by_cases e : i < zs.length
    · rw [List.getElem?_append_left e, Nat.mod_eq_of_lt e]
    · rw [List.getElem?_append_right (by omega), reps_get zs n (i - zs.length) (by omega)]
      rw [← Nat.mod_eq_sub_mod (by omega)]
theorem allOne_reps {zs : List XV} (h : allOne zs = true) : ∀ n, allOne (reps zs n) = true
  | 0 => rfl
  | n + 1 => allOne_app h (allOne_reps h n)
theorem reps_rel {zs : List XV} {z : Array Value} (hz : VRs β zs z.toList) (n : Nat) : VRs β (reps zs n) ((Array.range (n * z.size)).map (z[· % z.size]!)).toList := by
  have hl := hz.length
  have hl' : z.size = zs.length := by rw [← hl]; simp
  refine VRs.of_get (by simp [reps_len, hl']) (fun i x v hx hv => ?_)
  have hi : i < n * zs.length := by
    have := (List.getElem?_eq_some_iff.1 hx).1
    rwa [reps_len] at this
  rw [reps_get zs n i hi] at hx
  obtain ⟨u, hu, hr⟩ := hz.get hx
  have hlt : i % z.size < z.size := by
    rw [hl']
    refine Nat.mod_lt _ ?_
    cases hz0 : zs.length with
    | zero => rw [hz0] at hi; omega
    | succ k => omega
  have : v = z[i % z.size]! := by
    rw [Array.getElem?_toList, Array.getElem?_map, Array.getElem?_range] at hv
    rw [if_pos (by rw [hl']; exact hi)] at hv
    simpa using hv.symm
  rw [this]
  rw [← hl', Array.getElem?_toList] at hu
  have : z[i % z.size]! = u := by
    rw [getElem!_pos z _ hlt]
    have := (Array.getElem?_eq_some_iff.1 hu).2
    exact this
  rw [this]
  exact hr
def xbuildSlice (P : Program) (id : Nat) (t : TypeId) (len : Nat) (ps : List (Nat × XV)) : Option (XV × AO) :=
  match P.underlying t with
  | some (.slice e) => match szOf P e, zcells P e with
    | some n, some zs => match Nat.beq n zs.length, Nat.beq n 0, Nat.ble (Nat.mul len n) 16777216 with
      | true, false, true => match fillX (fun i => some (Nat.mul i n, n)) (reps zs len) ps with
        | some r => match Nat.beq r.length (Nat.mul len n) with
          | true => some (.sl id 0 len len n true, newX r e true)
          | false => none
        | none => none
      | _, _, _ => none
    | _, _ => none
  | _ => none
theorem xbuildSlice_ok {t : TypeId} {len id : Nat} {ps : List (Nat × XV)} {parts : Array (Nat × Value)} {y : XV} {ob : AO} (hp : PtR β ps parts.toList) (hx : xbuildSlice P id t len ps = some (y, ob)) : RunA P w β id (Instr.buildSlice t len parts) y ob := by
  unfold xbuildSlice at hx
  split at hx
  · rename_i e hu
    split at hx
    · rename_i n zs hn hz
      obtain ⟨z, z1, z2, z3⟩ := zcells_run hz
      split at hx
      · rename_i e1 e2 e3
        have e1 := beq_t e1
        have e2 := beq_f e2
        have e3 : len * n ≤ 16777216 := Nat.le_of_ble_eq_true e3
        have hzl : z.cells.size = n := by have := (z2 β).length; rw [e1, ← this]; simp
        split at hx
        · rename_i r hr
          split at hx
          · rename_i e4
            have e4 : r.length = len * n := beq_t e4
            cases hx
            have hz0 : VRs β (reps zs len) ((Array.range (len * n)).map (fun i => (if len * n = 0 then #[] else z.cells)[i % (if len * n = 0 then (#[] : Array Value) else z.cells).size]!)).toList := by
              by_cases e0 : len * n = 0
              · have : len = 0 := by
                  rcases Nat.mul_eq_zero.1 e0 with q | q
                  · exact q
                  · exact absurd q e2
                subst this
                simp [reps, VRs]
              · rw [if_neg e0]
                exact hzl ▸ reps_rel (z2 β) len
            obtain ⟨us, q1, q2, q3⟩ := fillX_ok (β := β) hr hp hz0 (allOne_reps z3 _)
            have hus : us.size = len * n := by have := q2.length; rw [← e4, ← this]; simp
            obtain ⟨v, w', k1, k2⟩ := newRow_ok (P := P) (w := w) (e := e) (id := id) (x := .sl id 0 len len n true) (mk := fun a => .slice (some a) len len) q2 q3 (fun β' bi p1 p2 p3 => ⟨bi, p1, 0, len, rfl, Nat.le_refl _, Nat.le_refl _, fun _ => rfl, fun _ => ⟨by rw [p2], by rw [p3, hus]; omega⟩⟩)
            refine ⟨v, w', ?_, k2⟩
            rw [← k1]
            have c1 : ¬ (len * n > 2 ^ 24) := by
              show ¬ (16777216 < len * n)
              omega
            simp only [Instr.buildSlice, run_und hu, Sem.run_bind, Result.andThen_ok, run_size hn, if_neg c1, Sem.run_pure]
            by_cases e0 : len * n = 0
            · simp only [e0, if_true, Sem.run_bind, Sem.run_pure, Result.andThen_ok] at q1 ⊢
              have q1' : Instr.fill (fun i => some (i * n, n)) ((Array.range 0).map fun i => (#[] : Array Value)[i % (#[] : Array Value).size]!) parts.toList = some us := q1
              rw [q1']
              rfl
            · simp only [e0, if_false, Sem.run_bind, Sem.run_pure, Result.andThen_ok, z1] at q1 ⊢
              have q1' : Instr.fill (fun i => some (i * n, n)) ((Array.range (len * n)).map fun i => z.cells[i % z.cells.size]!) parts.toList = some us := q1
              rw [q1']
              rfl
          · cases hx
        · cases hx
      · cases hx
    · cases hx
  · cases hx
end
end
end Go.Proofs.YtohcohbbmjhnfaaGreatDoor.X
