/-
The logic of pure values, continued: lists made and appended to, calls. Condition: none.
-/
import Derived.Test.YtbjfmkmaghapgaaGreatDoorBOk5
set_option linter.unusedVariables false
set_option linter.unusedSimpArgs false
namespace Go.Proofs.YtbjfmkmaghapgaaGreatDoor.B
open Go.RowKit

section
variable {G : World → Prop} {P : Program} {τ : Tau} {Dr : Prop} {w0 : World} {E0 : Nat → Nat → Prop} {S0 : Nat → Nat → Prop} {N : Nat} {wr : Key → Bool} {g : Key → C} {a : Act} {w : World} {β : Nat → Nat} {S : Nat → Nat → Prop}
theorem fold_set {off : Nat} : ∀ (us : List Value) (j : Nat) (pre mid post : List Value), pre.length = off + j → mid.length = us.length →
    ((us.zipIdx j).foldl (fun (cs : Array Value) (c, j) => cs.setIfInBounds (off + j) c) (pre ++ mid ++ post).toArray) = (pre ++ us ++ post).toArray
  | [], j, pre, mid, post, _, hm => by
    have : mid = [] := List.eq_nil_of_length_eq_zero (by simpa using hm)
    subst this
    rfl
  | u :: us, j, pre, [], post, _, hm => by simp at hm
  | u :: us, j, pre, m :: mid, post, hp, hm => by
    have := fold_set (off := off) us (j + 1) (pre ++ [u]) mid post (by simp [hp]; omega) (by simpa using hm)
    rw [List.zipIdx_cons, List.foldl_cons]
    have e : (pre ++ (m :: mid) ++ post).toArray.setIfInBounds (off + j) u = (pre ++ [u] ++ mid ++ post).toArray := by
      rw [← hp, List.setIfInBounds_toArray]
      congr 1
      rw [List.append_assoc, List.set_append_right _ _ (Nat.le_refl _)]
      simp
    show List.foldl _ ((pre ++ (m :: mid) ++ post).toArray.setIfInBounds (off + j) u) _ = _
    rw [e, this]
    simp
theorem fill_seq {size : Nat} : ∀ (rows : List Value) (m : Nat) (pre mid : List Value), pre.length = m * size → mid.length = rows.length * size → (∀ v, v ∈ rows → v.cells.size = size) →
    Instr.fill (fun i => some (i * size, size)) (pre ++ mid).toArray ((List.range' m rows.length).zip rows) = some (pre ++ rows.flatMap (fun v => v.cells.toList)).toArray
  | [], m, pre, mid, _, hm, _ => by
    have : mid = [] := List.eq_nil_of_length_eq_zero (by simpa using hm)
    subst this
    simp [Instr.fill]
  | v :: rows, m, pre, mid, hp, hm, hr => by
    have hv := hr v (List.mem_cons_self ..)
    have hsz : mid.length = size + rows.length * size := by rw [hm, List.length_cons, Nat.add_mul, Nat.one_mul, Nat.add_comm]
    have hmid : mid = mid.take size ++ mid.drop size := (List.take_append_drop _ _).symm
    have hf := fold_set (off := m * size) v.cells.toList 0 pre (mid.take size) (mid.drop size) (by rw [hp]; rfl) (by simp [hv, hsz])
    have ih := fill_seq rows (m + 1) (pre ++ v.cells.toList) (mid.drop size) (by simp [hp, hv, Nat.add_mul]) (by simp [hsz]) (fun u hu => hr u (List.mem_cons_of_mem _ hu))
    rw [List.length_cons, List.range'_succ, List.zip_cons_cons]
    show (if (decide (v.cells.size ≠ size) || decide (m * size + v.cells.size > (pre ++ mid).toArray.size)) = true then none else Instr.fill _ (v.cells.zipIdx.foldl (fun cs (c, j) => cs.setIfInBounds (m * size + j) c) (pre ++ mid).toArray) _) = _
    have c1 : ¬ ((decide (v.cells.size ≠ size) || decide (m * size + v.cells.size > (pre ++ mid).toArray.size)) = true) := by
      simp [hv, hp, hsz]
    rw [if_neg c1, ← Array.foldl_toList, Array.toList_zipIdx]
    have e : (pre ++ mid).toArray = (pre ++ mid.take size ++ mid.drop size).toArray := by rw [List.append_assoc, ← hmid]
    rw [e, hf]
    rw [ih]
    simp
theorem flat_at {k : Nat} : ∀ (rows : List Value), (∀ v, v ∈ rows → v.cells.size = k) → ∀ (i j : Nat) v, rows[i]? = some v → j < k → (rows.flatMap (fun v => v.cells.toList))[i * k + j]? = v.cells[j]?
  | [], _, i, j, v, h, _ => by simp at h
  | u :: rows, hr, i, j, v, h, hj => by
    have hu := hr u (List.mem_cons_self ..)
    rw [List.flatMap_cons]
    cases i with
    | zero =>
      simp at h
      subst h
      rw [List.getElem?_append_left (by simp [hu]; omega)]
      simp
    | succ i =>
      rw [List.getElem?_append_right (by simp [hu, Nat.add_mul]; omega)]
      have := flat_at rows (fun v hv => hr v (List.mem_cons_of_mem _ hv)) i j v (by simpa using h) hj
      rw [← this]
      congr 1
      simp [hu, Nat.add_mul]
      omega
theorem flat_len {k : Nat} : ∀ (rows : List Value), (∀ v, v ∈ rows → v.cells.size = k) → (rows.flatMap (fun v => v.cells.toList)).length = rows.length * k
  | [], _ => by simp
  | u :: rows, hr => by
    rw [List.flatMap_cons, List.length_append, flat_len rows (fun v hv => hr v (List.mem_cons_of_mem _ hv))]
    simp [hr u (List.mem_cons_self ..), Nat.add_mul]
    omega
theorem rowsOf_some {k : Nat} : ∀ {ps : List PV} {xs : List (List PV)}, rowsOf k ps = some xs → xs.length = ps.length ∧ ∀ (i : Nat) r, xs[i]? = some r → r.length = k ∧ ∃ p cs, ps[i]? = some p ∧ cellsP p = some cs ∧ r = cs.map PV.n1 ∧ cs.length = k
  | [], xs, h => by cases h; exact ⟨rfl, fun i r hr => by simp at hr⟩
  | p :: ps, xs, h => by
    unfold rowsOf at h
    split at h
    · rename_i cs r hcs hr
      split at h
      · rename_i hk
        cases h
        obtain ⟨h1, h2⟩ := rowsOf_some hr
        refine ⟨by simp [h1], fun i q hq => ?_⟩
        cases i with
        | zero => simp at hq; subst hq; exact ⟨by simp [hk], p, cs, rfl, hcs, rfl, hk⟩
        | succ i => exact h2 i q (by simpa using hq)
      · cases h
    · cases h
section
variable {o : Oper} {K : Act → World → Prop} {Q : Exit → Act → World → Prop} {ws : List (Key × C)}
theorem finOwn {k : Nat} (hk0 : k ≠ 0) (hN : Next Dr w0 E0 S0 N wr g ws K) (hd : dstOK N o = true) {d : Tmp} (hdst : o.dst = some d) {p : PV} {e : TypeId} {n : Nat} {xs : List Value} {v : Value} {w' : World} {ws0 : List (Key × C)} {S' : Nat → Nat → Prop} {wr' : Key → Prop}
    (hrun : (execOp a.eval o).run P w = .ok (.value v) w') (h : Rel Dr w0 E0 S0 N wr' (upds g ws0) a w' β S') (hp : PtrOK (upds g ws0)) (hv : RepP S' w' v p) (hap : Apart w0 E0 (upds g ws0) a w' β S' v e k n xs)
    (hws : ws0 ++ [(.t d, ⟨.pv p, some (e, k), none⟩)] = ws) (hw : ∀ κ, wr' κ → WrP wr ws κ) : o.wp P a w K Q := by
  unfold Oper.wp
  rw [hrun]
  show K (a.put o.dst v) w'
  rw [hdst]
  have hdN : d < N := by unfold dstOK at hd; rw [hdst] at hd; simpa [Nat.blt_eq] using hd
  have h1 := h.put (c := ⟨.pv p, some (e, k), none⟩) hdN hv ((hap.free hk0).ownV _) (fun κ' e => by cases e) (wr' := WrP wr ws) hw (.inr (by rw [← hws]; simp [keysOf, keysOf_append]))
  have hp1 := ptrOK_upd (κ := .t d) (c := ⟨.pv p, some (e, k), none⟩) hp (fun i => by simp) (fun i e => by simp [FV.refs] at e)
  have hup : upd (upds g ws0) (.t d) ⟨.pv p, some (e, k), none⟩ = upds g ws := by rw [← hws, upds_append]; rfl
  rw [hup] at h1 hp1
  exact hN _ _ β S' h1 hp1
theorem own_notin (h : Rel Dr w0 E0 S0 N (fun κ => wr κ = true) g a w β S) {κ : Key} {v : Value} (hv : rv β a w κ = some v) : ¬ Blk (g κ).own v w.heap.size := fun hb => by
  have := blk_lt h hv hb
  omega
theorem buildSlice_ok (hτ : TauOK P τ) (t : TypeId) (len : Nat) (parts : Array (Nat × Operand)) (ho : o.op = .buildSlice t len parts) (h : Rel Dr w0 E0 S0 N (fun κ => wr κ = true) g a w β S) (hp : PtrOK g) (hd : dstOK N o = true) (hN : Next Dr w0 E0 S0 N wr g ws K)
    (he : vcT G P (opT P τ o) g wr (fun _ v => v = ws)) : o.wp P a w K Q := by
  simp only [opT, ho] at he
  obtain ⟨cs, he, hl, hc⟩ := opnds_ev hKt h he
  unfold tBuildSlice at he
  split at he
  · rename_i ti ps hti hps
    obtain ⟨z1, z2⟩ := parts_rel h hl hc hps
    have hu := hτ.u _ _ hti
    split at he
    · rename_i e hdesc
      rw [hdesc] at hu
      split at he
      · rename_i te hte
        split at he
        · rename_i hcond
          obtain ⟨his, hsz, hpos⟩ := hcond
          split at he
          · rename_i xs hxs
            split at he
            · rename_i hxl
              obtain ⟨q1, q2⟩ := rowsOf_some hxs
              -- the rows as values
              have hpl : ps.length = len := by rw [← q1, hxl]
              have hparts : parts.toList.length = len := by
                have := congrArg List.length his
                simpa using this
              have hrows : ∀ (i : Nat) v, (parts.toList.map fun x => a.eval x.2)[i]? = some v → ∃ p, ps[i]? = some p ∧ RepP S w v p := by
                intro i v hv
                have hi : i < len := by
                  have := (List.getElem?_eq_some_iff.1 hv).1
                  simpa [hparts] using this
                have hp' : ps[i]? = some ps[i] := List.getElem?_eq_getElem (by omega)
                refine ⟨_, hp', ?_⟩
                rw [List.getElem?_map] at hv
                cases hx : parts.toList[i]? with
                | none => rw [hx] at hv; cases hv
                | some x =>
                  rw [hx] at hv
                  simp only [Option.map_some, Option.some.injEq] at hv
                  subst hv
                  have := (z2 i (x.1, a.eval x.2) (x.1, ps[i]) (by simp only [Array.toList_map, List.getElem?_map, hx]; rfl) (by
                    rw [List.zip_eq_zipWith, List.getElem?_zipWith, List.getElem?_map, hx, hp']; rfl)).2
                  exact this
              have hcells : ∀ v, v ∈ (parts.toList.map fun x => a.eval x.2) → v.cells.size = te.size ∧ ∀ u, u ∈ v.cells → u.oneCell' = true := by
                intro v hv
                obtain ⟨i, hi, rfl⟩ := List.mem_iff_getElem.1 hv
                obtain ⟨p, hp1, hp2⟩ := hrows i _ (List.getElem?_eq_getElem hi)
                have hix : i < xs.length := by rw [q1]; exact (List.getElem?_eq_some_iff.1 hp1).1
                obtain ⟨_, p', cs', k1, k2, _, k4⟩ := q2 i _ (List.getElem?_eq_getElem hix)
                rw [hp1] at k1
                cases k1
                have := cellsP_cells hp2 k2
                exact ⟨by rw [this.1, k4], this.2.1⟩
              let rows := parts.toList.map fun x => a.eval x.2
              let flat := rows.flatMap (fun v => v.cells.toList)
              have hrl : rows.length = len := by simp [rows, hparts]
              have hfl : flat.length = len * te.size := by
                show (rows.flatMap _).length = _
                rw [flat_len rows (fun v hv => (hcells v hv).1), hrl]
              have hrun : (Instr.buildSlice t len (parts.map fun (i, x) => (i, a.eval x))).run P w = .ok (.slice (some ⟨w.heap.size, 0, none⟩) len len) (w.alloc (.cells flat.toArray e)) := by
                have hpt : (parts.map fun (i, x) => (i, a.eval x)).toList = (List.range' 0 rows.length).zip rows := by
                  rw [hrl, ← List.range_eq_range', ← his]
                  simp only [Array.toList_map, rows]
                  exact List.ext_getElem? (fun i => by
                    rw [List.zip_eq_zipWith, List.getElem?_zipWith, List.getElem?_map, List.getElem?_map, List.getElem?_map]
                    cases parts.toList[i]? <;> rfl)
                have hfill : ∀ zs : Array Value, Instr.fill (fun i => some (i * te.size, te.size)) ((Array.range (len * te.size)).map (zs[· % zs.size]!)) (parts.map fun (i, x) => (i, a.eval x)).toList = some flat.toArray := fun zs => by
                  have hf := fill_seq (size := te.size) rows 0 [] ((Array.range (len * te.size)).map (zs[· % zs.size]!)).toList (by simp) (by simp [hrl]) (fun v hv => (hcells v hv).1)
                  have e0 : ([] ++ ((Array.range (len * te.size)).map (zs[· % zs.size]!)).toList).toArray = (Array.range (len * te.size)).map (zs[· % zs.size]!) := by rw [List.nil_append, Array.toArray_toList]
                  rw [e0, ← hpt, List.nil_append] at hf
                  exact hf
                have hns : ¬ (len * te.size > 2 ^ 24) := by omega
                have hfill' : ∀ zs : Array Value, Instr.fill (fun i => some (i * te.size, te.size)) ((Array.range (len * te.size)).map (zs[· % zs.size]!)) (parts.map fun x => (x.fst, a.eval x.snd)).toList = some flat.toArray := hfill
                simp only [Instr.buildSlice, Sem.run_bind, run_underlying hu, run_sizeD hτ hte, Result.andThen_ok, if_neg hns, Sem.run_pure]
                by_cases h0 : len * te.size = 0
                · rw [if_pos h0]
                  simp only [Sem.run_bind, Sem.run_pure, Result.andThen_ok]
                  rw [hfill']
                  rfl
                · rw [if_neg h0]
                  simp only [Sem.run_bind, Sem.run_pure, Result.andThen_ok, run_zeroD hτ hte]
                  rw [hfill']
                  rfl
              have hlm : len ≤ maxLen := by
                have : len ≤ len * te.size := Nat.le_mul_of_pos_right _ hpos
                unfold maxLen
                omega
              -- the relation at the new world
              have hW : Below w.heap.size w (w.alloc (.cells flat.toArray e)) := (Below.refl _ _).alloc (Nat.le_refl _) _
              have hcell : ∀ q, (w.alloc (.cells flat.toArray e)).cell? ⟨w.heap.size, q, none⟩ = flat[q]? := fun q => by
                rw [World.cell?_alloc_at _ _ _ _ rfl]; simp
              have hrel := h.grow (S' := fun b q => S b q ∨ (b = w.heap.size ∧ q < len * te.size)) hW (fun _ => Nat.le_refl _) (fun b q hs => .inl hs) (fun b q hs => hs.imp id (fun e => by omega)) (fun b q hs => by
                rcases hs with hs | ⟨rfl, _⟩
                · have := h.sa b q hs; simp; omega
                · simp)
              have hrep : RepP (fun b q => S b q ∨ (b = w.heap.size ∧ q < len * te.size)) (w.alloc (.cells flat.toArray e)) (.slice (some ⟨w.heap.size, 0, none⟩) len len) (.sl xs) := by
                have := RepP.sl (S := fun b q => S b q ∨ (b = w.heap.size ∧ q < len * te.size)) (w := w.alloc (.cells flat.toArray e)) w.heap.size 0 te.size len xs (fun i j => (flat[i * te.size + j]?).getD undef)
                rw [hxl] at this
                have hat : ∀ i j, i < len → j < te.size → ∃ u p x, flat[i * te.size + j]? = some u ∧ u.oneCell' = true ∧ xs[i]? = some p ∧ p[j]? = some x ∧ RepP S w u x := by
                  intro i j hi hj
                  obtain ⟨v, hv⟩ : ∃ v, rows[i]? = some v := ⟨_, List.getElem?_eq_getElem (by omega)⟩
                  obtain ⟨p, hp1, hp2⟩ := hrows i v hv
                  have hix : i < xs.length := by omega
                  have hxg := List.getElem?_eq_getElem hix
                  obtain ⟨k0, p', cs', k1, k2, k3, k4⟩ := q2 i _ hxg
                  rw [hp1] at k1
                  cases k1
                  have hcc := cellsP_cells hp2 k2
                  have hjl : j < v.cells.size := by rw [hcc.1, k4]; exact hj
                  have hvj : v.cells[j]? = some v.cells[j] := Array.getElem?_eq_getElem hjl
                  have hcj : cs'[j]? = some (cs'[j]'(by omega)) := List.getElem?_eq_getElem (by omega)
                  refine ⟨v.cells[j], xs[i], (cs'[j]'(by omega)).n1, ?_, hcc.2.1 _ (Array.getElem_mem hjl), hxg, ?_, (hcc.2.2 j _ _ hvj hcj).nil1⟩
                  · rw [← hvj]
                    exact flat_at rows (fun v hv => (hcells v hv).1) i j v hv hj
                  · rw [k3, List.getElem?_map, hcj]; rfl
                refine this (Nat.le_refl _) (fun r hr => ?_) (fun i j hi hj => .inr ⟨rfl, ?_⟩) (fun i j hi hj => ?_) (fun i j r x hr hx => ?_)
                · obtain ⟨i, hi, rfl⟩ := List.mem_iff_getElem.1 hr
                  exact (q2 i _ (List.getElem?_eq_getElem hi)).1
                · have : (i + 1) * te.size ≤ len * te.size := Nat.mul_le_mul_right _ hi
                  rw [Nat.add_mul] at this
                  omega
                · obtain ⟨u, p, x, k1, k2, _⟩ := hat i j hi hj
                  rw [Nat.zero_add, hcell, k1]
                  exact ⟨rfl, k2⟩
                · have hi : i < len := by rw [← hxl]; exact (List.getElem?_eq_some_iff.1 hr).1
                  have hj : j < te.size := by
                    have := (q2 i r hr).1
                    rw [← this]
                    exact (List.getElem?_eq_some_iff.1 hx).1
                  obtain ⟨u, p, x', k1, k2, k3, k4, k5⟩ := hat i j hi hj
                  rw [hr] at k3
                  cases k3
                  rw [hx] at k4
                  cases k4
                  rw [k1]
                  exact k5.mono (fun b q hs => .inl hs) (fun b q hs => hW.cell (p := ⟨b, q, none⟩) (h.sa b q hs))
              have hown := World.ownsRow_lit (e := e) (size := te.size) w flat.toArray len (base := 0) (Nat.zero_le _) hlm (by simp [hfl])
              cases hdst : o.dst with
              | none =>
                rw [hdst] at he
                have hws : ([] : List (Key × C)) = ws := he
                subst hws
                unfold Oper.wp
                rw [show (execOp a.eval o).run P w = .ok (.value (.slice (some ⟨w.heap.size, 0, none⟩) len len)) (w.alloc (.cells flat.toArray e)) by simp only [execOp, ho, Sem.run_bind, hrun, Result.andThen_ok]; rfl]
                show K (a.put o.dst _) _
                rw [hdst]
                exact hN _ _ β _ (hrel.wider (fun κ hk => .inl hk)) hp
              | some d =>
                rw [hdst] at he
                have hws : [(Key.t d, (⟨.pv (.sl xs), some (e, te.size), none⟩ : C))] = ws := he
                refine finOwn (Nat.pos_iff_ne_zero.1 hpos) hN hd hdst (ws0 := []) (by simp only [execOp, ho, Sem.run_bind, hrun, Result.andThen_ok]; rfl) hrel hp hrep (xs := flat) (n := len) ?_ hws (fun κ hk => .inl hk)
                refine ⟨by simpa using hown, fun b hb => ?_⟩
                have hb' : b = w.heap.size := by simpa [Value.ownBlock] using hb.symm
                subst hb'
                refine ⟨fun q hs => ?_, ⟨.inr h.below.size, fun i hi e' => ?_⟩, fun κ' v' hr' hb' => ?_⟩
                · rcases hs with hs | ⟨_, hs⟩
                  · have := h.sa _ _ hs; omega
                  · exact hs
                · have := (h.al i hi).2.1
                  omega
                · have hrv : rv β a (w.alloc (.cells flat.toArray e)) κ' = rv β a w κ' := rv_same h (fun i hi o => hW.cell (p := ⟨β i, o, none⟩) (h.al i hi).2.1) (there_of_own h (blk_ne hb'))
                  rw [hrv] at hr'
                  exact own_notin h hr' hb'
            · exact he.elim
          · exact he.elim
        · exact he.elim
      · exact he.elim
    · exact he.elim
  · exact he.elim
end
end
end Go.Proofs.YtbjfmkmaghapgaaGreatDoor.B
