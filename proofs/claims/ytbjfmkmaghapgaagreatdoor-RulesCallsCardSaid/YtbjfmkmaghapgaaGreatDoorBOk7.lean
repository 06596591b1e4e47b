/-
The logic of pure values, continued: append, calls; every operation. Condition: none.
-/
import Derived.Test.YtbjfmkmaghapgaaGreatDoorBOkH
set_option linter.unusedVariables false
set_option linter.unusedSimpArgs false
namespace Go.Proofs.YtbjfmkmaghapgaaGreatDoor.B
open Go.RowKit

section
variable {G : World → Prop} {P : Program} {τ : Tau} {Dr : Prop} {w0 : World} {E0 : Nat → Nat → Prop} {S0 : Nat → Nat → Prop} {N : Nat} {wr : Key → Bool} {g : Key → C} {a : Act} {w : World} {β : Nat → Nat} {S : Nat → Nat → Prop}
section
variable {o : Oper} {K : Act → World → Prop} {Q : Exit → Act → World → Prop} {ws : List (Key × C)}
theorem len_ok (hτ : TauOK P τ) (c : Call) (x : Operand) (t : TypeId) (ho : o.op = .call c) (hb : c.callee = .builtin .len) (ha : c.args.toList = [x]) (ht : c.argTypes.toList = [t]) (h : Rel Dr w0 E0 S0 N (fun κ => wr κ = true) g a w β S) (hp : PtrOK g) (hd : dstOK N o = true) (hN : Next Dr w0 E0 S0 N wr g ws K)
    (he : vcT G P (opnd x fun cx => lenT o.dst τ t cx) g wr (fun _ v => v = ws)) : o.wp P a w K Q := by
  obtain ⟨cx, he, hv, _⟩ := opnd_ev hKt h he
  have ha' : c.args = #[x] := by rw [← Array.toArray_toList (xs := c.args), ha]
  have ht' : c.argTypes = #[t] := by rw [← Array.toArray_toList (xs := c.argTypes), ht]
  unfold lenT at he
  split at he
  · rename_i ti hti
    have hu := hτ.u _ _ hti
    split at he
    · rename_i e xs hdesc hcx
      rw [hdesc] at hu
      rw [hcx] at hv
      obtain ⟨A, cap, hx⟩ : ∃ A cap, a.eval x = .slice A xs.length cap := by
        rcases rep_sl hv with ⟨⟨A, q⟩, rfl⟩ | ⟨_, _, _, _, q, _⟩
        · exact ⟨_, _, q⟩
        · exact ⟨_, _, q⟩
      exact finWP hN hd (v := .int .i64 xs.length) (by simp [execOp, ho, resolve, hb, ha', ht', invoke, builtin, Builtin.len_, run_underlying hu, hx, goInt]) h hp (RepP.lit _ rfl) (num_ev he)
    · rename_i e hdesc hcx
      rw [hdesc] at hu
      rw [hcx] at hv
      have hx := rep_nil hv
      exact finWP hN hd (v := .int .i64 0) (by simp [execOp, ho, resolve, hb, ha', ht', invoke, builtin, Builtin.len_, run_underlying hu, hx, goInt]) h hp (RepP.lit _ rfl) he
    · rename_i e i k lo n hdesc hcx
      rw [hdesc] at hu
      rw [hcx] at hv
      obtain ⟨cap, off, _, hx, _⟩ := hv
      exact finWP hN hd (v := .int .i64 n) (by simp [execOp, ho, resolve, hb, ha', ht', invoke, builtin, Builtin.len_, run_underlying hu, hx, goInt]) h hp (RepP.lit _ rfl) (num_ev he)
    · rename_i s hdesc hcx
      rw [hdesc] at hu
      rw [hcx] at hv
      have hx := (rep_lit hv).1
      exact finWP hN hd (v := .int .i64 s.size) (by simp [execOp, ho, resolve, hb, ha', ht', invoke, builtin, Builtin.len_, run_underlying hu, hx, goInt]) h hp (RepP.lit _ rfl) (num_ev he)
    · rename_i n e hdesc
      rw [hdesc] at hu
      exact finWP hN hd (v := .int .i64 n) (by simp [execOp, ho, resolve, hb, ha', ht', invoke, builtin, Builtin.len_, run_underlying hu, goInt]) h hp (RepP.lit _ rfl) he
    · exact he.elim
  · exact he.elim
theorem maxMin_ok (mx : Bool) (c : Call) (x y : Operand) (ho : o.op = .call c) (hb : c.callee = .builtin (if mx = true then .max else .min)) (ha : c.args.toList = [x, y]) (h : Rel Dr w0 E0 S0 N (fun κ => wr κ = true) g a w β S) (hp : PtrOK g) (hd : dstOK N o = true) (hN : Next Dr w0 E0 S0 N wr g ws K)
    (he : vcT G P (opnd x fun cx => opnd y fun cy => tMaxMin o.dst mx cx cy) g wr (fun _ v => v = ws)) : o.wp P a w K Q := by
  obtain ⟨cx, he, hvx, _⟩ := opnd_ev hKt h he
  obtain ⟨cy, he, hvy, _⟩ := opnd_ev hKt h he
  have ha' : c.args = #[x, y] := by rw [← Array.toArray_toList (xs := c.args), ha]
  unfold tMaxMin at he
  split at he
  · rename_i k i k' j hcx hcy
    rw [hcx] at hvx
    rw [hcy] at hvy
    have hx := (rep_lit hvx).1
    have hy := (rep_lit hvy).1
    cases mx with
    | true => exact finWP hN hd (v := .int k (max i j)) (by
        have : (if i < j then j else i) = max i j := by split <;> omega
        simp [execOp, ho, resolve, hb, ha', invoke, builtin, Builtin.max_, Builtin.max2, hx, hy, this]) h hp (RepP.lit _ rfl) (num_ev he)
    | false => exact finWP hN hd (v := .int k (min i j)) (by
        have : (if j < i then j else i) = min i j := by split <;> omega
        simp [execOp, ho, resolve, hb, ha', invoke, builtin, Builtin.min_, Builtin.min2, hx, hy, this]) h hp (RepP.lit _ rfl) (num_ev he)
  · exact he.elim
/-! ### append -/
theorem cells_list {b off n : Nat} {R : Nat → Value → Prop} (h : ∀ q, q < n → ∃ c, w.cell? ⟨b, off + q, none⟩ = some c ∧ R q c) :
    ∃ cs : List Value, cs.length = n ∧ ∀ (q : Nat) u, cs[q]? = some u → w.cell? ⟨b, off + q, none⟩ = some u ∧ R q u := by
  refine ⟨(List.range n).map fun j => (w.cell? ⟨b, off + j, none⟩).getD undef, by simp, fun q u hu => ?_⟩
  rw [List.getElem?_map] at hu
  cases hr : (List.range n)[q]? with
  | none => rw [hr] at hu; cases hu
  | some j =>
    rw [hr] at hu
    obtain ⟨h1, h2⟩ := List.getElem?_eq_some_iff.1 hr
    simp at h1 h2
    subst h2
    obtain ⟨c, hc, hR⟩ := h q h1
    simp only [Option.map_some, Option.some.injEq] at hu
    rw [hc] at hu
    simp at hu
    subst hu
    exact ⟨hc, hR⟩
/-- The cells behind a list. -/
theorem list_cells {v : Value} {ys : List (List PV)} {k : Nat} (hpos : 0 < k) (hv : RepP S w v (.sl ys)) (hk : ∀ r, r ∈ ys → r.length = k) :
    (Nil0 v ∧ ys = []) ∨ ∃ (b off cap : Nat) (news : List Value), v = .slice (some ⟨b, off, none⟩) ys.length cap ∧ news.length = ys.length * k ∧ (∀ (j : Nat) u, news[j]? = some u → w.cell? ((⟨b, off, none⟩ : Addr).add j) = some u) ∧ (∀ u, u ∈ news → u.oneCell' = true) ∧
      ∀ (i j : Nat) r x, ys[i]? = some r → r[j]? = some x → ∃ u, news[i * k + j]? = some u ∧ RepP S w u x := by
  rcases rep_sl hv with q | ⟨b, off, k', cap, e, hcap, hk', hrows⟩
  · exact .inl q
  · right
    have hdiv : ∀ q, q < ys.length * k → q / k < ys.length ∧ q % k < k ∧ q = (q / k) * k + q % k := fun q hq => ⟨by rw [Nat.div_lt_iff_lt_mul hpos]; exact hq, Nat.mod_lt _ hpos, by rw [Nat.mul_comm]; exact (Nat.div_add_mod q k).symm⟩
    obtain ⟨news, h1, h2⟩ := cells_list (w := w) (b := b) (off := off) (n := ys.length * k) (R := fun q c => c.oneCell' = true ∧ ∀ r x, ys[q / k]? = some r → r[q % k]? = some x → RepP S w c x) (fun q hq => by
      obtain ⟨d1, d2, d3⟩ := hdiv q hq
      have hr := List.getElem?_eq_getElem d1
      have hlr := hk _ (List.getElem_mem d1)
      have hkk : k' = k := (hk' _ (List.getElem_mem d1)).symm.trans hlr
      have hx : (ys[q / k])[q % k]? = some ((ys[q / k])[q % k]'(by rw [hlr]; exact d2)) := List.getElem?_eq_getElem _
      obtain ⟨_, c, c1, c2, c3⟩ := hrows _ _ hr _ _ hx
      rw [hkk, Nat.add_assoc, ← d3] at c1
      refine ⟨c, c1, c3, fun r x hr' hx' => ?_⟩
      rw [hr] at hr'
      cases hr'
      rw [hx] at hx'
      cases hx'
      exact c2)
    refine ⟨b, off, cap, news, e, h1, fun j u hu => by rw [Addr.add_lit]; exact (h2 j u hu).1, fun u hu => ?_, fun i j r x hr hx => ?_⟩
    · obtain ⟨q, hq, rfl⟩ := List.mem_iff_getElem.1 hu
      exact (h2 q _ (List.getElem?_eq_getElem hq)).2.1
    · have hi := (List.getElem?_eq_some_iff.1 hr).1
      have hj : j < k := by rw [← hk r (List.mem_of_getElem? hr)]; exact (List.getElem?_eq_some_iff.1 hx).1
      have hq : i * k + j < ys.length * k := by
        have : (i + 1) * k ≤ ys.length * k := Nat.mul_le_mul_right _ hi
        rw [Nat.add_mul] at this
        omega
      have hq' : i * k + j < news.length := by omega
      refine ⟨news[i * k + j], List.getElem?_eq_getElem hq', ?_⟩
      have hd1 : (i * k + j) / k = i := by rw [Nat.mul_comm, Nat.mul_add_div hpos, Nat.div_eq_of_lt hj, Nat.add_zero]
      have hd2 : (i * k + j) % k = j := by rw [Nat.mul_comm, Nat.mul_add_mod, Nat.mod_eq_of_lt hj]
      have := (h2 _ _ (List.getElem?_eq_getElem hq')).2.2 r x (by rw [hd1]; exact hr) (by rw [hd2]; exact hx)
      exact this
theorem app_fin (hτ : TauOK P τ) (c : Call) (x y : Operand) (t e : TypeId) (ti te : TI) (ho : o.op = .call c) (hb : c.callee = .builtin .append) (ha : c.args.toList = [x, y]) (ht : c.argTypes.toList = [t, t])
    (hti : τ t = some ti) (hdesc : ti.desc = .slice e) (hte : τ e = some te) (hpos : te.size ≠ 0) (hbp : te.bytes ≠ 0)
    {ws0 : List (Key × C)} (h : Rel Dr w0 E0 S0 N (fun κ => wr κ = true) (upds g ws0) a w β S) (hp : PtrOK (upds g ws0)) (hd : dstOK N o = true) (hN : Next Dr w0 E0 S0 N wr g ws K)
    {xs ys : List (List PV)} {n : Nat} {xsv : List Value} (hap : Apart w0 E0 (upds g ws0) a w β S (a.eval x) e te.size n xsv) (hvx : RepP S w (a.eval x) (.sl xs)) (hvy : RepP S w (a.eval y) (.sl ys))
    (he : vcT G P (appT o.dst te.size te.bytes e xs ys ws0) g wr (fun _ v => v = ws)) : o.wp P a w K Q := by
  obtain ⟨⟨hbytes, hkx, hky⟩, he⟩ := he
  have hu := hτ.u _ _ hti
  rw [hdesc] at hu
  obtain ⟨i, hi1, hi2, hi3, hi4⟩ := hτ.i _ _ hte
  have hk : 0 < te.size := Nat.pos_of_ne_zero hpos
  have ha' : c.args = #[x, y] := by rw [← Array.toArray_toList (xs := c.args), ha]
  have ht' : c.argTypes = #[t, t] := by rw [← Array.toArray_toList (xs := c.argTypes), ht]
  have hn : n = xs.length := by
    rcases rep_sl hvx with ⟨⟨A, q⟩, rfl⟩ | ⟨b, off, k', cap, q, _⟩
    · rcases hap.1.2 with ⟨_, q2⟩ | ⟨_, _, _, q2, _⟩
      · exact q2
      · rw [q] at q2; cases q2; rfl
    · rcases hap.1.2 with ⟨q2, _⟩ | ⟨_, _, _, q2, _⟩
      · rw [q] at q2; cases q2
      · rw [q] at q2; cases q2; rfl
  subst hn
  have hlen63 : xs.length + ys.length ≤ maxLen := by
    have h1 : xs.length + ys.length ≤ (xs.length + ys.length) * te.bytes := Nat.le_mul_of_pos_right _ (Nat.pos_of_ne_zero hbp)
    unfold maxLen
    omega
  obtain ⟨news, hnl, hn1, hnx, hnr⟩ : ∃ news : List Value, news.length = ys.length * te.size ∧ (∀ u ∈ news, u.oneCell' = true) ∧ ((a.eval y = .slice none 0 0 ∧ ys.length = 0) ∨ ∃ ad c, a.eval y = .slice (some ad) ys.length c ∧ ∀ (j : Nat) u, news[j]? = some u → w.cell? (ad.add j) = some u) ∧
      ∀ (i j : Nat) r x, ys[i]? = some r → r[j]? = some x → ∃ u, news[i * te.size + j]? = some u ∧ RepP S w u x := by
    rcases list_cells hk hvy hky with ⟨q, rfl⟩ | ⟨b, off, cap, news, q1, q2, q3, q4, q5⟩
    · obtain ⟨A, q⟩ := q
      refine ⟨[], by simp, by simp, ?_, fun i j r x hr => by simp at hr⟩
      cases A with
      | none => exact .inl ⟨q, rfl⟩
      | some ad => exact .inr ⟨ad, 0, q, fun j u hu => by simp at hu⟩
    · exact ⟨news, q2, q4, .inr ⟨⟨b, off, none⟩, cap, q1, q3⟩, q5⟩
  obtain ⟨v', w', r1, r2, r3⟩ := append_run (P := P) w 0 t o.type e i te.zero te.size te.bytes hu hi1 hi4 hi2 hi3 (hτ.z _ _ hte).1 (a.eval x) xs.length xsv hap.1 (a.eval y) ys.length news hnl hn1 hnx hlen63 hbytes (Nat.zero_le _)
  obtain ⟨S', s1, s2, s3, s4, s5⟩ := h.append hap r2 (fun _ => run_ok_drawn r1) r3
  have hrun : (execOp a.eval o).run P w = .ok (.value v') w' := by
    simp [execOp, ho, resolve, hb, ha', ht', invoke, builtin, r1]
  -- the rows of the left list, by its cells
  have hxr : ∀ (i j : Nat) r x', xs[i]? = some r → r[j]? = some x' → ∃ u, xsv[i * te.size + j]? = some u ∧ RepP S w u x' := by
    intro i j r x' hr hx'
    have hi := (List.getElem?_eq_some_iff.1 hr).1
    have hj : j < te.size := by rw [← hkx r (List.mem_of_getElem? hr)]; exact (List.getElem?_eq_some_iff.1 hx').1
    have hq : i * te.size + j < xsv.length := by
      rw [hap.1.1]
      have : (i + 1) * te.size ≤ xs.length * te.size := Nat.mul_le_mul_right _ hi
      rw [Nat.add_mul] at this
      omega
    refine ⟨xsv[i * te.size + j], List.getElem?_eq_getElem hq, ?_⟩
    rcases rep_sl hvx with ⟨q, e'⟩ | ⟨b, off, k', cap, q, _, hk', hrows⟩
    · subst e'; simp at hr
    · rcases hap.1.2 with ⟨q2, _⟩ | ⟨b', cap', cur, q2, _⟩
      · rw [q] at q2; cases q2
      · rw [q] at q2
        cases q2
        have hkk : k' = te.size := (hk' r (List.mem_of_getElem? hr)).symm.trans (hkx r (List.mem_of_getElem? hr))
        obtain ⟨_, c', c1, c2, _⟩ := hrows i r hr j x' hx'
        have c3 := hap.1.cells (g := b) (by rw [q]; rfl) _ _ (List.getElem?_eq_getElem hq)
        rw [Addr.add_lit] at c3
        rw [hkk, Nat.add_assoc, c3] at c1
        cases c1
        exact c2
  have hrep : RepP S' w' v' (.sl (xs ++ ys)) := by
    rcases r2.2 with ⟨q, q0⟩ | ⟨b, cap, cur, q, _, _, hcap, _⟩
    · have : xs ++ ys = [] := List.eq_nil_of_length_eq_zero (by rw [List.length_append]; exact q0)
      rw [q, this]
      exact .nil' _
    · have hob : v'.ownBlock = some b := by rw [q]; rfl
      have hall : ∀ (i j : Nat) r x', (xs ++ ys)[i]? = some r → r[j]? = some x' → ∃ u, (xsv ++ news)[i * te.size + j]? = some u ∧ RepP S' w' u x' := by
        intro i j r x' hr hx'
        by_cases hi : i < xs.length
        · rw [List.getElem?_append_left hi] at hr
          obtain ⟨u, k1, k2⟩ := hxr i j r x' hr hx'
          exact ⟨u, by rw [List.getElem?_append_left (List.getElem?_eq_some_iff.1 k1).1]; exact k1, k2.mono s1 s2⟩
        · rw [List.getElem?_append_right (by omega)] at hr
          obtain ⟨u, k1, k2⟩ := hnr _ j r x' hr hx'
          refine ⟨u, ?_, k2.mono s1 s2⟩
          rw [List.getElem?_append_right (by
            rw [hap.1.1]
            have : xs.length * te.size ≤ i * te.size := Nat.mul_le_mul_right _ (by omega)
            omega)]
          rw [← k1]
          congr 1
          rw [hap.1.1, Nat.sub_mul]
          have : xs.length * te.size ≤ i * te.size := Nat.mul_le_mul_right _ (by omega)
          omega
      have hkall : ∀ r, r ∈ xs ++ ys → r.length = te.size := fun r hr => (List.mem_append.1 hr).elim (hkx r) (hky r)
      have hidx : ∀ (i j : Nat), i < (xs ++ ys).length → j < te.size → i * te.size + j < (xs.length + ys.length) * te.size := fun i j hi hj => by
        have : (i + 1) * te.size ≤ (xs.length + ys.length) * te.size := Nat.mul_le_mul_right _ (by rw [List.length_append] at hi; omega)
        rw [Nat.add_mul] at this
        omega
      have hcell : ∀ (q : Nat) u, (xsv ++ news)[q]? = some u → w'.cell? ⟨b, 0 + q, none⟩ = some u := fun q u hu => by
        have := r2.cells hob q u hu
        rwa [Addr.add_lit] at this
      rw [q]
      have := RepP.sl (S := S') (w := w') b 0 te.size cap (xs ++ ys) (fun i j => ((xsv ++ news)[i * te.size + j]?).getD undef)
      rw [List.length_append] at this
      refine this hcap hkall (fun i j hi hj => ?_) (fun i j hi hj => ?_) (fun i j r x' hr hx' => ?_)
      · rw [Nat.zero_add]
        exact s3 b _ hob (hidx i j (by simpa using hi) hj)
      · have hi' : i < (xs ++ ys).length := by simpa using hi
        have hlt : i * te.size + j < (xsv ++ news).length := by
          rw [List.length_append, hap.1.1, hnl, ← Nat.add_mul]
          exact hidx i j hi' hj
        have hgu := List.getElem?_eq_getElem hlt
        have hc := hcell _ _ hgu
        rw [← Nat.add_assoc] at hc
        rw [hgu]
        refine ⟨hc, ?_⟩
        show ((xsv ++ news)[i * te.size + j]).oneCell' = true
        obtain ⟨r, hr⟩ : ∃ r, (xs ++ ys)[i]? = some r := ⟨_, List.getElem?_eq_getElem hi'⟩
        have hrl := hkall r (List.mem_of_getElem? hr)
        by_cases hi2 : i < xs.length
        · rw [List.getElem?_append_left hi2] at hr
          rcases rep_sl hvx with ⟨_, e'⟩ | ⟨b2, off, k', cap2, q2, _, hk', hrows⟩
          · subst e'; simp at hi2
          · have hkk : k' = te.size := (hk' r (List.mem_of_getElem? hr)).symm.trans (hkx r (List.mem_of_getElem? hr))
            obtain ⟨_, c', c1, _, c3⟩ := hrows i r hr j _ (List.getElem?_eq_getElem (by omega))
            have hb2 : (a.eval x).ownBlock = some b2 := by rw [q2]; rfl
            have hlx : i * te.size + j < xsv.length := by
              rw [hap.1.1]
              have : (i + 1) * te.size ≤ xs.length * te.size := Nat.mul_le_mul_right _ hi2
              rw [Nat.add_mul] at this
              omega
            have c4 := hap.1.cells hb2 _ _ (List.getElem?_eq_getElem hlx)
            rcases hap.1.2 with ⟨q3, _⟩ | ⟨_, _, _, q3, _⟩
            · rw [q2] at q3; cases q3
            · rw [q2] at q3
              cases q3
              rw [Addr.add_lit] at c4
              rw [hkk, Nat.add_assoc, c4] at c1
              cases c1
              rw [List.getElem_append_left hlx]
              exact c3
        · refine hn1 _ ?_
          have hge : xsv.length ≤ i * te.size + j := by
            rw [hap.1.1]
            have : xs.length * te.size ≤ i * te.size := Nat.mul_le_mul_right _ (by omega)
            omega
          rw [List.getElem_append_right hge]
          exact List.getElem_mem _
      · obtain ⟨u, k1, k2⟩ := hall i j r x' hr hx'
        show RepP S' w' (((xsv ++ news)[i * te.size + j]?).getD undef) x'
        rw [k1]
        exact k2
  cases hdst : o.dst with
  | none => rw [hdst] at he; exact he.elim
  | some d =>
    rw [hdst] at he
    have hws : ws0 ++ [(Key.t d, (⟨.pv (.sl (xs ++ ys)), some (e, te.size), none⟩ : C))] = ws := list_ev he
    exact finOwn hpos hN hd hdst hrun s4 hp hrep s5 hws (fun κ hk => .inl hk)
theorem apart_drop (h : Rel Dr w0 E0 S0 N (fun κ => wr κ = true) g a w β S) {κ : Key} {e : TypeId} {k : Nat} (hk : k ≠ 0) (ho : (g κ).own = some (e, k)) {v : Value} (hv : rv β a w κ = some v) :
    ∃ n xs, Apart w0 E0 (upd g κ { g κ with own := none }) a w β S v e k n xs := by
  obtain ⟨v', k1, k2⟩ := h.dropF κ ho
  rw [hv] at k1
  cases k1
  exact k2.apart hk
theorem append_ok (hτ : TauOK P τ) (c : Call) (x y : Operand) (t : TypeId) (ho : o.op = .call c) (hb : c.callee = .builtin .append) (ha : c.args.toList = [x, y]) (ht : c.argTypes.toList = [t, t]) (h : Rel Dr w0 E0 S0 N (fun κ => wr κ = true) g a w β S) (hp : PtrOK g) (hd : dstOK N o = true) (hN : Next Dr w0 E0 S0 N wr g ws K)
    (he : vcT G P (opnd x fun cx => opnd y fun cy => tAppend τ o.dst t x cx cy) g wr (fun _ v => v = ws)) : o.wp P a w K Q := by
  obtain ⟨cx, he, hvx, hcx⟩ := opnd_ev hKt h he
  obtain ⟨cy, he, hvy, hcy⟩ := opnd_ev hKt h he
  unfold tAppend at he
  split at he
  · rename_i ti hti
    split at he
    · rename_i e hdesc
      split at he
      · rename_i te hte
        split at he
        · exact he.elim
        · rename_i hpos
          split at he
          · exact he.elim
          · rename_i hbp
            split at he
            · exact he.elim
            · rename_i ys hys
              have hvy' : RepP S w (a.eval y) (.sl ys) := by
                cases hq : cy.v with
                | pv p =>
                  rw [hq] at hys hvy
                  cases p with
                  | sl zs => cases hys; exact hvy
                  | nil =>
                    cases hys
                    have hvy2 : RepP S w (a.eval y) .nil := hvy
                    rw [rep_nil hvy2]
                    exact .nil' _
                  | _ => cases hys
                | _ => rw [hq] at hys; cases hys
              split at he
              · rename_i hcxv
                rw [hcxv] at hvx
                have hx := rep_nil hvx
                refine app_fin hτ c x y t e ti te ho hb ha ht hti hdesc hte hpos hbp (ws0 := []) h hp hd hN (n := 0) (xsv := []) ⟨by rw [hx]; exact World.ownsRow_nil _ _ _ _, fun b hb' => by rw [hx] at hb'; cases hb'⟩ (by rw [hx]; exact .nil' _) hvy' he
              · rename_i xs hcxv
                rw [hcxv] at hvx
                split at he
                · exact he.elim
                · rename_i kx hkx
                  cases x with
                  | tmp tx =>
                    cases hkx
                    have hcx' : cx = g (.t tx) := hcx
                    split at he
                    · rename_i e' k' hown
                      split at he
                      · rename_i hek
                        obtain ⟨rfl, rfl⟩ := hek
                        have ho' : (g (.t tx)).own = some (e', te.size) := by rw [← hcx']; exact hown
                        obtain ⟨n, xsv, hap⟩ := apart_drop h hpos ho' (v := a.eval (.tmp tx)) rfl
                        have h1 := h.drop (.t tx) (fun i => by simp)
                        have e1 : upd g (.t tx) { g (.t tx) with own := none } = upds g [(.t tx, ⟨cx.v, none, cx.frm⟩)] := by rw [← hcx']; rfl
                        rw [e1] at h1 hap
                        exact app_fin hτ c _ y t e' ti te ho hb ha ht hti hdesc hte hpos hbp h1 (ptrOK_upd hp (fun i => by simp) (ptr_live (c := cx) h hp hcx)) hd hN hap hvx hvy' he
                      · exact he.elim
                    · split at he
                      · exact he.elim
                      · rename_i kf hfrm
                        obtain ⟨hwr, he⟩ := he
                        split at he
                        · rename_i e' k' hown
                          split at he
                          · rename_i hek
                            obtain ⟨rfl, rfl⟩ := hek
                            have hf : (g (.t tx)).frm = some kf := by rw [← hcx']; exact hfrm
                            obtain ⟨q1, q2⟩ := h.frm tx kf hf (by simp [hwr])
                            obtain ⟨n, xsv, hap⟩ := apart_drop h hpos hown (v := a.eval (.tmp tx)) (by rw [← q1]; rfl)
                            have hκ : ∀ i, kf ≠ .al i := fun i e' => by subst e'; cases q1
                            have h1 := h.drop kf hκ
                            have e1 : upd g kf { g kf with own := none } = upds g [(kf, ⟨(g kf).v, none, (g kf).frm⟩)] := rfl
                            rw [e1] at h1 hap
                            exact app_fin hτ c _ y t e' ti te ho hb ha ht hti hdesc hte hpos hbp h1 (ptrOK_upd hp hκ (fun i e => hp _ _ e)) hd hN hap hvx hvy' he
                          · exact he.elim
                        · exact he.elim
                  | _ => cases hkx
              · exact he.elim
      · exact he.elim
    · exact he.elim
  · exact he.elim
/-! ### calls -/
theorem acall_ok (hG : GOK Dr E0 w0 G) {fid : FuncId} {vs : Array Value} {ps : List PV} (h : Rel Dr w0 E0 S0 N (fun κ => wr κ = true) g a w β S) (hp : PtrOK g) (hd : dstOK N o = true) (hN : Next Dr w0 E0 S0 N wr g ws K)
    (hrep : RepL S w vs ps) (hrun : ∀ fn, P.funcs[fid]? = some fn → (fn.name == "runtime.NumGoroutine") = false → fn.body.isSome = true → (execOp a.eval o).run P w = .ok (.enter fid vs) w)
    (he : vcT G P (.call fid ps fun res ow => W o.dst ⟨.pv res, ow, none⟩) g wr (fun _ v => v = ws)) : o.wp P a w K Q := by
  obtain ⟨res, ow, ⟨⟨fn, hfn, hname, hbody⟩, hcall⟩, he⟩ := he
  have hC := hcall w S vs (hG.all w h.below) h.sa hrep
  unfold Oper.wp
  rw [hrun fn hfn hname hbody]
  show Calls P fid _ w _
  refine hC.mono ?_
  rintro e w' ⟨v, S', rfl, hbel, _, s1, s2, s3, hrv, hown, hdn⟩
  have hrel := h.grow hbel (fun d => hdn (hG.dr d)) s1 s2 s3
  show K (a.put o.dst v) w'
  cases hdst : o.dst with
  | none =>
    rw [hdst] at he
    have hws : ([] : List (Key × C)) = ws := he
    subst hws
    exact hN _ _ β S' (hrel.wider (fun κ hk => .inl hk)) hp
  | some d =>
    rw [hdst] at he
    have hws : [(Key.t d, (⟨.pv res, ow, none⟩ : C))] = ws := he
    subst hws
    have hdN : d < N := by unfold dstOK at hd; rw [hdst] at hd; simpa [Nat.blt_eq] using hd
    refine hN _ _ β S' (hrel.put (c := ⟨.pv res, ow, none⟩) hdN hrv ?_ (fun κ' e => by cases e) (fun κ hk => .inl hk) (.inr (by simp [keysOf]))) (ptrOK_upd hp (fun i => by simp) (fun i e => by simp [FV.refs] at e))
    intro p hek
    subst hek
    have hsz0 := h.below.size
    refine OwsL.imp (show OwsL _ _ _ _ from hown) (fun b hb' hge => ⟨⟨.inr (by omega), fun i hi e' => ?_⟩, fun κ' v' _ hr' hb2 => ?_⟩)
    · have := (h.al i hi).2.1
      omega
    · have hrv' : rv β a w' κ' = rv β a w κ' := rv_same h (fun i hi o => hbel.cell (p := ⟨β i, o, none⟩) (h.al i hi).2.1) (there_of_own h (blk_ne hb2))
      rw [hrv'] at hr'
      have := blk_lt h hr' hb2
      omega
theorem litsC_rep : ∀ {vs : List Value} {cs : List CV}, litsC vs = some cs → RepC β S w vs cs
  | [], cs, h => by cases h; trivial
  | v :: vs, cs, h => by
    unfold litsC at h
    split at h
    · rename_i r h1 h2
      cases h
      exact ⟨cellP_rep v h1, litsC_rep h2⟩
    · cases h
theorem callee_spec {v : Value} {x : FV} {fid : FuncId} {cs : List CV} (hv : RepF β S w v x) (h : tCallee x = some (fid, cs)) : ∃ caps : List Value, v = .func (.func fid) #[] caps.toArray ∧ RepC β S w caps cs := by
  unfold tCallee at h
  split at h
  · rename_i f first cap
    split at h
    · rename_i r h1 h2
      cases h
      have hx := (rep_lit hv).1
      have e1 : first = #[] := by rw [← Array.toArray_toList (xs := first), h1]
      subst e1
      exact ⟨cap.toList, by rw [hx, Array.toArray_toList], litsC_rep h2⟩
    · cases h
  · cases h; exact hv
  · cases h
theorem appF_eq : ∀ (xs ys : List FV), appF xs ys = xs ++ ys
  | [], ys => rfl
  | x :: xs, ys => by show x :: appF xs ys = _; rw [appF_eq xs ys]; rfl
theorem fvs_eq : ∀ (cs : List C), fvs cs = cs.map C.v
  | [] => rfl
  | c :: cs => by show c.v :: fvs cs = _; rw [fvs_eq cs]; rfl
theorem fvsC_eq : ∀ (cs : List CV), fvsC cs = cs.map CV.fv
  | [] => rfl
  | c :: cs => by show c.fv :: fvsC cs = _; rw [fvsC_eq cs]; rfl
theorem repC_len : ∀ {vs : List Value} {cs : List CV}, RepC β S w vs cs → vs.length = cs.length
  | [], [], _ => rfl
  | [], _ :: _, h => h.elim
  | _ :: _, [], h => h.elim
  | v :: vs, c :: cs, h => by simp [repC_len h.2]
theorem pvsF_spec : ∀ {xs : List FV} {ps : List PV}, pvsF xs = some ps → ps.length = xs.length ∧ ∀ (i : Nat) x p, xs[i]? = some x → ps[i]? = some p → x = .pv p
  | [], ps, h => by cases h; exact ⟨rfl, fun i x p hx => by simp at hx⟩
  | y :: xs, ps, h => by
    unfold pvsF at h
    split at h
    · rename_i q r h1
      cases h
      obtain ⟨h2, h3⟩ := pvsF_spec h1
      refine ⟨by simp [h2], fun i x p hx hp => ?_⟩
      cases i with
      | zero => simp at hx hp; subst hx; subst hp; rfl
      | succ i => exact h3 i x p (by simpa using hx) (by simpa using hp)
    · cases h
theorem normP_at : ∀ {ps : List PV} {i : Nat}, (normP ps)[i]? = (ps[i]?).map PV.norm
  | [], i => by simp [normP]
  | p :: ps, 0 => by simp [normP]
  | p :: ps, i + 1 => by simpa [normP] using normP_at
theorem normP_len : ∀ {ps : List PV}, (normP ps).length = ps.length
  | [] => rfl
  | p :: ps => by simp [normP, normP_len]
theorem parts_nilv' {p : TypeId × Nat} {q : Part} (h : q ∈ partsO p (.slice none 0 0)) : q = (p.1, p.2, .slice none 0 0) := by
  unfold partsO at h
  split at h
  · simp at h
  · simpa using h
theorem nilCut {vs : Array Value} {ps : List PV} (hr : ∀ (i : Nat) u x, vs[i]? = some u → ps[i]? = some x → RepP S w u x) : ∀ (l : List (Nat × TypeId × Nat)), nilParts ps l = true → ∀ q, q ∈ cutO vs l → q.2.2 = .slice none 0 0
  | [], _, q, hq => by simp [cutO] at hq
  | (o, e, k) :: r, h, q, hq => by
    unfold nilParts at h
    rw [Bool.and_eq_true] at h
    have ih := nilCut hr r h.2
    have hq' : q ∈ (match vs[o]? with | some u => (e, k, u) :: cutO vs r | none => cutO vs r) := hq
    split at hq'
    · rename_i u hu
      rcases List.mem_cons.1 hq' with e1 | hq'
      · subst e1
        have h1 := h.1
        split at h1
        · rename_i hps
          exact rep_nil (hr o u _ hu hps)
        · cases h1
      · exact ih q hq'
    · exact ih q hq'
theorem nilArg_ok {p : TypeId × Nat} {v : Value} {x : FV} (hv : RepF β S w v x) (h : nilArg p x = true) : ∀ q, q ∈ partsO p v → q.2.2 = .slice none 0 0 := by
  unfold nilArg at h
  split at h
  · have hv' : RepP S w v .nil := hv
    intro q hq
    rw [rep_nil hv'] at hq
    rw [parts_nilv' hq]
  · rename_i ps
    obtain ⟨vs, rfl, _, _, h3⟩ := rep_agg (show RepP S w v (.agg ps) from hv)
    split at h
    · rename_i hp
      intro q hq
      unfold partsO at hq
      rw [if_pos hp] at hq
      exact nilCut h3 _ h q hq
    · cases h
  · cases h
theorem owsL_nils {H : Nat → Prop} {A B : List Part} (hA : ∀ q, q ∈ A → q.2.2 = .slice none 0 0) (hB : OwsL H w S B) : OwsL H w S (A ++ B) := by
  have hno : ∀ q, q ∈ A → ∀ b, q.2.2.ownBlock ≠ some b := fun q hq b hb => by rw [hA q hq] at hb; cases hb
  refine OwsL.append ⟨fun q hq => ⟨⟨0, [], by rw [hA q hq]; exact World.ownsRow_nil _ _ _ _, fun b hb => absurd hb (hno q hq b)⟩, fun b hb => absurd hb (hno q hq b)⟩, ?_⟩ hB (fun b ⟨q, hq, hb⟩ => absurd hb (hno q hq b))
  exact List.Pairwise.imp_of_mem (fun hq _ _ b hb => absurd hb (hno _ hq b)) (List.pairwise_of_forall (R := fun _ _ => True) (fun _ _ => trivial))
/-- What is handed over for good is no key's any more. -/
theorem giveA_ok (h : Rel Dr w0 E0 S0 N (fun κ => wr κ = true) g a w β S) (hp : PtrOK g) : ∀ (xs : List Operand) (cs : List C) (oin : List Own) {cw : List (Key × C)}, giveA xs cs oin = some cw →
    (∀ (i : Nat) x c, xs[i]? = some x → cs[i]? = some c → RepF β S w (a.eval x) c.v ∧ OpndC g x c) →
    Rel Dr w0 E0 S0 N (fun κ => wr κ = true) (upds g cw) a w β S ∧ PtrOK (upds g cw) ∧ FreeL w0 E0 (upds g cw) a w β S (partsL oin (xs.map a.eval)) ∧ ∀ κ, (upds g cw κ).v = (g κ).v
  | [], [], oin, cw, e, _ => by
    cases e
    exact ⟨h, hp, by cases oin with | nil => exact OwsL.nil | cons o r => cases o <;> exact OwsL.nil, fun κ => rfl⟩
  | x :: xs, c :: cs, [], cw, e, hc => by
    obtain ⟨q1, q2, q3, q4⟩ := giveA_ok h hp xs cs [] e (fun i y d hy hd => hc (i + 1) y d (by simpa using hy) (by simpa using hd))
    exact ⟨q1, q2, OwsL.nil, q4⟩
  | x :: xs, c :: cs, none :: os, cw, e, hc => giveA_ok h hp xs cs os e (fun i y d hy hd => hc (i + 1) y d (by simpa using hy) (by simpa using hd))
  | x :: xs, c :: cs, some p :: os, cw, e, hc => by
    obtain ⟨hv, hoc⟩ := hc 0 x c rfl rfl
    have e' : (match giveA xs cs os with
      | some ws => (match c.own, tmpOf x with
        | some q, some kx => if q.1 = p.1 ∧ q.2 = p.2 ∧ memK' kx ws = false then some (ws ++ [(kx, ⟨c.v, none, c.frm⟩)]) else none
        | _, _ => if nilArg p c.v = true then some ws else none)
      | none => none) = some cw := e
    split at e'
    · rename_i cw0 hcw0
      obtain ⟨q1, q2, q3, q4⟩ := giveA_ok h hp xs cs os hcw0 (fun i y d hy hd => hc (i + 1) y d (by simpa using hy) (by simpa using hd))
      have hgoal : partsL (some p :: os) ((x :: xs).map a.eval) = partsO p (a.eval x) ++ partsL os (xs.map a.eval) := rfl
      rw [hgoal]
      have nilCase : nilArg p c.v = true → some cw0 = some cw → Rel Dr w0 E0 S0 N (fun κ => wr κ = true) (upds g cw) a w β S ∧ PtrOK (upds g cw) ∧ FreeL w0 E0 (upds g cw) a w β S (partsO p (a.eval x) ++ partsL os (xs.map a.eval)) ∧ ∀ κ, (upds g cw κ).v = (g κ).v := fun hn hw => by
        cases hw
        exact ⟨q1, q2, owsL_nils (nilArg_ok hv hn) q3, q4⟩
      split at e'
      · rename_i q kx hown hkx
        split at e'
        · rename_i hcond
          obtain ⟨e1, e2, e3⟩ := hcond
          cases e'
          have hqp : q = p := Prod.ext e1 e2
          subst hqp
          cases x with
          | tmp t =>
            cases hkx
            have hcg : c = g (.t t) := hoc
            have hnot : Key.t t ∉ keysOf cw0 := fun hm => by rw [memK'_iff.2 hm] at e3; cases e3
            have hκ : upds g cw0 (.t t) = c := by rw [upds_none hnot, hcg]
            have ho' : (upds g cw0 (.t t)).own = some q := by rw [hκ]; exact hown
            have h1 := q1.drop (.t t) (fun i => by simp)
            obtain ⟨u, k1, k2⟩ := q1.dropAdd (.t t) ho' q3
            have hu : u = a.eval (.tmp t) := by cases k1; rfl
            subst hu
            have eg : upds g (cw0 ++ [(Key.t t, (⟨c.v, none, c.frm⟩ : C))]) = upd (upds g cw0) (.t t) { upds g cw0 (.t t) with own := none } := by
              rw [upds_append, hκ]
              rfl
            rw [eg]
            refine ⟨h1, ptrOK_upd q2 (fun i => by simp) (fun j e => q2 _ _ e), k2, fun κ => ?_⟩
            by_cases e2 : κ = .t t
            · subst e2; rw [upd_same]; exact q4 _
            · rw [upd_ne _ _ e2]; exact q4 _
          | _ => cases hkx
        · cases e'
      · split at e'
        · rename_i hn
          exact nilCase hn e'
        · cases e'
    · cases e'
  | [], _ :: _, _, _, e, _ => by simp [giveA] at e
  | _ :: _, [], _, _, e, _ => by simp [giveA] at e
theorem partsL_at : ∀ {oin : List Own} {vs : List Value} {i : Nat} {p : TypeId × Nat} {v : Value}, oin[i]? = some (some p) → vs[i]? = some v → ∀ q, q ∈ partsO p v → q ∈ partsL oin vs
  | [], _, i, p, v, h, _ => by simp at h
  | _ :: _, [], i, p, v, _, h => by simp at h
  | o :: os, u :: vs, i, p, v, h1, h2 => fun q hq => by
    cases i with
    | zero =>
      simp at h1 h2
      subst h1
      subst h2
      exact List.mem_append_left _ hq
    | succ i =>
      have := partsL_at (oin := os) (vs := vs) (i := i) (by simpa using h1) (by simpa using h2) q hq
      cases o with
      | none => exact this
      | some p' => exact List.mem_append_right _ this
theorem partsL_split {H : Nat → Prop} : ∀ {oin : List Own} {vs : List Value}, OwsL H w S (partsL oin vs) → (∀ (i : Nat) p v, oin[i]? = some (some p) → vs[i]? = some v → OwsL H w S (partsO p v)) ∧
    (∀ (i j : Nat) ow ow' v v' b, oin[i]? = some ow → oin[j]? = some ow' → vs[i]? = some v → vs[j]? = some v' → Blk ow v b → Blk ow' v' b → i = j) ∧ ∀ (i : Nat) ow v b, oin[i]? = some ow → vs[i]? = some v → Blk ow v b → BlkL (partsL oin vs) b
  | [], _, _ => ⟨fun i p v h => by simp at h, fun i j ow ow' v v' b h => by simp at h, fun i ow v b h => by simp at h⟩
  | _ :: _, [], _ => ⟨fun i p v _ h => by simp at h, fun i j ow ow' v v' b _ _ h => by simp at h, fun i ow v b _ h => by simp at h⟩
  | none :: os, u :: vs, h => by
    obtain ⟨q1, q2, q3⟩ := partsL_split (oin := os) (vs := vs) h
    refine ⟨fun i p v h1 h2 => ?_, fun i j ow ow' v v' b h1 h2 h3 h4 h5 h6 => ?_, fun i ow v b h1 h2 h3 => ?_⟩
    · cases i with
      | zero => simp at h1
      | succ i => exact q1 i p v (by simpa using h1) (by simpa using h2)
    · cases i with
      | zero => simp at h1; subst h1; exact h5.elim
      | succ i =>
        cases j with
        | zero => simp at h2; subst h2; exact h6.elim
        | succ j => rw [q2 i j ow ow' v v' b (by simpa using h1) (by simpa using h2) (by simpa using h3) (by simpa using h4) h5 h6]
    · cases i with
      | zero => simp at h1; subst h1; exact h3.elim
      | succ i => exact q3 i ow v b (by simpa using h1) (by simpa using h2) h3
  | some p0 :: os, u :: vs, h => by
    obtain ⟨h1, h2⟩ := h
    obtain ⟨d1, d2, d3⟩ := List.pairwise_append.1 h2
    obtain ⟨q1, q2, q3⟩ := partsL_split (oin := os) (vs := vs) (⟨fun q hq => h1 q (List.mem_append_right _ hq), d2⟩ : OwsL H w S _)
    have hcross : ∀ b, BlkL (partsO p0 u) b → ¬ BlkL (partsL os vs) b := fun b ⟨q, hq, hb⟩ ⟨r, hr, hrb⟩ => d3 q hq r hr b hb hrb
    refine ⟨fun i p v k1 k2 => ?_, fun i j ow ow' v v' b k1 k2 k3 k4 k5 k6 => ?_, fun i ow v b k1 k2 k3 => ?_⟩
    · cases i with
      | zero => simp at k1 k2; subst k1; subst k2; exact ⟨fun q hq => h1 q (List.mem_append_left _ hq), d1⟩
      | succ i => exact q1 i p v (by simpa using k1) (by simpa using k2)
    · cases i with
      | zero =>
        cases j with
        | zero => rfl
        | succ j =>
          simp at k1 k3
          subst k1
          subst k3
          exact absurd (q3 j ow' v' b (by simpa using k2) (by simpa using k4) k6) (hcross b k5)
      | succ i =>
        cases j with
        | zero =>
          simp at k2 k4
          subst k2
          subst k4
          exact absurd (q3 i ow v b (by simpa using k1) (by simpa using k3) k5) (hcross b k6)
        | succ j => rw [q2 i j ow ow' v v' b (by simpa using k1) (by simpa using k2) (by simpa using k3) (by simpa using k4) k5 k6]
    · cases i with
      | zero =>
        simp at k1 k2
        subst k1
        subst k2
        obtain ⟨q, hq, hb⟩ := k3
        exact ⟨q, List.mem_append_left _ hq, hb⟩
      | succ i =>
        obtain ⟨q, hq, hb⟩ := q3 i ow v b (by simpa using k1) (by simpa using k2) k3
        exact ⟨q, List.mem_append_right _ hq, hb⟩
theorem ocall_ok (hG : GOK Dr E0 w0 G) {fid : FuncId} {xs : List Operand} {cs : List C} {ps : List PV} (h : Rel Dr w0 E0 S0 N (fun κ => wr κ = true) g a w β S) (hp : PtrOK g) (hd : dstOK N o = true) (hN : Next Dr w0 E0 S0 N wr g ws K)
    (hc : ∀ (i : Nat) x c, xs[i]? = some x → cs[i]? = some c → RepF β S w (a.eval x) c.v ∧ OpndC g x c) (hrep : RepL S w (xs.map a.eval).toArray ps)
    (hrun : ∀ fn, P.funcs[fid]? = some fn → (fn.name == "runtime.NumGoroutine") = false → fn.body.isSome = true → (execOp a.eval o).run P w = .ok (.enter fid (xs.map a.eval).toArray) w)
    (he : vcT G P (.ocall fid ps fun oin res ow => tOcall o.dst xs cs oin res ow) g wr (fun _ v => v = ws)) : o.wp P a w K Q := by
  obtain ⟨oin, res, ow, ⟨⟨fn, hfn, hname, hbody⟩, hcall⟩, he⟩ := he
  have he : vcT G P (tOcall o.dst xs cs oin res ow) g wr (fun _ v => v = ws) := he
  unfold tOcall at he
  split at he
  · rename_i cw d hcw hdst
    have hws : cw ++ [(Key.t d, (⟨.pv res, ow, none⟩ : C))] = ws := he
    obtain ⟨h1, hp1, hF, hv⟩ := giveA_ok h hp xs cs oin hcw hc
    obtain ⟨f1, f2, f3⟩ := partsL_split hF
    have hHB : ∀ b, HB oin (xs.map a.eval).toArray b → BlkL (partsL oin (xs.map a.eval)) b := fun b ⟨i, ow, v, k1, k2, k3⟩ => f3 i ow v b k1 (by simpa using k2) k3
    have hEB : ∀ k, k < w0.heap.size → HB oin (xs.map a.eval).toArray k → EB E0 k := fun k hk hb => by
      rcases (OwsL.at hF (hHB k hb)).1.1.or with q | q
      · exact q
      · omega
    have hC := hcall w S (xs.map a.eval).toArray (fun w' hk => hG.all w' (h.below.trans hk hEB)) h.sa hrep (fun i p v k1 k2 => (f1 i p v k1 (by simpa using k2)).imp (fun _ _ _ => trivial)) (fun i j ow ow' v v' b k1 k2 k3 k4 => f2 i j ow ow' v v' b k1 k2 (by simpa using k3) (by simpa using k4))
    unfold Oper.wp
    rw [hrun fn hfn hname hbody]
    show Calls P fid _ w _
    refine hC.mono ?_
    rintro e w' ⟨v, S', rfl, hk, s1, s2, s3, s4, hrv, hown, hdn⟩
    have hsz0 := h.below.size
    have hal : ∀ i, (upds g cw (.al i)).v ≠ .un → β i < w.heap.size := fun i hi => (h1.al i hi).2.1
    have hx : ∀ i, (upds g cw (.al i)).v ≠ .un → w'.heap[β i]? = w.heap[β i]? := fun i hi => hk.block _ (hal i hi) (fun hb => (OwsL.at hF (hHB _ hb)).1.2 i hi rfl)
    have hsame : ∀ κ v, rv β a w κ = some v → ∀ b, Blk (upds g cw κ).own v b → ¬ HB oin (xs.map a.eval).toArray b := fun κ v hr b hb hh => (OwsL.at hF (hHB b hh)).2 κ v hr hb
    have hrel := h1.moved (w' := w') (S' := S') (h.below.trans hk hEB) (fun d => hdn (hG.dr d)) hk.size s2 hx s1 (fun b o hs => by
      rcases s3 b o hs with q | q | q
      · exact .inl q
      · have hh := OwsL.at hF (hHB b q)
        exact .inr ⟨hh.1.1, s4 b o hs, hh.1.2, hh.2⟩
      · exact .inr ⟨.inr (by omega), s4 b o hs, fun i hi e => by have := hal i hi; omega, fun κ v hr hb => by have := blk_lt h1 hr hb; omega⟩) (fun κ v b hr hb => hk.block b (blk_lt h1 hr hb) (hsame κ v hr b hb))
    show K (a.put o.dst v) w'
    rw [hdst]
    have hdN : d < N := by unfold dstOK at hd; rw [hdst] at hd; simpa [Nat.blt_eq] using hd
    have hrvs : ∀ κ u b, rv β a w' κ = some u → Blk (upds g cw κ).own u b → rv β a w κ = some u := fun κ u b hr hb => by
      rw [← hr]
      exact (rv_same h1 (fun i hi o => cell_of_block (hx i hi) o) (there_of_own h1 (blk_ne hb))).symm
    have h5 := hrel.put (c := ⟨.pv res, ow, none⟩) hdN hrv (by
      intro p hek
      subst hek
      refine OwsL.imp (show OwsL _ _ _ _ from hown) (fun b hb hor => ?_)
      rcases hor with q | q
      · have hh := OwsL.at hF (hHB b q)
        exact ⟨hh.1, fun κ' v' _ hr hb' => hh.2 κ' v' (hrvs κ' v' b hr hb') hb'⟩
      · exact ⟨⟨.inr (by omega), fun i hi e => by have := hal i hi; omega⟩, fun κ' v' _ hr hb' => by have := blk_lt h1 (hrvs κ' v' b hr hb') hb'; omega⟩) (fun κ' e => by cases e) (wr' := WrP wr ws) (fun κ hk => .inl hk) (.inr (by rw [← hws]; simp [keysOf, keysOf_append]))
    have h6 := ptrOK_upd (κ := .t d) (c := ⟨.pv res, ow, none⟩) hp1 (fun i => by simp) (fun i e => by simp [FV.refs] at e)
    have hup : upds g ws = upd (upds g cw) (.t d) ⟨.pv res, ow, none⟩ := by rw [← hws, upds_append]; rfl
    rw [← hup] at h5 h6
    exact hN _ _ β S' h5 h6
  · exact he.elim
theorem call_ok (hG : GOK Dr E0 w0 G) (c : Call) (f : Operand) (ho : o.op = .call c) (hb : c.callee = .value f) (h : Rel Dr w0 E0 S0 N (fun κ => wr κ = true) g a w β S) (hp : PtrOK g) (hd : dstOK N o = true) (hN : Next Dr w0 E0 S0 N wr g ws K)
    (he : vcT G P (opnd f fun cf => match tCallee cf.v with
    | some (fid, caps) => opnds c.args.toList fun cs => (match pvsF (appF (fvs cs) (fvsC caps)) with
      | some ps => .alt (.call fid (normP ps) fun res ow => W o.dst ⟨.pv res, ow, none⟩) (.alt (.hcall fid fun D => tHcall o.dst (appF (fvs cs) (fvsC caps)) D) (match caps with
        | [] => .ocall fid (normP ps) fun oin res ow => tOcall o.dst c.args.toList cs oin res ow
        | _ => .fail))
      | none => .hcall fid fun D => tHcall o.dst (appF (fvs cs) (fvsC caps)) D)
    | none => .fail) g wr (fun _ v => v = ws)) : o.wp P a w K Q := by
  obtain ⟨cf, he, hvf, _⟩ := opnd_ev hKt h he
  split at he
  · rename_i fid caps hcf
    obtain ⟨capv, hf, hcap⟩ := callee_spec hvf hcf
    obtain ⟨cs, he, hl, hcC⟩ := opnds_evC hKt h he
    have hc : ∀ (i : Nat) x c', c.args.toList[i]? = some x → cs[i]? = some c' → RepF β S w (a.eval x) c'.v := fun i x c' h1 h2 => (hcC i x c' h1 h2).1
    have hrun : ∀ fn, P.funcs[fid]? = some fn → (fn.name == "runtime.NumGoroutine") = false → fn.body.isSome = true → (execOp a.eval o).run P w = .ok (.enter fid (c.args.map a.eval ++ capv.toArray)) w := by
      intro fn hfn hname hbody
      have hbn : fn.body.isNone = false := by cases hq : fn.body <;> simp_all
      have hn' : ¬ (fn.name = "runtime.NumGoroutine") := by simpa using hname
      simp [execOp, ho, resolve, hb, hf, Deferred.ofValue, invoke, callFunc, hfn, hn', hbn]
      intro hq
      rw [hq] at hbody
      cases hbody
    have hsz : (c.args.map a.eval ++ capv.toArray).size = (appF (fvs cs) (fvsC caps)).length := by
      rw [appF_eq, fvs_eq, fvsC_eq]
      have := repC_len hcap
      simp [this, hl]
    have hrep : ∀ (i : Nat) v x, (c.args.map a.eval ++ capv.toArray)[i]? = some v → (appF (fvs cs) (fvsC caps))[i]? = some x → RepF β S w v x := by
      intro i v x hv hx
      rw [appF_eq, fvs_eq, fvsC_eq, List.getElem?_append] at hx
      rw [Array.getElem?_append] at hv
      have hsz1 : (c.args.map a.eval).size = (cs.map C.v).length := by simp [hl]
      rw [hsz1] at hv
      split at hx
      · rename_i hlt
        rw [if_pos hlt] at hv
        rw [Array.getElem?_map] at hv
        rw [List.getElem?_map] at hx
        cases h1 : c.args[i]? with
        | none => rw [h1] at hv; cases hv
        | some y =>
          cases h2 : cs[i]? with
          | none => rw [h2] at hx; cases hx
          | some d =>
            rw [h1] at hv
            rw [h2] at hx
            simp at hv hx
            subst hv
            subst hx
            exact hc i y d (by rw [Array.getElem?_toList]; exact h1) h2
      · rename_i hlt
        rw [if_neg hlt] at hv
        rw [List.getElem?_map] at hx
        generalize i - (cs.map C.v).length = q at hv hx
        cases h2 : caps[q]? with
        | none => rw [h2] at hx; cases hx
        | some d =>
          rw [h2] at hx
          simp at hx hv
          subst hx
          obtain ⟨u, k1, k2⟩ := repC_at hcap h2
          rw [hv] at k1
          cases k1
          exact k2
    split at he
    · rename_i ps hps
      obtain ⟨k1, k2⟩ := pvsF_spec hps
      have hRL : RepL S w (c.args.map a.eval ++ capv.toArray) (normP ps) := ⟨by rw [hsz, normP_len, k1], fun i v p hv hp' => by
        rw [normP_at] at hp'
        cases hq : ps[i]? with
        | none => rw [hq] at hp'; cases hp'
        | some q =>
          rw [hq] at hp'
          simp at hp'
          subst hp'
          have hi : i < (appF (fvs cs) (fvsC caps)).length := by rw [← k1]; exact (List.getElem?_eq_some_iff.1 hq).1
          have hx := List.getElem?_eq_getElem hi
          have := hrep i v _ hv hx
          rw [k2 i _ q hx hq] at this
          exact RepP.norm this⟩
      rcases he with he | he | he
      · exact acall_ok hG h hp hd hN hRL hrun he
      · exact hcall_ok hG h hp hd hN hsz hrep hrun he
      · split at he
        · have hcv : capv = [] := List.eq_nil_of_length_eq_zero (by have := repC_len hcap; simpa using this)
          have hvs : c.args.map a.eval ++ capv.toArray = (c.args.toList.map a.eval).toArray := by rw [hcv]; apply Array.ext'; simp
          rw [hvs] at hRL hrun
          exact ocall_ok hG h hp hd hN hcC hRL hrun he
        · exact he.elim
    · exact hcall_ok hG h hp hd hN hsz hrep hrun he
  · exact he.elim
theorem clear_ok (hτ : TauOK P τ) (c : Call) (x : Operand) (t : TypeId) (ho : o.op = .call c) (hb : c.callee = .builtin .clear) (ha : c.args.toList = [x]) (ht : c.argTypes.toList = [t]) (h : Rel Dr w0 E0 S0 N (fun κ => wr κ = true) g a w β S) (hp : PtrOK g) (hd : dstOK N o = true) (hN : Next Dr w0 E0 S0 N wr g ws K)
    (he : vcT G P (opnd x fun cx => tClear τ o.dst t cx) g wr (fun _ v => v = ws)) : o.wp P a w K Q := by
  obtain ⟨cx, he, hv, hcx⟩ := opnd_ev hKt h he
  have ha' : c.args = #[x] := by rw [← Array.toArray_toList (xs := c.args), ha]
  have ht' : c.argTypes = #[t] := by rw [← Array.toArray_toList (xs := c.argTypes), ht]
  unfold tClear at he
  split at he
  · rename_i ti i k lo n hdst hti hcv
    rw [hcv] at hv
    have hu := hτ.u _ _ hti
    split at he
    · rename_i e hdesc
      rw [hdesc] at hu
      split at he
      · rename_i te hte
        split at he
        · rename_i hk
          subst hk
          have he := get_ev he
          split at he
          · rename_i k' xs hrows
            split at he
            · rename_i hk
              subst hk
              obtain ⟨⟨hfit⟩, he⟩ := he
              have he : vcT G P (.ret [(.b i 0, ⟨.rows te.size (xs.take lo ++ (List.replicate n (te.zero.cells.toList.map cellP) ++ xs.drop (lo + n))), none, none⟩)]) g wr (fun _ v => v = ws) := he _ ⟨rfl⟩
              have hws : [(Key.b i 0, (⟨.rows te.size (xs.take lo ++ (List.replicate n (te.zero.cells.toList.map cellP) ++ xs.drop (lo + n))), none, none⟩ : C))] = ws := he
              obtain ⟨hbx, hlive⟩ := h.bx i 0 (by rw [hrows]; simp)
              rw [hrows] at hbx
              obtain ⟨hobj, _, hra, hfz⟩ := hbx
              obtain ⟨cap, off, hcap, hx, hoff⟩ := hv
              obtain ⟨z1, z2⟩ := hτ.z _ _ hte
              have z3 : ∀ v, v ∈ te.zero.cells → v.oneCell' = true := fun v hv => List.all_eq_true.1 z2 v (by simpa using hv)
              have hup : upds g ws = upd g (.b i 0) ⟨.rows te.size (xs.take lo ++ (List.replicate n (te.zero.cells.toList.map cellP) ++ xs.drop (lo + n))), none, none⟩ := by rw [← hws]; rfl
              have fin : ∀ {w'}, (execOp a.eval o).run P w = .ok (.value (.tuple #[])) w' → Kept (fun b => β i = b) w w' → w'.heap.size = w.heap.size → RowsAt S w' (β i) te.size (xs.take lo ++ (List.replicate n (te.zero.cells.toList.map cellP) ++ xs.drop (lo + n))) → (∀ q, w'.frozen? ⟨β i, q, none⟩ = false) → o.wp P a w K Q := by
                intro w' hr hkept hsz hra' hfz'
                have hrel := h.whole hlive hkept (fun _ => run_ok_drawn hr) hsz (x := .rows te.size (xs.take lo ++ (List.replicate n (te.zero.cells.toList.map cellP) ++ xs.drop (lo + n)))) ⟨hobj, rfl, hra', hfz'⟩ hobj (wr' := WrP wr ws) (fun κ hk => .inl hk)
                unfold Oper.wp
                rw [hr]
                show K (a.put o.dst _) _
                rw [hdst]
                rw [← hup] at hrel
                exact hN a _ β S hrel (by rw [hup]; exact ptrOK_upd hp (fun i => by simp) (fun i e => by simp [FV.refs] at e))
              by_cases hn : n = 0
              · subst hn
                refine fin (w' := w) (by simp [execOp, ho, resolve, hb, ha', ht', invoke, builtin, Builtin.clear_, run_underlying hu, hx]) (Kept.refl _ _) rfl ?_ hfz
                simpa using hra
              · have hoff : off = lo * te.size := hoff.resolve_left hn
                subst hoff
                have hzs : (Builtin.zeroCells te.zero.cells n).toList.length = n * te.size := by simp [Builtin.zeroCells, z1]
                have hpos : ∀ q, q < n * te.size → 0 < te.size := fun q hq => by
                  rcases Nat.eq_zero_or_pos te.size with hz | hz
                  · rw [hz] at hq; simp at hq
                  · exact hz
                have hzat : ∀ q, q < n * te.size → ∃ v, (Builtin.zeroCells te.zero.cells n).toList[q]? = some v ∧ te.zero.cells[q % te.size]? = some v := fun q hq => by
                  have hlt : q % te.size < te.zero.cells.size := by rw [z1]; exact Nat.mod_lt _ (hpos q hq)
                  refine ⟨te.zero.cells[q % te.size], ?_, Array.getElem?_eq_getElem hlt⟩
                  simp only [Builtin.zeroCells, z1, Array.toList_map, List.getElem?_map, Array.toList_range]
                  rw [List.getElem?_range hq]
                  simp [hlt]
                obtain ⟨w', r1, r2⟩ := stores_run (P := P) (b := β i) (off := lo * te.size) (w := w) (Builtin.zeroCells te.zero.cells n).toList 0 (fun v hv => by
                  obtain ⟨q, hq, rfl⟩ := List.mem_iff_getElem.1 hv
                  rw [hzs] at hq
                  obtain ⟨u, u1, u2⟩ := hzat q hq
                  rw [List.getElem?_eq_getElem (by rw [hzs]; exact hq)] at u1
                  cases u1
                  exact z3 _ (Array.mem_of_getElem? u2)) (fun q hq => by
                  rw [hzs] at hq
                  have hp0 := hpos q hq
                  have hr : lo + q / te.size < xs.length := by
                    have := Nat.div_lt_of_lt_mul (show q < te.size * n by rw [Nat.mul_comm]; exact hq)
                    omega
                  have hrow := List.getElem?_eq_getElem hr
                  have hrl := hra.1 _ (List.mem_of_getElem? hrow)
                  have hj : q % te.size < (xs[lo + q / te.size]).length := by rw [hrl]; exact Nat.mod_lt _ hp0
                  obtain ⟨c', c1, _⟩ := hra.2 _ _ _ _ hrow (List.getElem?_eq_getElem hj)
                  refine ⟨c', ?_⟩
                  rw [← c1]
                  congr 2
                  have := Nat.div_add_mod q te.size
                  rw [Nat.add_mul, Nat.mul_comm (q / te.size)]
                  omega) hfz
                rw [Nat.add_zero] at r2
                have hS := S_same h hlive r2.block
                refine fin (w' := w') (by simp [execOp, ho, resolve, hb, ha', ht', invoke, builtin, Builtin.clear_, run_underlying hu, hx, run_zeroD hτ hte, r1]) ⟨r2.os, r2.tape, r2.output, by rw [r2.size]; exact Nat.le_refl _, fun k _ hk => r2.block k (fun e => hk e.symm)⟩ r2.size ⟨fun r hr => ?_, fun q j r x hq hj => ?_⟩ (fun q => (r2.frz q).trans (hfz q))
                · rcases List.mem_append.1 hr with hr | hr
                  · exact hra.1 r (List.mem_of_mem_take hr)
                  · rcases List.mem_append.1 hr with hr | hr
                    · rw [(List.mem_replicate.1 hr).2]; simp [z1]
                    · exact hra.1 r (List.mem_of_mem_drop hr)
                · have hlo : (xs.take lo).length = lo := by rw [List.length_take]; omega
                  have keep : ∀ q r, xs[q]? = some r → r[j]? = some x → (q < lo ∨ lo + n ≤ q) → ∃ c, w'.cell? ⟨β i, q * te.size + j, none⟩ = some c ∧ RepP S w' c x ∧ c.oneCell' = true := fun q r hq hj hor => by
                    obtain ⟨c', c1, c2, c3⟩ := hra.2 q j r x hq hj
                    have hjk : j < te.size := by rw [← hra.1 r (List.mem_of_getElem? hq)]; exact (List.getElem?_eq_some_iff.1 hj).1
                    refine ⟨c', (r2.old _ ?_).trans c1, c2.mono (fun _ _ h => h) hS, c3⟩
                    rw [hzs]
                    rcases hor with hlt | hge
                    · left
                      have := Nat.mul_le_mul_right te.size (show q + 1 ≤ lo by omega)
                      rw [Nat.add_mul] at this
                      omega
                    · right
                      have := Nat.mul_le_mul_right te.size hge
                      rw [Nat.add_mul] at this
                      omega
                  rw [List.getElem?_append] at hq
                  split at hq
                  · rename_i hlt
                    rw [hlo] at hlt
                    rw [List.getElem?_take, if_pos hlt] at hq
                    exact keep q r hq hj (.inl hlt)
                  · rename_i hge
                    rw [hlo] at hge hq
                    rw [List.getElem?_append, List.length_replicate] at hq
                    split at hq
                    · rename_i hlt
                      rw [List.getElem?_replicate, if_pos hlt] at hq
                      cases hq
                      rw [List.getElem?_map] at hj
                      cases hzj : te.zero.cells.toList[j]? with
                      | none => rw [hzj] at hj; cases hj
                      | some v =>
                        rw [hzj] at hj
                        simp at hj
                        subst hj
                        have hzj' : te.zero.cells[j]? = some v := by simpa using hzj
                        have hjk : j < te.size := by rw [← z1]; exact (Array.getElem?_eq_some_iff.1 hzj').1
                        have hin : (q - lo) * te.size + j < n * te.size := by
                          have := Nat.mul_le_mul_right te.size (show (q - lo) + 1 ≤ n by omega)
                          rw [Nat.add_mul] at this
                          omega
                        obtain ⟨u, u1, u2⟩ := hzat _ hin
                        have hmod : ((q - lo) * te.size + j) % te.size = j := by rw [Nat.mul_comm, Nat.mul_add_mod, Nat.mod_eq_of_lt hjk]
                        rw [hmod, hzj'] at u2
                        cases u2
                        have := r2.new _ _ u1
                        rw [show lo * te.size + ((q - lo) * te.size + j) = q * te.size + j by rw [← Nat.add_assoc, ← Nat.add_mul]; congr 2; omega] at this
                        have h1c := z3 v (Array.mem_of_getElem? hzj')
                        exact ⟨v, this, cellP_rep v h1c, h1c⟩
                    · rename_i hge2
                      rw [List.getElem?_drop] at hq
                      rw [show lo + n + (q - lo - n) = q by omega] at hq
                      exact keep q r hq hj (.inr (by omega))
            · exact he.elim
          · exact he.elim
        · exact he.elim
      · exact he.elim
    · exact he.elim
  · exact he.elim
theorem op_ok (hG : GOK Dr E0 w0 G) (hτ : TauOK P τ) (h : Rel Dr w0 E0 S0 N (fun κ => wr κ = true) g a w β S) (hp : PtrOK g) (hd : dstOK N o = true) (hN : Next Dr w0 E0 S0 N wr g ws K)
    (he : vcT G P (opT P τ o) g wr (fun _ v => v = ws)) : o.wp P a w K Q := by
  cases ho : o.op with
  | move x => exact move_ok x ho h hp hd hN he
  | assign x => exact assign_ok x ho h hp hd hN he
  | pick x y z => exact pick_ok x y z ho h hp hd hN he
  | alloc e => exact alloc_ok hτ e ho h hp hd hN he
  | box e x => exact box_ok e x ho h hp hd hN he
  | build t ps => exact build_ok hτ t ps ho h hp hd hN he
  | buildSlice t n ps => exact buildSlice_ok hτ t n ps ho h hp hd hN he
  | load t x => exact load_ok hG hτ t x ho h hp hd hN he
  | store t x y => exact store_ok hτ t x y ho h hp hd hN he
  | nilCheck x => exact nilCheck_ok x ho h hp hd hN he
  | binOp op t x y u => exact binOp_ok hτ op t u x y ho h hp hd hN he
  | unOp op t x => exact unOp_ok op t x ho h hp hd hN he
  | convert s t x => exact convert_ok hτ s t x ho h hp hd hN he
  | slice t x lo hi mx =>
    cases mx with
    | none => exact slice_ok hτ t x lo hi ho h hp hd hN he
    | some m =>
      cases lo with
      | some l => simp only [opT, ho] at he; exact he.elim
      | none =>
        cases hi with
        | none => simp only [opT, ho] at he; exact he.elim
        | some y => exact slice3_ok hτ t x y m ho h hp hd hN he
  | fieldAddr t x f => exact fieldAddr_ok hτ t x f ho h hp hd hN he
  | field t x f => exact field_ok hτ t x f ho h hp hd hN he
  | indexAddr t x y => exact indexAddr_ok hτ t x y ho h hp hd hN he
  | index t x y => exact index_ok hτ t x y ho h hp hd hN he
  | extract x i => exact extract_ok x i ho h hp hd hN he
  | call c =>
    simp only [opT, ho] at he
    unfold tCall at he
    split at he
    · rename_i f hc
      exact call_ok hG c f ho hc h hp hd hN he
    · exact he.elim
    · rename_i b hc
      split at he
      · rename_i x t h1 h2
        exact len_ok hτ c x t ho hc h1 h2 h hp hd hN he
      · rename_i x y t t' h1 h2
        split at he
        · rename_i e
          subst e
          exact append_ok hτ c x y t ho hc h1 h2 h hp hd hN he
        · exact he.elim
      · rename_i x y h1
        exact maxMin_ok true c x y ho (by simpa using hc) h1 h hp hd hN he
      · rename_i x y h1
        exact maxMin_ok false c x y ho (by simpa using hc) h1 h hp hd hN he
      · rename_i x t h1 h2
        exact clear_ok hτ c x t ho hc h1 h2 h hp hd hN he
      · exact he.elim
  | makeFunc fn first caps => exact makeFunc_ok fn first caps ho h hp hd hN he
  | makeMap t r => exact makeMap_ok t r ho h hp hd hN he
  | insert t m k x => simp only [opT, ho] at he; exact mapUp_ok hτ t m k x (.inr ho) h hp hd hN he
  | mapUpdate t m k x => simp only [opT, ho] at he; exact mapUp_ok hτ t m k x (.inl ho) h hp hd hN he
  | lookup t m k ok => exact lookup_ok hτ t m k ok ho h hp hd hN he
  | range t x => exact range_ok hτ t x ho h hp hd hN he
  | entry x => exact entry_ok x ho h hp hd hN he
  | _ => simp only [opT, ho] at he; exact he.elim
end
end
end Go.Proofs.YtbjfmkmaghapgaaGreatDoor.B
