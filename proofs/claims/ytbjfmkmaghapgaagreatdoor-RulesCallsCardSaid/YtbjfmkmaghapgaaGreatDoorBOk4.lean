/-
The logic of pure values, continued: conversions, fields, elements, slices, calls. Condition: none.
-/
import Derived.Test.YtbjfmkmaghapgaaGreatDoorBOk3
import Derived.Laws.Slices
set_option linter.unusedVariables false
set_option linter.unusedSimpArgs false
set_option linter.unnecessarySimpa false
namespace Go.Proofs.YtbjfmkmaghapgaaGreatDoor.B
open Go.RowKit

section
variable {G : World → Prop} {P : Program} {τ : Tau} {Dr : Prop} {w0 : World} {E0 : Nat → Nat → Prop} {S0 : Nat → Nat → Prop} {N : Nat} {wr : Key → Bool} {g : Key → C} {a : Act} {w : World} {β : Nat → Nat} {S : Nat → Nat → Prop}
section
variable {o : Oper} {K : Act → World → Prop} {Q : Exit → Act → World → Prop} {ws : List (Key × C)}
theorem unOp_ok (op : UnOp) (ty : TypeId) (x : Operand) (ho : o.op = .unOp op ty x) (h : Rel Dr w0 E0 S0 N (fun κ => wr κ = true) g a w β S) (hp : PtrOK g) (hd : dstOK N o = true) (hN : Next Dr w0 E0 S0 N wr g ws K)
    (he : vcT G P (opT P τ o) g wr (fun _ v => v = ws)) : o.wp P a w K Q := by
  simp only [opT, ho] at he
  obtain ⟨c, he, hv, _⟩ := opnd_ev hKt h he
  unfold tUn at he
  split at he
  · rename_i u hcv
    rw [hcv] at hv
    have hx := (rep_lit hv).1
    split at he
    · exact finWP hN hd (v := .bool _) (by simp [execOp, ho, hx, Op.unary]) h hp (RepP.lit _ rfl) (bool_ev he)
    · exact finWP hN hd (v := .int _ _) (by simp [execOp, ho, hx, Op.unary, Op.intArith]) h hp (RepP.lit _ rfl) (num_ev he)
    · exact he.elim
  · exact he.elim
theorem convert_ok (hτ : TauOK P τ) (s t : TypeId) (x : Operand) (ho : o.op = .convert s t x) (h : Rel Dr w0 E0 S0 N (fun κ => wr κ = true) g a w β S) (hp : PtrOK g) (hd : dstOK N o = true) (hN : Next Dr w0 E0 S0 N wr g ws K)
    (he : vcT G P (opT P τ o) g wr (fun _ v => v = ws)) : o.wp P a w K Q := by
  simp only [opT, ho] at he
  obtain ⟨c, he, hv, _⟩ := opnd_ev hKt h he
  unfold tConv at he
  split at he
  · rename_i k n si di hcv hsi hdi
    rw [hcv] at hv
    have hx := (rep_lit hv).1
    have hs := hτ.u _ _ hsi
    have ht := hτ.u _ _ hdi
    split at he
    · rename_i k' hk
      rw [hk] at ht
      exact finWP hN hd (v := .int _ _) (by
        cases hq : si.desc <;> rw [hq] at hs <;> simp [execOp, ho, hx, convert, run_underlying hs, run_underlying ht, Conv.intToInt]) h hp (RepP.lit _ rfl) (num_ev he)
    · exact he.elim
  · exact he.elim
theorem agg_part {vs : Array Value} {cs : List PV} (hv : RepP S w (.agg vs) (.agg cs)) (off n : Nat) (hl : ((cs.drop off).take n).length = n) : RepP S w (.agg (vs.extract off (off + n))) (.agg ((cs.drop off).take n)) := by
  obtain ⟨vs', e, h1, h2, h3⟩ := rep_agg hv
  cases e
  have hn : off + n ≤ cs.length ∨ n = 0 := by simp only [List.length_take, List.length_drop] at hl; omega
  refine .agg _ _ ?_ (fun v hm => h2 v (by
    obtain ⟨i, hi, rfl⟩ := Array.mem_iff_getElem.1 hm
    simp)) (fun i v x hv hx => ?_)
  · rw [hl]
    simp only [Array.size_extract]
    rw [h1]
    omega
  · rw [Array.getElem?_extract] at hv
    rw [List.getElem?_take] at hx
    split at hv
    · split at hx
      · rw [List.getElem?_drop] at hx
        exact h3 _ v x hv hx
      · cases hx
    · cases hv
theorem field_ok (hτ : TauOK P τ) (ty : TypeId) (x : Operand) (f : Nat) (ho : o.op = .field ty x f) (h : Rel Dr w0 E0 S0 N (fun κ => wr κ = true) g a w β S) (hp : PtrOK g) (hd : dstOK N o = true) (hN : Next Dr w0 E0 S0 N wr g ws K)
    (he : vcT G P (opT P τ o) g wr (fun _ v => v = ws)) : o.wp P a w K Q := by
  simp only [opT, ho] at he
  obtain ⟨c, he, hv, _⟩ := opnd_ev hKt h he
  unfold tField at he
  split at he
  · rename_i cs ti hcv hti
    rw [hcv] at hv
    have hu := hτ.u _ _ hti
    split at he
    · rename_i fs hfs
      rw [hfs] at hu
      split at he
      · rename_i fd hfd
        split at he
        · rename_i ft hft
          obtain ⟨vs, hx, h1, h2, h3⟩ := rep_agg hv
          split at he
          · rename_i hagg
            split at he
            · rename_i hlen
              rw [hx] at hv
              exact finWP hN hd (v := .agg (vs.extract fd.offset (fd.offset + ft.size))) (by simp [execOp, ho, hx, Instr.field, run_underlying hu, hfd, asAgg, part, run_isAggD hτ hft, run_sizeD hτ hft, hagg]) h hp (agg_part hv _ _ hlen) he
            · exact he.elim
          · rename_i hagg
            split at he
            · rename_i p hpc
              split at he
              · have hlt : fd.offset < vs.size := by rw [h1]; exact (List.getElem?_eq_some_iff.1 hpc).1
                have hf : isAggD ft.desc = false := by simpa using hagg
                exact finWP hN hd (v := vs[fd.offset]) (by simp [execOp, ho, hx, Instr.field, run_underlying hu, hfd, asAgg, part, run_isAggD hτ hft, hf, Array.getElem?_eq_getElem hlt]) h hp (h3 _ _ _ (Array.getElem?_eq_getElem hlt) hpc) he
              · exact he.elim
            · exact he.elim
        · exact he.elim
      · exact he.elim
    · exact he.elim
  · exact he.elim
theorem fieldAddr_ok (hτ : TauOK P τ) (ty : TypeId) (x : Operand) (f : Nat) (ho : o.op = .fieldAddr ty x f) (h : Rel Dr w0 E0 S0 N (fun κ => wr κ = true) g a w β S) (hp : PtrOK g) (hd : dstOK N o = true) (hN : Next Dr w0 E0 S0 N wr g ws K)
    (he : vcT G P (opT P τ o) g wr (fun _ v => v = ws)) : o.wp P a w K Q := by
  simp only [opT, ho] at he
  obtain ⟨c, he, hv, hc⟩ := opnd_ev hKt h he
  unfold tFieldAddr at he
  split at he
  · rename_i ti hti
    have hu := hτ.u _ _ hti
    split at he
    · rename_i fs hfs
      rw [hfs] at hu
      split at he
      · rename_i fd hfd
        split at he
        · rename_i ft hft
          split at he
          · exact he.elim
          · rename_i hsz
            split at he
            · rename_i i off hcv
              have hl := ptr_live (c := c) h hp hc i (by rw [hcv]; simp [FV.refs])
              rw [hcv] at hv
              have hx : a.eval x = .pointer (some ⟨β i, off, none⟩) := hv
              exact finWV hN hd (v := .pointer (some ⟨β i, off + fd.offset, none⟩)) (by simp [execOp, ho, hx, Instr.fieldAt, run_underlying hu, hfd, Instr.sureAddr, fieldPlace, run_sizeD hτ hft, hsz, Addr.add_lit]) h hp (x := .ptr i (off + fd.offset)) rfl
                (fun i' e => by simp [FV.refs] at e; subst e; exact hl) he
            · rename_i row j hcv
              rw [hcv] at hv
              obtain ⟨b, base, hx, hrow⟩ := hv
              exact finWV hN hd (v := .pointer (some ⟨b, base + j + fd.offset, none⟩)) (by simp [execOp, ho, hx, Instr.fieldAt, run_underlying hu, hfd, Instr.sureAddr, fieldPlace, run_sizeD hτ hft, hsz, Addr.add_lit]) h hp (x := .ept row (j + fd.offset))
                ⟨b, base, by rw [Nat.add_assoc], hrow⟩ (fun i' e => by simp [FV.refs] at e) he
            · rename_i i k r j hcv
              have hl := ptr_live (c := c) h hp hc i (by rw [hcv]; simp [FV.refs])
              rw [hcv] at hv
              have hx : a.eval x = .pointer (some ⟨β i, r * k + j, none⟩) := hv
              exact finWV hN hd (v := .pointer (some ⟨β i, r * k + j + fd.offset, none⟩)) (by simp [execOp, ho, hx, Instr.fieldAt, run_underlying hu, hfd, Instr.sureAddr, fieldPlace, run_sizeD hτ hft, hsz, Addr.add_lit]) h hp (x := .rpt i k r (j + fd.offset))
                (by show _ = _; rw [Nat.add_assoc]) (fun i' e => by simp [FV.refs] at e; subst e; exact hl) he
            · exact he.elim
        · exact he.elim
      · exact he.elim
    · exact he.elim
  · exact he.elim
theorem indexAddr_ok (hτ : TauOK P τ) (ty : TypeId) (x y : Operand) (ho : o.op = .indexAddr ty x y) (h : Rel Dr w0 E0 S0 N (fun κ => wr κ = true) g a w β S) (hp : PtrOK g) (hd : dstOK N o = true) (hN : Next Dr w0 E0 S0 N wr g ws K)
    (he : vcT G P (opT P τ o) g wr (fun _ v => v = ws)) : o.wp P a w K Q := by
  simp only [opT, ho] at he
  obtain ⟨cx, he, hvx, hcx0⟩ := opnd_ev hKt h he
  obtain ⟨cy, he, hvy, _⟩ := opnd_ev hKt h he
  unfold tIndexAddr at he
  split at he
  · rename_i ti hti
    have hu := hτ.u _ _ hti
    split at he
    · rename_i e xs k i hdesc hcx hcy
      rw [hdesc] at hu
      rw [hcx] at hvx
      rw [hcy] at hvy
      have hy := (rep_lit hvy).1
      split at he
      · rename_i te hte
        obtain ⟨⟨h0, hlt0⟩, he⟩ := he
        have hr := List.getElem?_eq_getElem hlt0
        generalize xs[i.toNat] = r at hr
        have he := he r ⟨hr.symm⟩
        have he : vcT G P (if r.length = te.size then WV o.dst (.ept r 0) else .fail) g wr (fun _ v => v = ws) := he
        split at he
        · rename_i hlen
          rcases rep_sl hvx with ⟨_, hxs⟩ | ⟨b, off, k', cap, hx, hcap, hk, hrows⟩
          · rw [hxs] at hr; simp at hr
          · have hk' : k' = te.size := (hk r (List.mem_of_getElem? hr)).symm.trans hlen
            subst hk'
            have hlt : i.toNat < xs.length := (List.getElem?_eq_some_iff.1 hr).1
            have hi1 : i < (xs.length : Int) := by omega
            exact finWV hN hd (v := .pointer (some ⟨b, off + i.toNat * te.size, none⟩)) (by
              simp [execOp, ho, hx, hy, Instr.indexAt, asIntOf, run_underlying hu, h0, hi1, run_sizeD hτ hte, Addr.add_lit]) h hp (x := .ept r 0) ⟨b, off + i.toNat * te.size, rfl, hrows _ r hr⟩ (fun i' e => by simp [FV.refs] at e) he
        · exact he.elim
      · exact he.elim
    · rename_i e i k lo n k2 ix hdesc hcx hcy
      rw [hdesc] at hu
      have hl := ptr_live (c := cx) h hp hcx0 i (by rw [hcx]; simp [FV.refs])
      rw [hcx] at hvx
      rw [hcy] at hvy
      have hy := (rep_lit hvy).1
      split at he
      · rename_i te hte
        split at he
        · rename_i hsz
          subst hsz
          obtain ⟨hb, he⟩ := he
          obtain ⟨h0, hlt⟩ := hb.out
          have he : vcT G P (WV o.dst (.rpt i te.size (lo + ix.toNat) 0)) g wr (fun _ v => v = ws) := he _ ⟨rfl⟩
          obtain ⟨cap, off, hcap, hx, hoff⟩ := hvx
          have hoff : off = lo * te.size := hoff.resolve_left (by omega)
          subst hoff
          exact finWV hN hd (v := .pointer (some ⟨β i, lo * te.size + ix.toNat * te.size, none⟩)) (by
            simp [execOp, ho, hx, hy, Instr.indexAt, asIntOf, run_underlying hu, h0, hlt, run_sizeD hτ hte, Addr.add_lit]) h hp (x := .rpt i te.size (lo + ix.toNat) 0) (by show _ = _; rw [Nat.add_mul, Nat.add_zero]) (fun i' e => by simp [FV.refs] at e; subst e; exact hl) he
        · exact he.elim
      · exact he.elim
    · exact he.elim
  · exact he.elim
theorem index_ok (hτ : TauOK P τ) (ty : TypeId) (x y : Operand) (ho : o.op = .index ty x y) (h : Rel Dr w0 E0 S0 N (fun κ => wr κ = true) g a w β S) (hp : PtrOK g) (hd : dstOK N o = true) (hN : Next Dr w0 E0 S0 N wr g ws K)
    (he : vcT G P (opT P τ o) g wr (fun _ v => v = ws)) : o.wp P a w K Q := by
  simp only [opT, ho] at he
  obtain ⟨cx, he, hvx, _⟩ := opnd_ev hKt h he
  obtain ⟨cy, he, hvy, _⟩ := opnd_ev hKt h he
  unfold tIndex at he
  split at he
  · rename_i ti hti
    have hu := hτ.u _ _ hti
    split at he
    · rename_i s k i hdesc hcx hcy
      rw [hdesc] at hu
      rw [hcx] at hvx
      rw [hcy] at hvy
      have hx := (rep_lit hvx).1
      have hy := (rep_lit hvy).1
      obtain ⟨⟨h0, hlt0⟩, he⟩ := he
      have hb : s[i.toNat]? = some (s[i.toNat]'hlt0) := getElem?_pos s i.toNat hlt0
      generalize s[i.toNat] = b at hb
      exact finWP hN hd (v := .int .u8 b.toNat) (by simp [execOp, ho, hx, hy, Instr.index, asIntOf, run_underlying hu, h0, hb]) h hp (RepP.lit _ rfl) (num_ev (he b ⟨hb.symm⟩))
    · rename_i n e cs k i hdesc hcx hcy
      rw [hdesc] at hu
      rw [hcx] at hvx
      rw [hcy] at hvy
      have hy := (rep_lit hvy).1
      obtain ⟨vs, hx, h1, h2, h3⟩ := rep_agg hvx
      split at he
      · rename_i te hte
        split at he
        · exact he.elim
        · rename_i hagg
          have hf : isAggD te.desc = false := by simpa using hagg
          split at he
          · rename_i hsz
            split at he
            · rename_i hlen
              obtain ⟨⟨h0, hlt0⟩, he⟩ := he
              have hr := List.getElem?_eq_getElem hlt0
              generalize (cs.map fun c => [c])[i.toNat] = r at hr
              have he := he r ⟨hr.symm⟩
              rw [List.getElem?_map] at hr
              cases hc : cs[i.toNat]? with
              | none => rw [hc] at hr; cases hr
              | some p =>
                rw [hc] at hr
                simp only [Option.map_some, Option.some.injEq] at hr
                subst hr
                have he' : vcT G P (if p.one = true then WP o.dst p else .fail) g wr (fun _ v => v = ws) := he
                split at he'
                · have hlt : i.toNat < vs.size := by rw [h1]; exact (List.getElem?_eq_some_iff.1 hc).1
                  have hi1 : i < (n : Int) := by omega
                  exact finWP hN hd (v := vs[i.toNat]) (by simp [execOp, ho, hx, hy, Instr.index, asIntOf, run_underlying hu, h0, hi1, run_sizeD hτ hte, hsz, part, run_isAggD hτ hte, hf, Array.getElem?_eq_getElem hlt]) h hp
                    (h3 _ _ _ (Array.getElem?_eq_getElem hlt) hc) he'
                · exact he'.elim
            · exact he.elim
          · exact he.elim
      · exact he.elim
    · exact he.elim
  · exact he.elim
theorem repC_at {β : Nat → Nat} {S : Nat → Nat → Prop} {w : World} : ∀ {vs : List Value} {cs : List CV} {i : Nat} {c : CV}, RepC β S w vs cs → cs[i]? = some c → ∃ v, vs[i]? = some v ∧ RepF β S w v c.fv
  | [], [], i, c, h, hc => by simp at hc
  | [], _ :: _, i, c, h, hc => h.elim
  | _ :: _, [], i, c, h, hc => h.elim
  | v :: vs, d :: cs, 0, c, h, hc => by
    simp at hc
    subst hc
    refine ⟨v, rfl, ?_⟩
    have := h.1
    cases d <;> exact this
  | v :: vs, d :: cs, i + 1, c, h, hc => repC_at (i := i) h.2 (by simpa using hc)
theorem refsC_mem : ∀ {cs : List CV} {i : Nat} {c : CV} {j : Nat}, cs[i]? = some c → j ∈ c.refs → j ∈ refsC cs
  | [], i, c, j, h, hj => by simp at h
  | d :: cs, 0, c, j, h, hj => by simp at h; subst h; simp [refsC, hj]
  | d :: cs, i + 1, c, j, h, hj => by
    have := refsC_mem (cs := cs) (i := i) (by simpa using h) hj
    simp [refsC, this]
theorem extract_ok (x : Operand) (ix : Nat) (ho : o.op = .extract x ix) (h : Rel Dr w0 E0 S0 N (fun κ => wr κ = true) g a w β S) (hp : PtrOK g) (hd : dstOK N o = true) (hN : Next Dr w0 E0 S0 N wr g ws K)
    (he : vcT G P (opT P τ o) g wr (fun _ v => v = ws)) : o.wp P a w K Q := by
  simp only [opT, ho] at he
  obtain ⟨c, he, hv, hc0⟩ := opnd_ev hKt h he
  split at he
  · rename_i cs hcv
    rw [hcv] at hv
    obtain ⟨vs, hx, h1, h3⟩ := rep_tup hv
    split at he
    · rename_i p hpc
      have hlt : ix < vs.size := by rw [h1]; exact (List.getElem?_eq_some_iff.1 hpc).1
      exact finWP hN hd (v := vs[ix]) (by simp [execOp, ho, hx, Instr.extract, Array.getElem?_eq_getElem hlt]) h hp (h3 _ _ _ (Array.getElem?_eq_getElem hlt) hpc) he
    · exact he.elim
  · rename_i cs hcv
    have hl := ptr_live (c := c) h hp hc0
    rw [hcv] at hv hl
    obtain ⟨vs, hx, hr⟩ := hv
    split at he
    · rename_i p hpc
      obtain ⟨v, hv, hvr⟩ := repC_at hr hpc
      exact finWV hN hd (v := v) (by simp [execOp, ho, hx, Instr.extract, hv]) h hp hvr (fun i hi => hl i (refsC_mem hpc (by cases p <;> exact hi))) he
    · exact he.elim
  · exact he.elim
/-! ### slices -/
theorem slice_rep {A : Option Addr} {n cap size : Nat} {xs : List (List PV)} (h : RepP S w (.slice A n cap) (.sl xs)) (hk : ∀ r, r ∈ xs → r.length = size) {l hh : Nat} (h1 : l ≤ hh) (h2 : hh ≤ xs.length) :
    n = xs.length ∧ hh ≤ cap ∧ RepP S w (.slice (if cap = l then A else A.map (·.add (l * size))) (hh - l) (cap - l)) (.sl ((xs.take hh).drop l)) := by
  have hlen : ((xs.take hh).drop l).length = hh - l := by simp only [List.length_drop, List.length_take]; omega
  rcases rep_sl h with ⟨⟨A', e⟩, rfl⟩ | ⟨b, off, k, cap', e, hcap, hk', hrows⟩
  · cases e
    have : hh = 0 := by simpa using h2
    subst this
    have : l = 0 := by omega
    subst this
    exact ⟨rfl, Nat.le_refl _, by simpa using RepP.nil' _⟩
  · cases e
    refine ⟨rfl, by omega, ?_⟩
    by_cases hc : cap = l
    · rw [if_pos hc]
      have hz : (xs.take hh).drop l = [] := List.eq_nil_of_length_eq_zero (by rw [hlen]; omega)
      have : hh - l = ([] : List (List PV)).length := by simp; omega
      rw [hz, this]
      exact .sl b off 0 _ [] (fun _ _ => undef) (by simp) (fun r hr => by simp at hr) (fun i j hi => absurd hi (by simp)) (fun i j hi => absurd hi (by simp)) (fun i j r x hr => by simp at hr)
    · rw [if_neg hc, ← hlen]
      have hsub : ∀ (i : Nat) (r : List PV), ((xs.take hh).drop l)[i]? = some r → xs[l + i]? = some r := fun i r hr => by
        rw [List.getElem?_drop, List.getElem?_take] at hr
        split at hr
        · exact hr
        · cases hr
      have hks : ∀ (i : Nat) (r : List PV), ((xs.take hh).drop l)[i]? = some r → k = size := fun i r hr => by
        have hm := List.mem_of_getElem? (hsub i r hr)
        exact (hk' r hm).symm.trans (hk r hm)
      show RepP S w (.slice (some (Addr.add ⟨b, off, none⟩ (l * size))) _ _) _
      rw [Addr.add_lit]
      refine .sl b (off + l * size) size _ _ (fun i j => (w.cell? ⟨b, off + l * size + i * size + j, none⟩).getD undef) (by rw [hlen]; omega) (fun r hr => ?_) (fun i j hi hj => ?_) (fun i j hi hj => ?_) (fun i j r x hr hx => ?_)
      · obtain ⟨i, hi, rfl⟩ := List.mem_iff_getElem.1 hr
        exact hk _ (List.mem_of_getElem? (hsub i _ (List.getElem?_eq_getElem hi)))
      · have hg := List.getElem?_eq_getElem hi
        have hrl := hk _ (List.mem_of_getElem? (hsub i _ hg))
        have hkk := hks i _ hg
        have := (hrows _ _ (hsub i _ hg) j _ (List.getElem?_eq_getElem (by rw [hrl]; exact hj))).1
        rw [hkk] at this
        rwa [show off + (l + i) * size + j = off + l * size + i * size + j from by rw [Nat.add_mul]; omega] at this
      · have hg := List.getElem?_eq_getElem hi
        have hrl := hk _ (List.mem_of_getElem? (hsub i _ hg))
        have hkk := hks i _ hg
        obtain ⟨c, hc, _⟩ := (hrows _ _ (hsub i _ hg) j _ (List.getElem?_eq_getElem (by rw [hrl]; exact hj))).2
        rw [hkk, show off + (l + i) * size + j = off + l * size + i * size + j from by rw [Nat.add_mul]; omega] at hc
        obtain ⟨c', hc', _, h1'⟩ := (hrows _ _ (hsub i _ hg) j _ (List.getElem?_eq_getElem (by rw [hrl]; exact hj))).2
        rw [hkk, show off + (l + i) * size + j = off + l * size + i * size + j from by rw [Nat.add_mul]; omega] at hc'
        show _ = some ((w.cell? _).getD undef) ∧ ((w.cell? _).getD undef).oneCell' = true
        rw [hc]
        rw [hc] at hc'
        cases hc'
        exact ⟨rfl, h1'⟩
      · obtain ⟨c, hc, hr', _⟩ := (hrows _ _ (hsub i r hr) j x hx).2
        rw [hks i r hr, show off + (l + i) * size + j = off + l * size + i * size + j from by rw [Nat.add_mul]; omega] at hc
        show RepP S w ((w.cell? _).getD undef) x
        rw [hc]
        exact hr'
theorem slice_sl (hτ : TauOK P τ) {t e : TypeId} {ti te : TI} (hti : τ t = some ti) (hdesc : ti.desc = .slice e) (hte : τ e = some te) {v : Value} {xs : List (List PV)} (hv : RepP S w v (.sl xs)) {lo hi : Option Value} {l hh : Nat}
    (hlo : (lo = none ∧ l = 0) ∨ ∃ k, lo = some (.int k l)) (hhi : (hi = none ∧ hh = xs.length) ∨ ∃ k, hi = some (.int k hh)) (h1 : l ≤ hh) (h2 : hh ≤ xs.length) (hk : ∀ r, r ∈ xs → r.length = te.size) :
    ∃ u, (Instr.sliceAt t v lo hi none).run P w = .ok u w ∧ RepP S w u (.sl ((xs.take hh).drop l)) := by
  have hu := hτ.u _ _ hti
  rw [hdesc] at hu
  obtain ⟨A, n, cap, rfl⟩ : ∃ A n cap, v = .slice A n cap := by
    rcases rep_sl hv with ⟨⟨A, q⟩, _⟩ | ⟨_, _, _, _, q, _⟩
    · exact ⟨_, _, _, q⟩
    · exact ⟨_, _, _, q⟩
  obtain ⟨rfl, q1, q2⟩ := slice_rep hv hk h1 h2
  refine ⟨_, ?_, q2⟩
  rcases hlo with ⟨rfl, rfl⟩ | ⟨kl, rfl⟩ <;> rcases hhi with ⟨rfl, rfl⟩ | ⟨kh, rfl⟩ <;>
    simp [Instr.sliceAt, run_underlying hu, Instr.slice, Instr.sliceBounds, run_sliceBound, run_sizeD hτ hte, h1, h2, q1]
theorem slice_slp (hτ : TauOK P τ) {t e : TypeId} {ti te : TI} (hti : τ t = some ti) (hdesc : ti.desc = .slice e) (hte : τ e = some te) {β : Nat → Nat} {v : Value} {i l0 n : Nat} (hv : RepF β S w v (.slp i te.size l0 n)) {lo hi : Option Value} {l hh : Nat}
    (hlo : (lo = none ∧ l = 0) ∨ ∃ k, lo = some (.int k l)) (hhi : (hi = none ∧ hh = n) ∨ ∃ k, hi = some (.int k hh)) (h1 : l ≤ hh) (h2 : hh ≤ n) :
    ∃ u, (Instr.sliceAt t v lo hi none).run P w = .ok u w ∧ RepF β S w u (.slp i te.size (l0 + l) (hh - l)) := by
  have hu := hτ.u _ _ hti
  rw [hdesc] at hu
  obtain ⟨cap, off, hcap, rfl, hoff⟩ := hv
  have q1 : hh ≤ cap := by omega
  refine ⟨.slice (if cap = l then some ⟨β i, off, none⟩ else some (Addr.add ⟨β i, off, none⟩ (l * te.size))) (hh - l) (cap - l), ?_, ?_⟩
  · rcases hlo with ⟨rfl, rfl⟩ | ⟨kl, rfl⟩ <;> rcases hhi with ⟨rfl, rfl⟩ | ⟨kh, rfl⟩ <;>
      simp [Instr.sliceAt, run_underlying hu, Instr.slice, Instr.sliceBounds, run_sliceBound, run_sizeD hτ hte, h1, h2, q1, hcap]
  · by_cases hc : cap = l
    · rw [if_pos hc]
      exact ⟨cap - l, off, by omega, rfl, .inl (by omega)⟩
    · rw [if_neg hc, Addr.add_lit]
      refine ⟨cap - l, off + l * te.size, by omega, rfl, ?_⟩
      rcases hoff with hz | hz
      · exact .inl (by omega)
      · exact .inr (by rw [hz, Nat.add_mul])
theorem slice_str (hτ : TauOK P τ) {t : TypeId} {ti : TI} (hti : τ t = some ti) (hdesc : ti.desc = .string) {s : ByteArray} {lo hi : Option Value} {l hh : Nat}
    (hlo : (lo = none ∧ l = 0) ∨ ∃ k, lo = some (.int k l)) (hhi : (hi = none ∧ hh = s.size) ∨ ∃ k, hi = some (.int k hh)) (h1 : l ≤ hh) (h2 : hh ≤ s.size) :
    (Instr.sliceAt t (.string s) lo hi none).run P w = .ok (.string (s.extract l hh)) w := by
  have hu := hτ.u _ _ hti
  rw [hdesc] at hu
  rcases hlo with ⟨rfl, rfl⟩ | ⟨kl, rfl⟩ <;> rcases hhi with ⟨rfl, rfl⟩ | ⟨kh, rfl⟩ <;>
    simp [Instr.sliceAt, run_underlying hu, Instr.slice, Instr.sliceBounds, run_sliceBound, h1, h2]
end
end
end Go.Proofs.YtbjfmkmaghapgaaGreatDoor.B
