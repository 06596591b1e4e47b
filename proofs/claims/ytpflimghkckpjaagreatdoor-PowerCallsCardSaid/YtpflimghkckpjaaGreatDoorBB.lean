/-
The logic of pure values: joined from the parts BOk4, BOk5, BOk6, BOk7, BReg, BReg2, BReg3, BCode. Condition: none.
-/
import Derived.Test.YtpflimghkckpjaaGreatDoorBA
import Derived.Laws.Slices
import Derived.Laws.Tables
set_option linter.unusedVariables false
set_option linter.unusedSimpArgs false
set_option linter.unnecessarySimpa false
namespace Go.Proofs.YtpflimghkckpjaaGreatDoor.B
open Go.RowKit

section
variable {G : World → Prop} {P : Program} {τ : Tau} {w0 : World} {S0 : Nat → Nat → Prop} {N : Nat} {wr : Key → Bool} {g : Key → C} {a : Act} {w : World} {β : Nat → Nat} {S : Nat → Nat → Prop}
section
variable {o : Oper} {K : Act → World → Prop} {Q : Exit → Act → World → Prop} {ws : List (Key × C)}
theorem unOp_ok (op : UnOp) (ty : TypeId) (x : Operand) (ho : o.op = .unOp op ty x) (h : Rel w0 S0 N (fun κ => wr κ = true) g a w β S) (hp : PtrOK g) (hd : dstOK N o = true) (hN : Next w0 S0 N wr g ws K)
    (he : vcT G P (opT P τ o) g wr (fun _ v => v = ws)) : o.wp P a w K Q := by
  simp only [opT, ho] at he
  obtain ⟨c, he, hv, _⟩ := opnd_ev hKt h he
  unfold tUn at he
  split at he
  · rename_i u hcv
    rw [hcv] at hv
    have hx := (rep_lit hv).1
    split at he
    · exact finWP hN hd (v := .bool _) (by simp [execOp, ho, hx, Op.unary]) h hp (RepP.lit _ rfl) (bool_ev he)
    · exact finWP hN hd (v := .int _ _) (by simp [execOp, ho, hx, Op.unary, Op.intArith]) h hp (RepP.lit _ rfl) (num_ev he)
    · exact he.elim
  · exact he.elim
theorem convert_ok (hτ : TauOK P τ) (s t : TypeId) (x : Operand) (ho : o.op = .convert s t x) (h : Rel w0 S0 N (fun κ => wr κ = true) g a w β S) (hp : PtrOK g) (hd : dstOK N o = true) (hN : Next w0 S0 N wr g ws K)
    (he : vcT G P (opT P τ o) g wr (fun _ v => v = ws)) : o.wp P a w K Q := by
  simp only [opT, ho] at he
  obtain ⟨c, he, hv, _⟩ := opnd_ev hKt h he
  unfold tConv at he
  split at he
  · rename_i k n si di hcv hsi hdi
    rw [hcv] at hv
    have hx := (rep_lit hv).1
    have hs := hτ.u _ _ hsi
    have ht := hτ.u _ _ hdi
    split at he
    · rename_i k' hk
      rw [hk] at ht
      exact finWP hN hd (v := .int _ _) (by
        cases hq : si.desc <;> rw [hq] at hs <;> simp [execOp, ho, hx, convert, run_underlying hs, run_underlying ht, Conv.intToInt]) h hp (RepP.lit _ rfl) (num_ev he)
    · exact he.elim
  · exact he.elim
theorem agg_part {vs : Array Value} {cs : List PV} (hv : RepP S w (.agg vs) (.agg cs)) (off n : Nat) (hl : ((cs.drop off).take n).length = n) : RepP S w (.agg (vs.extract off (off + n))) (.agg ((cs.drop off).take n)) := by
  obtain ⟨vs', e, h1, h2, h3⟩ := rep_agg hv
  cases e
  have hn : off + n ≤ cs.length ∨ n = 0 := by simp only [List.length_take, List.length_drop] at hl; omega
  refine .agg _ _ ?_ (fun v hm => h2 v (by
    obtain ⟨i, hi, rfl⟩ := Array.mem_iff_getElem.1 hm
    simp)) (fun i v x hv hx => ?_)
  · rw [hl]
    simp only [Array.size_extract]
    rw [h1]
    omega
  · rw [Array.getElem?_extract] at hv
    rw [List.getElem?_take] at hx
    split at hv
    · split at hx
      · rw [List.getElem?_drop] at hx
        exact h3 _ v x hv hx
      · cases hx
    · cases hv
theorem field_ok (hτ : TauOK P τ) (ty : TypeId) (x : Operand) (f : Nat) (ho : o.op = .field ty x f) (h : Rel w0 S0 N (fun κ => wr κ = true) g a w β S) (hp : PtrOK g) (hd : dstOK N o = true) (hN : Next w0 S0 N wr g ws K)
    (he : vcT G P (opT P τ o) g wr (fun _ v => v = ws)) : o.wp P a w K Q := by
  simp only [opT, ho] at he
  obtain ⟨c, he, hv, _⟩ := opnd_ev hKt h he
  unfold tField at he
  split at he
  · rename_i cs ti hcv hti
    rw [hcv] at hv
    have hu := hτ.u _ _ hti
    split at he
    · rename_i fs hfs
      rw [hfs] at hu
      split at he
      · rename_i fd hfd
        split at he
        · rename_i ft hft
          obtain ⟨vs, hx, h1, h2, h3⟩ := rep_agg hv
          split at he
          · rename_i hagg
            split at he
            · rename_i hlen
              rw [hx] at hv
              exact finWP hN hd (v := .agg (vs.extract fd.offset (fd.offset + ft.size))) (by simp [execOp, ho, hx, Instr.field, run_underlying hu, hfd, asAgg, part, run_isAggD hτ hft, run_sizeD hτ hft, hagg]) h hp (agg_part hv _ _ hlen) he
            · exact he.elim
          · rename_i hagg
            split at he
            · rename_i p hpc
              split at he
              · have hlt : fd.offset < vs.size := by rw [h1]; exact (List.getElem?_eq_some_iff.1 hpc).1
                have hf : isAggD ft.desc = false := by simpa using hagg
                exact finWP hN hd (v := vs[fd.offset]) (by simp [execOp, ho, hx, Instr.field, run_underlying hu, hfd, asAgg, part, run_isAggD hτ hft, hf, Array.getElem?_eq_getElem hlt]) h hp (h3 _ _ _ (Array.getElem?_eq_getElem hlt) hpc) he
              · exact he.elim
            · exact he.elim
        · exact he.elim
      · exact he.elim
    · exact he.elim
  · exact he.elim
theorem fieldAddr_ok (hτ : TauOK P τ) (ty : TypeId) (x : Operand) (f : Nat) (ho : o.op = .fieldAddr ty x f) (h : Rel w0 S0 N (fun κ => wr κ = true) g a w β S) (hp : PtrOK g) (hd : dstOK N o = true) (hN : Next w0 S0 N wr g ws K)
    (he : vcT G P (opT P τ o) g wr (fun _ v => v = ws)) : o.wp P a w K Q := by
  simp only [opT, ho] at he
  obtain ⟨c, he, hv, hc⟩ := opnd_ev hKt h he
  unfold tFieldAddr at he
  split at he
  · rename_i ti hti
    have hu := hτ.u _ _ hti
    split at he
    · rename_i fs hfs
      rw [hfs] at hu
      split at he
      · rename_i fd hfd
        split at he
        · rename_i ft hft
          split at he
          · exact he.elim
          · rename_i hsz
            split at he
            · rename_i i off hcv
              have hl := ptr_live (c := c) h hp hc i off hcv
              rw [hcv] at hv
              have hx : a.eval x = .pointer (some ⟨β i, off, none⟩) := hv
              exact finWV hN hd (v := .pointer (some ⟨β i, off + fd.offset, none⟩)) (by simp [execOp, ho, hx, Instr.fieldAt, run_underlying hu, hfd, Instr.sureAddr, fieldPlace, run_sizeD hτ hft, hsz, Addr.add_lit]) h hp (x := .ptr i (off + fd.offset)) rfl
                (fun i' o' e => by cases e; exact hl) he
            · rename_i row j hcv
              rw [hcv] at hv
              obtain ⟨b, base, hx, hrow⟩ := hv
              exact finWV hN hd (v := .pointer (some ⟨b, base + j + fd.offset, none⟩)) (by simp [execOp, ho, hx, Instr.fieldAt, run_underlying hu, hfd, Instr.sureAddr, fieldPlace, run_sizeD hτ hft, hsz, Addr.add_lit]) h hp (x := .ept row (j + fd.offset))
                ⟨b, base, by rw [Nat.add_assoc], hrow⟩ (fun i' o' e => by cases e) he
            · exact he.elim
        · exact he.elim
      · exact he.elim
    · exact he.elim
  · exact he.elim
theorem indexAddr_ok (hτ : TauOK P τ) (ty : TypeId) (x y : Operand) (ho : o.op = .indexAddr ty x y) (h : Rel w0 S0 N (fun κ => wr κ = true) g a w β S) (hp : PtrOK g) (hd : dstOK N o = true) (hN : Next w0 S0 N wr g ws K)
    (he : vcT G P (opT P τ o) g wr (fun _ v => v = ws)) : o.wp P a w K Q := by
  simp only [opT, ho] at he
  obtain ⟨cx, he, hvx, _⟩ := opnd_ev hKt h he
  obtain ⟨cy, he, hvy, _⟩ := opnd_ev hKt h he
  unfold tIndexAddr at he
  split at he
  · rename_i ti hti
    have hu := hτ.u _ _ hti
    split at he
    · rename_i e xs k i hdesc hcx hcy
      rw [hdesc] at hu
      rw [hcx] at hvx
      rw [hcy] at hvy
      have hy := (rep_lit hvy).1
      split at he
      · rename_i te hte
        obtain ⟨⟨h0, hlt0⟩, he⟩ := he
        have hr := List.getElem?_eq_getElem hlt0
        generalize xs[i.toNat] = r at hr
        have he := he r ⟨hr.symm⟩
        have he : vcT G P (if r.length = te.size then WV o.dst (.ept r 0) else .fail) g wr (fun _ v => v = ws) := he
        split at he
        · rename_i hlen
          rcases rep_sl hvx with ⟨_, hxs⟩ | ⟨b, off, k', cap, hx, hcap, hk, hrows⟩
          · rw [hxs] at hr; simp at hr
          · have hk' : k' = te.size := (hk r (List.mem_of_getElem? hr)).symm.trans hlen
            subst hk'
            have hlt : i.toNat < xs.length := (List.getElem?_eq_some_iff.1 hr).1
            have hi1 : i < (xs.length : Int) := by omega
            exact finWV hN hd (v := .pointer (some ⟨b, off + i.toNat * te.size, none⟩)) (by
              simp [execOp, ho, hx, hy, Instr.indexAt, asIntOf, run_underlying hu, h0, hi1, run_sizeD hτ hte, Addr.add_lit]) h hp (x := .ept r 0) ⟨b, off + i.toNat * te.size, rfl, hrows _ r hr⟩ (fun i' o' e => by cases e) he
        · exact he.elim
      · exact he.elim
    · exact he.elim
  · exact he.elim
theorem index_ok (hτ : TauOK P τ) (ty : TypeId) (x y : Operand) (ho : o.op = .index ty x y) (h : Rel w0 S0 N (fun κ => wr κ = true) g a w β S) (hp : PtrOK g) (hd : dstOK N o = true) (hN : Next w0 S0 N wr g ws K)
    (he : vcT G P (opT P τ o) g wr (fun _ v => v = ws)) : o.wp P a w K Q := by
  simp only [opT, ho] at he
  obtain ⟨cx, he, hvx, _⟩ := opnd_ev hKt h he
  obtain ⟨cy, he, hvy, _⟩ := opnd_ev hKt h he
  unfold tIndex at he
  split at he
  · rename_i ti hti
    have hu := hτ.u _ _ hti
    split at he
    · rename_i s k i hdesc hcx hcy
      rw [hdesc] at hu
      rw [hcx] at hvx
      rw [hcy] at hvy
      have hx := (rep_lit hvx).1
      have hy := (rep_lit hvy).1
      obtain ⟨⟨h0, hlt0⟩, he⟩ := he
      have hb : s[i.toNat]? = some (s[i.toNat]'hlt0) := getElem?_pos s i.toNat hlt0
      generalize s[i.toNat] = b at hb
      exact finWP hN hd (v := .int .u8 b.toNat) (by simp [execOp, ho, hx, hy, Instr.index, asIntOf, run_underlying hu, h0, hb]) h hp (RepP.lit _ rfl) (num_ev (he b ⟨hb.symm⟩))
    · rename_i n e cs k i hdesc hcx hcy
      rw [hdesc] at hu
      rw [hcx] at hvx
      rw [hcy] at hvy
      have hy := (rep_lit hvy).1
      obtain ⟨vs, hx, h1, h2, h3⟩ := rep_agg hvx
      split at he
      · rename_i te hte
        split at he
        · exact he.elim
        · rename_i hagg
          have hf : isAggD te.desc = false := by simpa using hagg
          split at he
          · rename_i hsz
            split at he
            · rename_i hlen
              obtain ⟨⟨h0, hlt0⟩, he⟩ := he
              have hr := List.getElem?_eq_getElem hlt0
              generalize (cs.map fun c => [c])[i.toNat] = r at hr
              have he := he r ⟨hr.symm⟩
              rw [List.getElem?_map] at hr
              cases hc : cs[i.toNat]? with
              | none => rw [hc] at hr; cases hr
              | some p =>
                rw [hc] at hr
                simp only [Option.map_some, Option.some.injEq] at hr
                subst hr
                have he' : vcT G P (if p.one = true then WP o.dst p else .fail) g wr (fun _ v => v = ws) := he
                split at he'
                · have hlt : i.toNat < vs.size := by rw [h1]; exact (List.getElem?_eq_some_iff.1 hc).1
                  have hi1 : i < (n : Int) := by omega
                  exact finWP hN hd (v := vs[i.toNat]) (by simp [execOp, ho, hx, hy, Instr.index, asIntOf, run_underlying hu, h0, hi1, run_sizeD hτ hte, hsz, part, run_isAggD hτ hte, hf, Array.getElem?_eq_getElem hlt]) h hp
                    (h3 _ _ _ (Array.getElem?_eq_getElem hlt) hc) he'
                · exact he'.elim
            · exact he.elim
          · exact he.elim
      · exact he.elim
    · exact he.elim
  · exact he.elim
theorem extract_ok (x : Operand) (ix : Nat) (ho : o.op = .extract x ix) (h : Rel w0 S0 N (fun κ => wr κ = true) g a w β S) (hp : PtrOK g) (hd : dstOK N o = true) (hN : Next w0 S0 N wr g ws K)
    (he : vcT G P (opT P τ o) g wr (fun _ v => v = ws)) : o.wp P a w K Q := by
  simp only [opT, ho] at he
  obtain ⟨c, he, hv, _⟩ := opnd_ev hKt h he
  split at he
  · rename_i cs hcv
    rw [hcv] at hv
    obtain ⟨vs, hx, h1, h3⟩ := rep_tup hv
    split at he
    · rename_i p hpc
      have hlt : ix < vs.size := by rw [h1]; exact (List.getElem?_eq_some_iff.1 hpc).1
      exact finWP hN hd (v := vs[ix]) (by simp [execOp, ho, hx, Instr.extract, Array.getElem?_eq_getElem hlt]) h hp (h3 _ _ _ (Array.getElem?_eq_getElem hlt) hpc) he
    · exact he.elim
  · exact he.elim
/-! ### slices -/
theorem slice_rep {A : Option Addr} {n cap size : Nat} {xs : List (List PV)} (h : RepP S w (.slice A n cap) (.sl xs)) (hk : ∀ r, r ∈ xs → r.length = size) {l hh : Nat} (h1 : l ≤ hh) (h2 : hh ≤ xs.length) :
    n = xs.length ∧ hh ≤ cap ∧ RepP S w (.slice (if cap = l then A else A.map (·.add (l * size))) (hh - l) (cap - l)) (.sl ((xs.take hh).drop l)) := by
  have hlen : ((xs.take hh).drop l).length = hh - l := by simp only [List.length_drop, List.length_take]; omega
  rcases rep_sl h with ⟨e, rfl⟩ | ⟨b, off, k, cap', e, hcap, hk', hrows⟩
  · cases e
    have : hh = 0 := by simpa using h2
    subst this
    have : l = 0 := by omega
    subst this
    exact ⟨rfl, Nat.le_refl _, by simpa using RepP.nil'⟩
  · cases e
    refine ⟨rfl, by omega, ?_⟩
    by_cases hc : cap = l
    · rw [if_pos hc]
      have hz : (xs.take hh).drop l = [] := List.eq_nil_of_length_eq_zero (by rw [hlen]; omega)
      have : hh - l = ([] : List (List PV)).length := by simp; omega
      rw [hz, this]
      exact .sl b off 0 _ [] (fun _ _ => undef) (by simp) (fun r hr => by simp at hr) (fun i j hi => absurd hi (by simp)) (fun i j hi => absurd hi (by simp)) (fun i j r x hr => by simp at hr)
    · rw [if_neg hc, ← hlen]
      have hsub : ∀ (i : Nat) (r : List PV), ((xs.take hh).drop l)[i]? = some r → xs[l + i]? = some r := fun i r hr => by
        rw [List.getElem?_drop, List.getElem?_take] at hr
        split at hr
        · exact hr
        · cases hr
      have hks : ∀ (i : Nat) (r : List PV), ((xs.take hh).drop l)[i]? = some r → k = size := fun i r hr => by
        have hm := List.mem_of_getElem? (hsub i r hr)
        exact (hk' r hm).symm.trans (hk r hm)
      show RepP S w (.slice (some (Addr.add ⟨b, off, none⟩ (l * size))) _ _) _
      rw [Addr.add_lit]
      refine .sl b (off + l * size) size _ _ (fun i j => (w.cell? ⟨b, off + l * size + i * size + j, none⟩).getD undef) (by rw [hlen]; omega) (fun r hr => ?_) (fun i j hi hj => ?_) (fun i j hi hj => ?_) (fun i j r x hr hx => ?_)
      · obtain ⟨i, hi, rfl⟩ := List.mem_iff_getElem.1 hr
        exact hk _ (List.mem_of_getElem? (hsub i _ (List.getElem?_eq_getElem hi)))
      · have hg := List.getElem?_eq_getElem hi
        have hrl := hk _ (List.mem_of_getElem? (hsub i _ hg))
        have hkk := hks i _ hg
        have := (hrows _ _ (hsub i _ hg) j _ (List.getElem?_eq_getElem (by rw [hrl]; exact hj))).1
        rw [hkk] at this
        rwa [show off + (l + i) * size + j = off + l * size + i * size + j from by rw [Nat.add_mul]; omega] at this
      · have hg := List.getElem?_eq_getElem hi
        have hrl := hk _ (List.mem_of_getElem? (hsub i _ hg))
        have hkk := hks i _ hg
        obtain ⟨c, hc, _⟩ := (hrows _ _ (hsub i _ hg) j _ (List.getElem?_eq_getElem (by rw [hrl]; exact hj))).2
        rw [hkk, show off + (l + i) * size + j = off + l * size + i * size + j from by rw [Nat.add_mul]; omega] at hc
        obtain ⟨c', hc', _, h1'⟩ := (hrows _ _ (hsub i _ hg) j _ (List.getElem?_eq_getElem (by rw [hrl]; exact hj))).2
        rw [hkk, show off + (l + i) * size + j = off + l * size + i * size + j from by rw [Nat.add_mul]; omega] at hc'
        show _ = some ((w.cell? _).getD undef) ∧ ((w.cell? _).getD undef).oneCell' = true
        rw [hc]
        rw [hc] at hc'
        cases hc'
        exact ⟨rfl, h1'⟩
      · obtain ⟨c, hc, hr', _⟩ := (hrows _ _ (hsub i r hr) j x hx).2
        rw [hks i r hr, show off + (l + i) * size + j = off + l * size + i * size + j from by rw [Nat.add_mul]; omega] at hc
        show RepP S w ((w.cell? _).getD undef) x
        rw [hc]
        exact hr'
theorem slice_sl (hτ : TauOK P τ) {t e : TypeId} {ti te : TI} (hti : τ t = some ti) (hdesc : ti.desc = .slice e) (hte : τ e = some te) {v : Value} {xs : List (List PV)} (hv : RepP S w v (.sl xs)) {lo hi : Option Value} {l hh : Nat}
    (hlo : (lo = none ∧ l = 0) ∨ ∃ k, lo = some (.int k l)) (hhi : (hi = none ∧ hh = xs.length) ∨ ∃ k, hi = some (.int k hh)) (h1 : l ≤ hh) (h2 : hh ≤ xs.length) (hk : ∀ r, r ∈ xs → r.length = te.size) :
    ∃ u, (Instr.sliceAt t v lo hi none).run P w = .ok u w ∧ RepP S w u (.sl ((xs.take hh).drop l)) := by
  have hu := hτ.u _ _ hti
  rw [hdesc] at hu
  obtain ⟨A, n, cap, rfl⟩ : ∃ A n cap, v = .slice A n cap := by
    rcases rep_sl hv with ⟨q, _⟩ | ⟨_, _, _, _, q, _⟩
    · exact ⟨_, _, _, q⟩
    · exact ⟨_, _, _, q⟩
  obtain ⟨rfl, q1, q2⟩ := slice_rep hv hk h1 h2
  refine ⟨_, ?_, q2⟩
  rcases hlo with ⟨rfl, rfl⟩ | ⟨kl, rfl⟩ <;> rcases hhi with ⟨rfl, rfl⟩ | ⟨kh, rfl⟩ <;>
    simp [Instr.sliceAt, run_underlying hu, Instr.slice, Instr.sliceBounds, run_sliceBound, run_sizeD hτ hte, h1, h2, q1]
theorem slice_str (hτ : TauOK P τ) {t : TypeId} {ti : TI} (hti : τ t = some ti) (hdesc : ti.desc = .string) {s : ByteArray} {lo hi : Option Value} {l hh : Nat}
    (hlo : (lo = none ∧ l = 0) ∨ ∃ k, lo = some (.int k l)) (hhi : (hi = none ∧ hh = s.size) ∨ ∃ k, hi = some (.int k hh)) (h1 : l ≤ hh) (h2 : hh ≤ s.size) :
    (Instr.sliceAt t (.string s) lo hi none).run P w = .ok (.string (s.extract l hh)) w := by
  have hu := hτ.u _ _ hti
  rw [hdesc] at hu
  rcases hlo with ⟨rfl, rfl⟩ | ⟨kl, rfl⟩ <;> rcases hhi with ⟨rfl, rfl⟩ | ⟨kh, rfl⟩ <;>
    simp [Instr.sliceAt, run_underlying hu, Instr.slice, Instr.sliceBounds, run_sliceBound, h1, h2]
end
end
end Go.Proofs.YtpflimghkckpjaaGreatDoor.B

set_option linter.unusedVariables false
set_option linter.unusedSimpArgs false
set_option linter.unnecessarySimpa false
namespace Go.Proofs.YtpflimghkckpjaaGreatDoor.B
open Go.RowKit

section
variable {G : World → Prop} {P : Program} {τ : Tau} {w0 : World} {S0 : Nat → Nat → Prop} {N : Nat} {wr : Key → Bool} {g : Key → C} {a : Act} {w : World} {β : Nat → Nat} {S : Nat → Nat → Prop}
section
variable {o : Oper} {K : Act → World → Prop} {Q : Exit → Act → World → Prop} {ws : List (Key × C)}
theorem slice_ok (hτ : TauOK P τ) (t : TypeId) (x : Operand) (lo hi : Option Operand) (ho : o.op = .slice t x lo hi none) (h : Rel w0 S0 N (fun κ => wr κ = true) g a w β S) (hp : PtrOK g) (hd : dstOK N o = true) (hN : Next w0 S0 N wr g ws K)
    (he : vcT G P (opT P τ o) g wr (fun _ v => v = ws)) : o.wp P a w K Q := by
  simp only [opT, ho] at he
  obtain ⟨cx, he, hvx, _⟩ := opnd_ev hKt h he
  -- the bounds
  have main : ∀ (cl ch : Option C), (∀ c, cl = some c → ∃ y, lo = some y ∧ RepF β S w (a.eval y) c.v) → (cl = none → lo = none) → (∀ c, ch = some c → ∃ y, hi = some y ∧ RepF β S w (a.eval y) c.v) → (ch = none → hi = none) →
      vcT G P (tSlice τ o.dst t cx cl ch) g wr (fun _ v => v = ws) → o.wp P a w K Q := by
    intro cl ch hl hl0 hh hh0 he
    have fin : ∀ {u : Value} {p : PV}, (Instr.sliceAt t (a.eval x) (lo.map a.eval) (hi.map a.eval) none).run P w = .ok u w → RepP S w u p → vcT G P (WP o.dst p) g wr (fun _ v => v = ws) → o.wp P a w K Q := fun hr hrep he =>
      finWP hN hd (by simp [execOp, ho, hr]) h hp hrep he
    unfold tSlice at he
    split at he
    · rename_i ti hti
      split at he
      · rename_i s hdesc hcx
        rw [hcx] at hvx
        have hx := (rep_lit hvx).1
        cases cl with
        | none =>
          have hlo := hl0 rfl
          cases ch with
          | none => exact fin (by rw [hx, hlo, hh0 rfl]; exact slice_str hτ hti hdesc (l := 0) (.inl ⟨rfl, rfl⟩) (.inl ⟨rfl, rfl⟩) (Nat.zero_le _) (Nat.le_refl _)) (RepP.lit _ rfl) (str_ev he)
          | some c =>
            obtain ⟨y, hy, hvy⟩ := hh c rfl
            simp only at he
            split at he
            · rename_i k i hci
              rw [hci] at hvy
              obtain ⟨⟨q1, q2⟩, he⟩ := he
              obtain ⟨i, rfl⟩ := Int.eq_ofNat_of_zero_le q1
              exact fin (by rw [hx, hlo, hy]; exact slice_str hτ hti hdesc (l := 0) (hh := i) (.inl ⟨rfl, rfl⟩) (.inr ⟨k, by simp [(rep_lit hvy).1]⟩) (Nat.zero_le _) (by omega)) (RepP.lit _ rfl) (str_ev he)
            · exact he.elim
        | some c =>
          obtain ⟨y, hy, hvy⟩ := hl c rfl
          cases ch with
          | none =>
            simp only at he
            split at he
            · rename_i k i hci
              rw [hci] at hvy
              obtain ⟨⟨q1, q2⟩, he⟩ := he
              obtain ⟨i, rfl⟩ := Int.eq_ofNat_of_zero_le q1
              exact fin (by rw [hx, hh0 rfl, hy]; exact slice_str hτ hti hdesc (l := i) (.inr ⟨k, by simp [(rep_lit hvy).1]⟩) (.inl ⟨rfl, rfl⟩) (by omega) (Nat.le_refl _)) (RepP.lit _ rfl) (str_ev he)
            · exact he.elim
          | some c2 =>
            obtain ⟨y2, hy2, hvy2⟩ := hh c2 rfl
            simp only at he
            split at he
            · rename_i k i k2 i2 hci hci2
              rw [hci] at hvy
              rw [hci2] at hvy2
              obtain ⟨⟨q1, q2, q3⟩, he⟩ := he
              obtain ⟨i, rfl⟩ := Int.eq_ofNat_of_zero_le q1
              obtain ⟨i2, rfl⟩ := Int.eq_ofNat_of_zero_le (by omega : 0 ≤ i2)
              exact fin (by rw [hx, hy, hy2]; exact slice_str hτ hti hdesc (l := i) (hh := i2) (.inr ⟨k, by simp [(rep_lit hvy).1]⟩) (.inr ⟨k2, by simp [(rep_lit hvy2).1]⟩) (by omega) (by omega)) (RepP.lit _ rfl) (str_ev he)
            · exact he.elim
      · rename_i e xs hdesc hcx
        rw [hcx] at hvx
        split at he
        · rename_i te hte
          split at he
          · exact he.elim
          · cases cl with
            | none =>
              have hlo := hl0 rfl
              cases ch with
              | none =>
                simp only [sliceT] at he
                rw [hlo, hh0 rfl] at fin
                have hu := hτ.u _ _ hti
                rw [hdesc] at hu
                obtain ⟨A, n, cap, hx⟩ : ∃ A n cap, a.eval x = .slice A n cap := by
                  rcases rep_sl hvx with ⟨q, _⟩ | ⟨_, _, _, _, q, _⟩
                  · exact ⟨_, _, _, q⟩
                  · exact ⟨_, _, _, q⟩
                refine fin (u := a.eval x) ?_ hvx he
                rw [hx]
                simp [Instr.sliceAt, run_underlying hu, Instr.slice, Instr.sliceBounds, run_sizeD hτ hte]
                intro _
                cases A with
                | none => rfl
                | some A => simp [Addr.add]
              | some c =>
                obtain ⟨y, hy, hvy⟩ := hh c rfl
                simp only [sliceT] at he
                split at he
                · rename_i k i hci
                  rw [hci] at hvy
                  obtain ⟨⟨q1, q2, q3⟩, he⟩ := he
                  obtain ⟨i, rfl⟩ := Int.eq_ofNat_of_zero_le q1
                  rw [hlo, hy] at fin
                  obtain ⟨u, r1, r2⟩ := slice_sl (S := S) (w := w) hτ hti hdesc hte hvx (lo := none) (hi := some (a.eval y)) (l := 0) (hh := i) (.inl ⟨rfl, rfl⟩) (.inr ⟨k, by rw [(rep_lit hvy).1]⟩) (Nat.zero_le _) (by omega) q3
                  exact fin r1 r2 (by simpa using list_ev he)
                · exact he.elim
            | some c =>
              obtain ⟨y, hy, hvy⟩ := hl c rfl
              cases ch with
              | none =>
                simp only [sliceT] at he
                split at he
                · rename_i k i hci
                  rw [hci] at hvy
                  obtain ⟨⟨q1, q2, q3⟩, he⟩ := he
                  obtain ⟨i, rfl⟩ := Int.eq_ofNat_of_zero_le q1
                  rw [hh0 rfl, hy] at fin
                  obtain ⟨u, r1, r2⟩ := slice_sl (S := S) (w := w) hτ hti hdesc hte hvx (lo := some (a.eval y)) (hi := none) (l := i) (hh := xs.length) (.inr ⟨k, by rw [(rep_lit hvy).1]⟩) (.inl ⟨rfl, rfl⟩) (by omega) (Nat.le_refl _) q3
                  exact fin r1 r2 (by simpa using list_ev he)
                · exact he.elim
              | some c2 =>
                obtain ⟨y2, hy2, hvy2⟩ := hh c2 rfl
                simp only [sliceT] at he
                split at he
                · rename_i k i k2 i2 hci hci2
                  rw [hci] at hvy
                  rw [hci2] at hvy2
                  obtain ⟨⟨q1, q2, q3, q4⟩, he⟩ := he
                  obtain ⟨i, rfl⟩ := Int.eq_ofNat_of_zero_le q1
                  obtain ⟨i2, rfl⟩ := Int.eq_ofNat_of_zero_le (by omega : 0 ≤ i2)
                  rw [hy, hy2] at fin
                  obtain ⟨u, r1, r2⟩ := slice_sl (S := S) (w := w) hτ hti hdesc hte hvx (lo := some (a.eval y)) (hi := some (a.eval y2)) (l := i) (hh := i2) (.inr ⟨k, by rw [(rep_lit hvy).1]⟩) (.inr ⟨k2, by rw [(rep_lit hvy2).1]⟩) (by omega) (by omega) q4
                  exact fin r1 r2 (by simpa using list_ev he)
                · exact he.elim
        · exact he.elim
      · exact he.elim
    · exact he.elim
  cases lo with
  | none =>
    cases hi with
    | none => exact main none none (fun c e => by cases e) (fun _ => rfl) (fun c e => by cases e) (fun _ => rfl) he
    | some y =>
      obtain ⟨c, he, hv, _⟩ := opnd_ev hKt h he
      exact main none (some c) (fun c e => by cases e) (fun _ => rfl) (fun c' e => by cases e; exact ⟨y, rfl, hv⟩) (fun e => by cases e) he
  | some z =>
    cases hi with
    | none =>
      obtain ⟨c, he, hv, _⟩ := opnd_ev hKt h he
      exact main (some c) none (fun c' e => by cases e; exact ⟨z, rfl, hv⟩) (fun e => by cases e) (fun c e => by cases e) (fun _ => rfl) he
    | some y =>
      obtain ⟨c, he, hv, _⟩ := opnd_ev hKt h he
      obtain ⟨c2, he, hv2, _⟩ := opnd_ev hKt h he
      exact main (some c) (some c2) (fun c' e => by cases e; exact ⟨z, rfl, hv⟩) (fun e => by cases e) (fun c' e => by cases e; exact ⟨y, rfl, hv2⟩) (fun e => by cases e) he
/-! ### parts laid into cells -/
def CellsR (S : Nat → Nat → Prop) (w : World) (vs : Array Value) (cs : List PV) : Prop := vs.size = cs.length ∧ (∀ v, v ∈ vs → v.oneCell' = true) ∧ ∀ (i : Nat) (v : Value) (x : PV), vs[i]? = some v → cs[i]? = some x → RepP S w v x
theorem setCs_len : ∀ (ps : List PV) (cs : List PV) (o : Nat), (setCs cs o ps).length = cs.length
  | [], cs, o => rfl
  | p :: ps, cs, o => by
    show (setCs (cs.set o p) (o + 1) ps).length = _
    rw [setCs_len ps]
    simp
theorem set_cells {off : Nat} : ∀ (us : List Value) (ps : List PV) (j : Nat) {vs : Array Value} {cs : List PV}, CellsR S w vs cs → us.length = ps.length → (∀ u, u ∈ us → u.oneCell' = true) →
    (∀ (i : Nat) (v : Value) (x : PV), us[i]? = some v → ps[i]? = some x → RepP S w v x) →
    CellsR S w ((us.zipIdx j).foldl (fun cs (c, j) => cs.setIfInBounds (off + j) c) vs) (setCs cs (off + j) ps)
  | [], [], j, vs, cs, h, _, _, _ => h
  | [], p :: ps, j, vs, cs, h, hl, _, _ => by simp at hl
  | u :: us, [], j, vs, cs, h, hl, _, _ => by simp at hl
  | u :: us, p :: ps, j, vs, cs, h, hl, h1, hr => by
    have hstep : CellsR S w (vs.setIfInBounds (off + j) u) (cs.set (off + j) p) := by
      refine ⟨by simp [h.1], fun v hv => ?_, fun i v x hv hx => ?_⟩
      · rcases Array.mem_or_eq_of_mem_setIfInBounds hv with hv | hv
        · exact h.2.1 v hv
        · exact hv ▸ h1 u (List.mem_cons_self ..)
      · rw [Array.getElem?_setIfInBounds] at hv
        rw [List.getElem?_set] at hx
        by_cases e : off + j = i
        · rw [if_pos e] at hv hx
          split at hv
          · cases hv
            split at hx
            · cases hx
              exact hr 0 u p rfl rfl
            · cases hx
          · cases hv
        · rw [if_neg e] at hv hx
          exact h.2.2 i v x hv hx
    have := set_cells (off := off) us ps (j + 1) hstep (by simpa using hl) (fun v hv => h1 v (List.mem_cons_of_mem _ hv)) (fun i v x hv hx => hr (i + 1) v x hv hx)
    rw [show off + (j + 1) = off + j + 1 from by omega] at this
    simpa [List.zipIdx_cons, setCs] using this
theorem fill_cells {place place' : Nat → Option (Nat × Nat)} (hpl : ∀ i, place i = place' i) : ∀ (ls : List (Nat × Value)) (ms : List (Nat × PV)) {vs : Array Value} {cs r : List PV}, CellsR S w vs cs → layParts place' cs ms = some r →
    ls.length = ms.length → (∀ (i : Nat) (p : Nat × Value) (q : Nat × PV), ls[i]? = some p → ms[i]? = some q → p.1 = q.1 ∧ RepP S w p.2 q.2) → ∃ us, Instr.fill place vs ls = some us ∧ CellsR S w us r
  | [], [], vs, cs, r, h, hr, _, _ => by
    cases hr
    exact ⟨vs, rfl, h⟩
  | [], m :: ms, vs, cs, r, h, hr, hl, _ => by simp at hl
  | p :: ls, [], vs, cs, r, h, hr, hl, _ => by simp at hl
  | (i, v) :: ls, (i', p) :: ms, vs, cs, r, h, hr, hl, hq => by
    obtain ⟨e, hv⟩ := hq 0 _ _ rfl rfl
    have e : i = i' := e
    subst e
    have hv : RepP S w v p := hv
    unfold layParts at hr
    split at hr
    · rename_i off size ps hp hps
      split at hr
      · rename_i hc
        obtain ⟨q1, q2, q3⟩ := cellsP_cells hv hps
        have hstep := set_cells (off := off) v.cells.toList ps 0 h (by simp [q1]) (fun u hu => q2 u (by simpa using hu)) (fun i u x hu hx => q3 i u x (by simpa using hu) hx)
        obtain ⟨us, r1, r2⟩ := fill_cells hpl ls ms hstep hr (by simpa using hl) (fun j p' q' hp' hq' => hq (j + 1) p' q' hp' hq')
        refine ⟨us, ?_, r2⟩
        unfold Instr.fill
        rw [hpl, hp]
        have c1 : ¬ ((decide (v.cells.size ≠ size) || decide (off + v.cells.size > vs.size)) = true) := by
          have := h.1
          simp
          omega
        rw [← r1]
        show (if (decide (v.cells.size ≠ size) || decide (off + v.cells.size > vs.size)) = true then none else Instr.fill place (v.cells.zipIdx.foldl (fun cs (c, j) => cs.setIfInBounds (off + j) c) vs) ls) = _
        rw [if_neg c1, ← Array.foldl_toList, Array.toList_zipIdx]
      · cases hr
    · cases hr
theorem places_run (hτ : TauOK P τ) : ∀ (fs : List Field) {pl : List (Nat × Nat)}, placesOf τ fs = some pl → fs.mapM (fun f => (P.info? f.type).map fun i => (f.offset, i.size)) = some pl
  | [], pl, h => by cases h; rfl
  | f :: fs, pl, h => by
    unfold placesOf at h
    split at h
    · rename_i ft r hft hr
      cases h
      obtain ⟨i, h1, h2, _⟩ := hτ.i _ _ hft
      simp [List.mapM_cons, h1, h2, places_run hτ fs hr]
    · cases h
theorem zero_cells (hτ : TauOK P τ) {t : TypeId} {ti : TI} (h : τ t = some ti) : CellsR S w ti.zero.cells (ti.zero.cells.toList.map cellP) := by
  obtain ⟨hz1, hz2⟩ := hτ.z t ti h
  have h' : ∀ v, v ∈ ti.zero.cells → v.oneCell' = true := fun v hv => List.all_eq_true.1 hz2 v (by simpa using hv)
  refine ⟨by simp, h', fun i v x hv hx => ?_⟩
  rw [List.getElem?_map, Array.getElem?_toList, hv] at hx
  simp only [Option.map_some, Option.some.injEq] at hx
  subst hx
  exact cellP_rep v (h' v (Array.mem_of_getElem? hv))
theorem parts_rel (h : Rel w0 S0 N (fun κ => wr κ = true) g a w β S) {parts : Array (Nat × Operand)} {cs : List C} {ps : List PV} (hl : cs.length = (parts.toList.map (·.2)).length)
    (hc : ∀ (i : Nat) x c, (parts.toList.map (·.2))[i]? = some x → cs[i]? = some c → RepF β S w (a.eval x) c.v) (hps : pvs cs = some ps) :
    (parts.map fun (i, x) => (i, a.eval x)).toList.length = ((parts.toList.map (·.1)).zip ps).length ∧
    ∀ (i : Nat) (p : Nat × Value) (q : Nat × PV), (parts.map fun (i, x) => (i, a.eval x)).toList[i]? = some p → ((parts.toList.map (·.1)).zip ps)[i]? = some q → p.1 = q.1 ∧ RepP S w p.2 q.2 := by
  obtain ⟨k1, k2⟩ := pvs_some hps
  refine ⟨by simp [k1, hl], fun i p q hp hq => ?_⟩
  rw [Array.toList_map, List.getElem?_map] at hp
  cases hx : parts.toList[i]? with
  | none => rw [hx] at hp; cases hp
  | some x =>
    rw [hx] at hp
    simp only [Option.map_some, Option.some.injEq] at hp
    subst hp
    rw [List.zip_eq_zipWith, List.getElem?_zipWith] at hq
    rw [List.getElem?_map, hx] at hq
    cases hps' : ps[i]? with
    | none => rw [hps'] at hq; simp at hq
    | some p =>
      rw [hps'] at hq
      simp at hq
      subst hq
      have hi : i < cs.length := by rw [← k1]; exact (List.getElem?_eq_some_iff.1 hps').1
      have hcv := k2 i _ p (List.getElem?_eq_getElem hi) hps'
      have := hc i x.2 _ (by rw [List.getElem?_map, hx]; rfl) (List.getElem?_eq_getElem hi)
      rw [hcv] at this
      exact ⟨rfl, this⟩
theorem build_ok (hτ : TauOK P τ) (t : TypeId) (parts : Array (Nat × Operand)) (ho : o.op = .build t parts) (h : Rel w0 S0 N (fun κ => wr κ = true) g a w β S) (hp : PtrOK g) (hd : dstOK N o = true) (hN : Next w0 S0 N wr g ws K)
    (he : vcT G P (opT P τ o) g wr (fun _ v => v = ws)) : o.wp P a w K Q := by
  simp only [opT, ho] at he
  obtain ⟨cs, he, hl, hc⟩ := opnds_ev hKt h he
  unfold tBuild at he
  split at he
  · rename_i ti ps hti hps
    obtain ⟨z1, z2⟩ := parts_rel h hl hc hps
    have hu := hτ.u _ _ hti
    split at he
    · rename_i fs hfs
      rw [hfs] at hu
      split at he
      · rename_i pl hpl
        split at he
        · rename_i r hr
          obtain ⟨us, r1, r2⟩ := fill_cells (S := S) (w := w) (place := fun i => pl.toArray[i]?) (fun i => by simp) _ _ (zero_cells hτ hti) hr z1 z2
          exact finWP hN hd (v := .agg us) (by
            have hr1 := run_places (P := P) w _ _ (places_run hτ fs.toList hpl)
            simp [execOp, ho, Instr.build, run_zeroD hτ hti, run_underlying hu, Array.mapM_eq_mapM_toList, hr1]
            have r1' : Instr.fill (fun x => pl[x]?) ti.zero.cells (List.map (fun x => (x.fst, a.eval x.snd)) parts.toList) = some us := by
              rw [← r1]
              congr 1
              · funext i; simp
              · simp
            rw [r1']
            rfl) h hp (.agg us r r2.1 r2.2.1 r2.2.2) he
        · exact he.elim
      · exact he.elim
    · rename_i n e hfs
      rw [hfs] at hu
      split at he
      · rename_i te hte
        split at he
        · rename_i r hr
          obtain ⟨us, r1, r2⟩ := fill_cells (S := S) (w := w) (place := fun i => some (i * te.size, te.size)) (fun i => rfl) _ _ (zero_cells hτ hti) hr z1 z2
          exact finWP hN hd (v := .agg us) (by
            simp only [execOp, ho, Instr.build, Sem.run_bind, run_zeroD hτ hti, run_underlying hu, run_sizeD hτ hte, Result.andThen_ok]
            rw [show (Array.map (fun x : Nat × Operand => (x.fst, a.eval x.snd)) parts) = (parts.map fun (i, x) => (i, a.eval x)) from rfl, r1]
            rfl) h hp (.agg us r r2.1 r2.2.1 r2.2.2) he
        · exact he.elim
      · exact he.elim
    · exact he.elim
  · exact he.elim
end
end
end Go.Proofs.YtpflimghkckpjaaGreatDoor.B

set_option linter.unusedVariables false
set_option linter.unusedSimpArgs false
set_option linter.unnecessarySimpa false
namespace Go.Proofs.YtpflimghkckpjaaGreatDoor.B
open Go.RowKit

section
variable {G : World → Prop} {P : Program} {τ : Tau} {w0 : World} {S0 : Nat → Nat → Prop} {N : Nat} {wr : Key → Bool} {g : Key → C} {a : Act} {w : World} {β : Nat → Nat} {S : Nat → Nat → Prop}
theorem fold_set {off : Nat} : ∀ (us : List Value) (j : Nat) (pre mid post : List Value), pre.length = off + j → mid.length = us.length →
    ((us.zipIdx j).foldl (fun (cs : Array Value) (c, j) => cs.setIfInBounds (off + j) c) (pre ++ mid ++ post).toArray) = (pre ++ us ++ post).toArray
  | [], j, pre, mid, post, _, hm => by
    have : mid = [] := List.eq_nil_of_length_eq_zero (by simpa using hm)
    subst this
    rfl
  | u :: us, j, pre, [], post, _, hm => by simp at hm
  | u :: us, j, pre, m :: mid, post, hp, hm => by
    have := fold_set (off := off) us (j + 1) (pre ++ [u]) mid post (by simp [hp]; omega) (by simpa using hm)
    rw [List.zipIdx_cons, List.foldl_cons]
    have e : (pre ++ (m :: mid) ++ post).toArray.setIfInBounds (off + j) u = (pre ++ [u] ++ mid ++ post).toArray := by
      rw [← hp, List.setIfInBounds_toArray]
      congr 1
      rw [List.append_assoc, List.set_append_right _ _ (Nat.le_refl _)]
      simp
    show List.foldl _ ((pre ++ (m :: mid) ++ post).toArray.setIfInBounds (off + j) u) _ = _
    rw [e, this]
    simp
theorem fill_seq {size : Nat} : ∀ (rows : List Value) (m : Nat) (pre mid : List Value), pre.length = m * size → mid.length = rows.length * size → (∀ v, v ∈ rows → v.cells.size = size) →
    Instr.fill (fun i => some (i * size, size)) (pre ++ mid).toArray ((List.range' m rows.length).zip rows) = some (pre ++ rows.flatMap (fun v => v.cells.toList)).toArray
  | [], m, pre, mid, _, hm, _ => by
    have : mid = [] := List.eq_nil_of_length_eq_zero (by simpa using hm)
    subst this
    simp [Instr.fill]
  | v :: rows, m, pre, mid, hp, hm, hr => by
    have hv := hr v (List.mem_cons_self ..)
    have hsz : mid.length = size + rows.length * size := by rw [hm, List.length_cons, Nat.add_mul, Nat.one_mul, Nat.add_comm]
    have hmid : mid = mid.take size ++ mid.drop size := (List.take_append_drop _ _).symm
    have hf := fold_set (off := m * size) v.cells.toList 0 pre (mid.take size) (mid.drop size) (by rw [hp]; rfl) (by simp [hv, hsz])
    have ih := fill_seq rows (m + 1) (pre ++ v.cells.toList) (mid.drop size) (by simp [hp, hv, Nat.add_mul]) (by simp [hsz]) (fun u hu => hr u (List.mem_cons_of_mem _ hu))
    rw [List.length_cons, List.range'_succ, List.zip_cons_cons]
    show (if (decide (v.cells.size ≠ size) || decide (m * size + v.cells.size > (pre ++ mid).toArray.size)) = true then none else Instr.fill _ (v.cells.zipIdx.foldl (fun cs (c, j) => cs.setIfInBounds (m * size + j) c) (pre ++ mid).toArray) _) = _
    have c1 : ¬ ((decide (v.cells.size ≠ size) || decide (m * size + v.cells.size > (pre ++ mid).toArray.size)) = true) := by
      simp [hv, hp, hsz]
    rw [if_neg c1, ← Array.foldl_toList, Array.toList_zipIdx]
    have e : (pre ++ mid).toArray = (pre ++ mid.take size ++ mid.drop size).toArray := by rw [List.append_assoc, ← hmid]
    rw [e, hf]
    rw [ih]
    simp
theorem flat_at {k : Nat} : ∀ (rows : List Value), (∀ v, v ∈ rows → v.cells.size = k) → ∀ (i j : Nat) v, rows[i]? = some v → j < k → (rows.flatMap (fun v => v.cells.toList))[i * k + j]? = v.cells[j]?
  | [], _, i, j, v, h, _ => by simp at h
  | u :: rows, hr, i, j, v, h, hj => by
    have hu := hr u (List.mem_cons_self ..)
    rw [List.flatMap_cons]
    cases i with
    | zero =>
      simp at h
      subst h
      rw [List.getElem?_append_left (by simp [hu]; omega)]
      simp
    | succ i =>
      rw [List.getElem?_append_right (by simp [hu, Nat.add_mul]; omega)]
      have := flat_at rows (fun v hv => hr v (List.mem_cons_of_mem _ hv)) i j v (by simpa using h) hj
      rw [← this]
      congr 1
      simp [hu, Nat.add_mul]
      omega
theorem flat_len {k : Nat} : ∀ (rows : List Value), (∀ v, v ∈ rows → v.cells.size = k) → (rows.flatMap (fun v => v.cells.toList)).length = rows.length * k
  | [], _ => by simp
  | u :: rows, hr => by
    rw [List.flatMap_cons, List.length_append, flat_len rows (fun v hv => hr v (List.mem_cons_of_mem _ hv))]
    simp [hr u (List.mem_cons_self ..), Nat.add_mul]
    omega
theorem rowsOf_some {k : Nat} : ∀ {ps : List PV} {xs : List (List PV)}, rowsOf k ps = some xs → xs.length = ps.length ∧ ∀ (i : Nat) r, xs[i]? = some r → r.length = k ∧ ∃ p cs, ps[i]? = some p ∧ cellsP p = some cs ∧ r = cs.map PV.n1 ∧ cs.length = k
  | [], xs, h => by cases h; exact ⟨rfl, fun i r hr => by simp at hr⟩
  | p :: ps, xs, h => by
    unfold rowsOf at h
    split at h
    · rename_i cs r hcs hr
      split at h
      · rename_i hk
        cases h
        obtain ⟨h1, h2⟩ := rowsOf_some hr
        refine ⟨by simp [h1], fun i q hq => ?_⟩
        cases i with
        | zero => simp at hq; subst hq; exact ⟨by simp [hk], p, cs, rfl, hcs, rfl, hk⟩
        | succ i => exact h2 i q (by simpa using hq)
      · cases h
    · cases h
section
variable {o : Oper} {K : Act → World → Prop} {Q : Exit → Act → World → Prop} {ws : List (Key × C)}
theorem finOwn (hN : Next w0 S0 N wr g ws K) (hd : dstOK N o = true) {d : Tmp} (hdst : o.dst = some d) {p : PV} {e : TypeId} {k n : Nat} {xs : List Value} {v : Value} {w' : World} {ws0 : List (Key × C)} {S' : Nat → Nat → Prop} {wr' : Key → Prop}
    (hrun : (execOp a.eval o).run P w = .ok (.value v) w') (h : Rel w0 S0 N wr' (upds g ws0) a w' β S') (hp : PtrOK (upds g ws0)) (hv : RepP S' w' v p) (hap : Apart w0 (upds g ws0) a w' β S' v e k n xs)
    (hws : ws0 ++ [(.t d, ⟨.pv p, some (e, k), none⟩)] = ws) (hw : ∀ κ, wr' κ → WrP wr ws κ) : o.wp P a w K Q := by
  unfold Oper.wp
  rw [hrun]
  show K (a.put o.dst v) w'
  rw [hdst]
  have hdN : d < N := by unfold dstOK at hd; rw [hdst] at hd; simpa [Nat.blt_eq] using hd
  have h1 := h.put (c := ⟨.pv p, some (e, k), none⟩) hdN hv (by
    intro e' k' he
    cases he
    exact ⟨n, xs, hap.1, fun b hb => ⟨(hap.2 b hb).1, (hap.2 b hb).2.1, fun κ' v' _ h1 h2 => (hap.2 b hb).2.2 κ' v' h1 h2⟩⟩) (fun κ' e => by cases e) (wr' := WrP wr ws) hw (.inr (by rw [← hws]; simp [keysOf, keysOf_append]))
  have hp1 := ptrOK_upd (κ := .t d) (c := ⟨.pv p, some (e, k), none⟩) hp (fun i => by simp) (fun i o' e => by cases e)
  have hup : upd (upds g ws0) (.t d) ⟨.pv p, some (e, k), none⟩ = upds g ws := by rw [← hws, upds_append]; rfl
  rw [hup] at h1 hp1
  exact hN _ _ β S' h1 hp1
theorem own_notin (h : Rel w0 S0 N (fun κ => wr κ = true) g a w β S) {κ : Key} {v : Value} (ho : (g κ).own ≠ none) (hv : rv β a w κ = some v) : v.ownBlock ≠ some w.heap.size := by
  intro hb
  cases hq : (g κ).own with
  | none => exact ho hq
  | some p =>
    obtain ⟨u, n, ys, k1, k2, _⟩ := h.own κ p.1 p.2 hq
    rw [hv] at k1
    cases k1
    have := (k2.lt _ hb).2
    omega
theorem buildSlice_ok (hτ : TauOK P τ) (t : TypeId) (len : Nat) (parts : Array (Nat × Operand)) (ho : o.op = .buildSlice t len parts) (h : Rel w0 S0 N (fun κ => wr κ = true) g a w β S) (hp : PtrOK g) (hd : dstOK N o = true) (hN : Next w0 S0 N wr g ws K)
    (he : vcT G P (opT P τ o) g wr (fun _ v => v = ws)) : o.wp P a w K Q := by
  simp only [opT, ho] at he
  obtain ⟨cs, he, hl, hc⟩ := opnds_ev hKt h he
  unfold tBuildSlice at he
  split at he
  · rename_i ti ps hti hps
    obtain ⟨z1, z2⟩ := parts_rel h hl hc hps
    have hu := hτ.u _ _ hti
    split at he
    · rename_i e hdesc
      rw [hdesc] at hu
      split at he
      · rename_i te hte
        split at he
        · rename_i hcond
          obtain ⟨his, hsz, hpos⟩ := hcond
          split at he
          · rename_i xs hxs
            split at he
            · rename_i hxl
              obtain ⟨q1, q2⟩ := rowsOf_some hxs
              -- the rows as values
              have hpl : ps.length = len := by rw [← q1, hxl]
              have hparts : parts.toList.length = len := by
                have := congrArg List.length his
                simpa using this
              have hrows : ∀ (i : Nat) v, (parts.toList.map fun x => a.eval x.2)[i]? = some v → ∃ p, ps[i]? = some p ∧ RepP S w v p := by
                intro i v hv
                have hi : i < len := by
                  have := (List.getElem?_eq_some_iff.1 hv).1
                  simpa [hparts] using this
                have hp' : ps[i]? = some ps[i] := List.getElem?_eq_getElem (by omega)
                refine ⟨_, hp', ?_⟩
                rw [List.getElem?_map] at hv
                cases hx : parts.toList[i]? with
                | none => rw [hx] at hv; cases hv
                | some x =>
                  rw [hx] at hv
                  simp only [Option.map_some, Option.some.injEq] at hv
                  subst hv
                  have := (z2 i (x.1, a.eval x.2) (x.1, ps[i]) (by simp only [Array.toList_map, List.getElem?_map, hx]; rfl) (by
                    rw [List.zip_eq_zipWith, List.getElem?_zipWith, List.getElem?_map, hx, hp']; rfl)).2
                  exact this
              have hcells : ∀ v, v ∈ (parts.toList.map fun x => a.eval x.2) → v.cells.size = te.size ∧ ∀ u, u ∈ v.cells → u.oneCell' = true := by
                intro v hv
                obtain ⟨i, hi, rfl⟩ := List.mem_iff_getElem.1 hv
                obtain ⟨p, hp1, hp2⟩ := hrows i _ (List.getElem?_eq_getElem hi)
                have hix : i < xs.length := by rw [q1]; exact (List.getElem?_eq_some_iff.1 hp1).1
                obtain ⟨_, p', cs', k1, k2, _, k4⟩ := q2 i _ (List.getElem?_eq_getElem hix)
                rw [hp1] at k1
                cases k1
                have := cellsP_cells hp2 k2
                exact ⟨by rw [this.1, k4], this.2.1⟩
              let rows := parts.toList.map fun x => a.eval x.2
              let flat := rows.flatMap (fun v => v.cells.toList)
              have hrl : rows.length = len := by simp [rows, hparts]
              have hfl : flat.length = len * te.size := by
                show (rows.flatMap _).length = _
                rw [flat_len rows (fun v hv => (hcells v hv).1), hrl]
              have hrun : (Instr.buildSlice t len (parts.map fun (i, x) => (i, a.eval x))).run P w = .ok (.slice (some ⟨w.heap.size, 0, none⟩) len len) (w.alloc (.cells flat.toArray e)) := by
                have hpt : (parts.map fun (i, x) => (i, a.eval x)).toList = (List.range' 0 rows.length).zip rows := by
                  rw [hrl, ← List.range_eq_range', ← his]
                  simp only [Array.toList_map, rows]
                  exact List.ext_getElem? (fun i => by
                    rw [List.zip_eq_zipWith, List.getElem?_zipWith, List.getElem?_map, List.getElem?_map, List.getElem?_map]
                    cases parts.toList[i]? <;> rfl)
                have hfill : ∀ zs : Array Value, Instr.fill (fun i => some (i * te.size, te.size)) ((Array.range (len * te.size)).map (zs[· % zs.size]!)) (parts.map fun (i, x) => (i, a.eval x)).toList = some flat.toArray := fun zs => by
                  have hf := fill_seq (size := te.size) rows 0 [] ((Array.range (len * te.size)).map (zs[· % zs.size]!)).toList (by simp) (by simp [hrl]) (fun v hv => (hcells v hv).1)
                  have e0 : ([] ++ ((Array.range (len * te.size)).map (zs[· % zs.size]!)).toList).toArray = (Array.range (len * te.size)).map (zs[· % zs.size]!) := by rw [List.nil_append, Array.toArray_toList]
                  rw [e0, ← hpt, List.nil_append] at hf
                  exact hf
                have hns : ¬ (len * te.size > 2 ^ 24) := by omega
                have hfill' : ∀ zs : Array Value, Instr.fill (fun i => some (i * te.size, te.size)) ((Array.range (len * te.size)).map (zs[· % zs.size]!)) (parts.map fun x => (x.fst, a.eval x.snd)).toList = some flat.toArray := hfill
                simp only [Instr.buildSlice, Sem.run_bind, run_underlying hu, run_sizeD hτ hte, Result.andThen_ok, if_neg hns, Sem.run_pure]
                by_cases h0 : len * te.size = 0
                · rw [if_pos h0]
                  simp only [Sem.run_bind, Sem.run_pure, Result.andThen_ok]
                  rw [hfill']
                  rfl
                · rw [if_neg h0]
                  simp only [Sem.run_bind, Sem.run_pure, Result.andThen_ok, run_zeroD hτ hte]
                  rw [hfill']
                  rfl
              have hlm : len ≤ maxLen := by
                have : len ≤ len * te.size := Nat.le_mul_of_pos_right _ hpos
                unfold maxLen
                omega
              -- the relation at the new world
              have hW : Below w.heap.size w (w.alloc (.cells flat.toArray e)) := (Below.refl _ _).alloc (Nat.le_refl _) _
              have hcell : ∀ q, (w.alloc (.cells flat.toArray e)).cell? ⟨w.heap.size, q, none⟩ = flat[q]? := fun q => by
                rw [World.cell?_alloc_at _ _ _ _ rfl]; simp
              have hrel := h.grow (S' := fun b q => S b q ∨ (b = w.heap.size ∧ q < len * te.size)) hW (fun b q hs => .inl hs) (fun b q hs => hs.imp id (fun e => by omega)) (fun b q hs => by
                rcases hs with hs | ⟨rfl, _⟩
                · have := h.sa b q hs; simp; omega
                · simp)
              have hrep : RepP (fun b q => S b q ∨ (b = w.heap.size ∧ q < len * te.size)) (w.alloc (.cells flat.toArray e)) (.slice (some ⟨w.heap.size, 0, none⟩) len len) (.sl xs) := by
                have := RepP.sl (S := fun b q => S b q ∨ (b = w.heap.size ∧ q < len * te.size)) (w := w.alloc (.cells flat.toArray e)) w.heap.size 0 te.size len xs (fun i j => (flat[i * te.size + j]?).getD undef)
                rw [hxl] at this
                have hat : ∀ i j, i < len → j < te.size → ∃ u p x, flat[i * te.size + j]? = some u ∧ u.oneCell' = true ∧ xs[i]? = some p ∧ p[j]? = some x ∧ RepP S w u x := by
                  intro i j hi hj
                  obtain ⟨v, hv⟩ : ∃ v, rows[i]? = some v := ⟨_, List.getElem?_eq_getElem (by omega)⟩
                  obtain ⟨p, hp1, hp2⟩ := hrows i v hv
                  have hix : i < xs.length := by omega
                  have hxg := List.getElem?_eq_getElem hix
                  obtain ⟨k0, p', cs', k1, k2, k3, k4⟩ := q2 i _ hxg
                  rw [hp1] at k1
                  cases k1
                  have hcc := cellsP_cells hp2 k2
                  have hjl : j < v.cells.size := by rw [hcc.1, k4]; exact hj
                  have hvj : v.cells[j]? = some v.cells[j] := Array.getElem?_eq_getElem hjl
                  have hcj : cs'[j]? = some (cs'[j]'(by omega)) := List.getElem?_eq_getElem (by omega)
                  refine ⟨v.cells[j], xs[i], (cs'[j]'(by omega)).n1, ?_, hcc.2.1 _ (Array.getElem_mem hjl), hxg, ?_, (hcc.2.2 j _ _ hvj hcj).nil1⟩
                  · rw [← hvj]
                    exact flat_at rows (fun v hv => (hcells v hv).1) i j v hv hj
                  · rw [k3, List.getElem?_map, hcj]; rfl
                refine this (Nat.le_refl _) (fun r hr => ?_) (fun i j hi hj => .inr ⟨rfl, ?_⟩) (fun i j hi hj => ?_) (fun i j r x hr hx => ?_)
                · obtain ⟨i, hi, rfl⟩ := List.mem_iff_getElem.1 hr
                  exact (q2 i _ (List.getElem?_eq_getElem hi)).1
                · have : (i + 1) * te.size ≤ len * te.size := Nat.mul_le_mul_right _ hi
                  rw [Nat.add_mul] at this
                  omega
                · obtain ⟨u, p, x, k1, k2, _⟩ := hat i j hi hj
                  rw [Nat.zero_add, hcell, k1]
                  exact ⟨rfl, k2⟩
                · have hi : i < len := by rw [← hxl]; exact (List.getElem?_eq_some_iff.1 hr).1
                  have hj : j < te.size := by
                    have := (q2 i r hr).1
                    rw [← this]
                    exact (List.getElem?_eq_some_iff.1 hx).1
                  obtain ⟨u, p, x', k1, k2, k3, k4, k5⟩ := hat i j hi hj
                  rw [hr] at k3
                  cases k3
                  rw [hx] at k4
                  cases k4
                  rw [k1]
                  exact k5.mono (fun b q hs => .inl hs) (fun b q hs => hW.cell (p := ⟨b, q, none⟩) (h.sa b q hs))
              have hown := World.ownsRow_lit (e := e) (size := te.size) w flat.toArray len (base := w0.heap.size) h.below.size hlm (by simp [hfl])
              cases hdst : o.dst with
              | none =>
                rw [hdst] at he
                have hws : ([] : List (Key × C)) = ws := he
                subst hws
                unfold Oper.wp
                rw [show (execOp a.eval o).run P w = .ok (.value (.slice (some ⟨w.heap.size, 0, none⟩) len len)) (w.alloc (.cells flat.toArray e)) by simp only [execOp, ho, Sem.run_bind, hrun, Result.andThen_ok]; rfl]
                show K (a.put o.dst _) _
                rw [hdst]
                exact hN _ _ β _ (hrel.wider (fun κ hk => .inl hk)) hp
              | some d =>
                rw [hdst] at he
                have hws : [(Key.t d, (⟨.pv (.sl xs), some (e, te.size), none⟩ : C))] = ws := he
                refine finOwn hN hd hdst (ws0 := []) (by simp only [execOp, ho, Sem.run_bind, hrun, Result.andThen_ok]; rfl) hrel hp hrep (xs := flat) (n := len) ?_ hws (fun κ hk => .inl hk)
                refine ⟨by simpa using hown, fun b hb => ?_⟩
                have hb' : b = w.heap.size := by simpa [Value.ownBlock] using hb.symm
                subst hb'
                refine ⟨fun q hs => ?_, fun i hi e' => ?_, fun κ' v' ho' hr' hb' => ?_⟩
                · rcases hs with hs | ⟨_, hs⟩
                  · have := h.sa _ _ hs; omega
                  · exact hs
                · have := (h.al i hi).2.1
                  omega
                · have hrv : rv β a (w.alloc (.cells flat.toArray e)) κ' = rv β a w κ' := rv_same h (fun i hi o => hW.cell (p := ⟨β i, o, none⟩) (h.al i hi).2.1) (there_of_own h ho')
                  rw [hrv] at hr'
                  exact own_notin h ho' hr' hb'
            · exact he.elim
          · exact he.elim
        · exact he.elim
      · exact he.elim
    · exact he.elim
  · exact he.elim
end
end
end Go.Proofs.YtpflimghkckpjaaGreatDoor.B

set_option linter.unusedVariables false
set_option linter.unusedSimpArgs false
set_option linter.unnecessarySimpa false
namespace Go.Proofs.YtpflimghkckpjaaGreatDoor.B
open Go.RowKit

section
variable {G : World → Prop} {P : Program} {τ : Tau} {w0 : World} {S0 : Nat → Nat → Prop} {N : Nat} {wr : Key → Bool} {g : Key → C} {a : Act} {w : World} {β : Nat → Nat} {S : Nat → Nat → Prop}
section
variable {o : Oper} {K : Act → World → Prop} {Q : Exit → Act → World → Prop} {ws : List (Key × C)}
theorem len_ok (hτ : TauOK P τ) (c : Call) (x : Operand) (t : TypeId) (ho : o.op = .call c) (hb : c.callee = .builtin .len) (ha : c.args.toList = [x]) (ht : c.argTypes.toList = [t]) (h : Rel w0 S0 N (fun κ => wr κ = true) g a w β S) (hp : PtrOK g) (hd : dstOK N o = true) (hN : Next w0 S0 N wr g ws K)
    (he : vcT G P (opnd x fun cx => lenT o.dst τ t cx) g wr (fun _ v => v = ws)) : o.wp P a w K Q := by
  obtain ⟨cx, he, hv, _⟩ := opnd_ev hKt h he
  have ha' : c.args = #[x] := by rw [← Array.toArray_toList (xs := c.args), ha]
  have ht' : c.argTypes = #[t] := by rw [← Array.toArray_toList (xs := c.argTypes), ht]
  unfold lenT at he
  split at he
  · rename_i ti hti
    have hu := hτ.u _ _ hti
    split at he
    · rename_i e xs hdesc hcx
      rw [hdesc] at hu
      rw [hcx] at hv
      obtain ⟨A, cap, hx⟩ : ∃ A cap, a.eval x = .slice A xs.length cap := by
        rcases rep_sl hv with ⟨q, rfl⟩ | ⟨_, _, _, _, q, _⟩
        · exact ⟨_, _, q⟩
        · exact ⟨_, _, q⟩
      exact finWP hN hd (v := .int .i64 xs.length) (by simp [execOp, ho, resolve, hb, ha', ht', invoke, builtin, Builtin.len_, run_underlying hu, hx, goInt]) h hp (RepP.lit _ rfl) (num_ev he)
    · rename_i e hdesc hcx
      rw [hdesc] at hu
      rw [hcx] at hv
      have hx := rep_nil hv
      exact finWP hN hd (v := .int .i64 0) (by simp [execOp, ho, resolve, hb, ha', ht', invoke, builtin, Builtin.len_, run_underlying hu, hx, goInt]) h hp (RepP.lit _ rfl) he
    · rename_i s hdesc hcx
      rw [hdesc] at hu
      rw [hcx] at hv
      have hx := (rep_lit hv).1
      exact finWP hN hd (v := .int .i64 s.size) (by simp [execOp, ho, resolve, hb, ha', ht', invoke, builtin, Builtin.len_, run_underlying hu, hx, goInt]) h hp (RepP.lit _ rfl) (num_ev he)
    · rename_i n e hdesc
      rw [hdesc] at hu
      exact finWP hN hd (v := .int .i64 n) (by simp [execOp, ho, resolve, hb, ha', ht', invoke, builtin, Builtin.len_, run_underlying hu, goInt]) h hp (RepP.lit _ rfl) he
    · exact he.elim
  · exact he.elim
theorem maxMin_ok (mx : Bool) (c : Call) (x y : Operand) (ho : o.op = .call c) (hb : c.callee = .builtin (if mx = true then .max else .min)) (ha : c.args.toList = [x, y]) (h : Rel w0 S0 N (fun κ => wr κ = true) g a w β S) (hp : PtrOK g) (hd : dstOK N o = true) (hN : Next w0 S0 N wr g ws K)
    (he : vcT G P (opnd x fun cx => opnd y fun cy => tMaxMin o.dst mx cx cy) g wr (fun _ v => v = ws)) : o.wp P a w K Q := by
  obtain ⟨cx, he, hvx, _⟩ := opnd_ev hKt h he
  obtain ⟨cy, he, hvy, _⟩ := opnd_ev hKt h he
  have ha' : c.args = #[x, y] := by rw [← Array.toArray_toList (xs := c.args), ha]
  unfold tMaxMin at he
  split at he
  · rename_i k i k' j hcx hcy
    rw [hcx] at hvx
    rw [hcy] at hvy
    have hx := (rep_lit hvx).1
    have hy := (rep_lit hvy).1
    cases mx with
    | true => exact finWP hN hd (v := .int k (max i j)) (by
        have : (if i < j then j else i) = max i j := by split <;> omega
        simp [execOp, ho, resolve, hb, ha', invoke, builtin, Builtin.max_, Builtin.max2, hx, hy, this]) h hp (RepP.lit _ rfl) (num_ev he)
    | false => exact finWP hN hd (v := .int k (min i j)) (by
        have : (if j < i then j else i) = min i j := by split <;> omega
        simp [execOp, ho, resolve, hb, ha', invoke, builtin, Builtin.min_, Builtin.min2, hx, hy, this]) h hp (RepP.lit _ rfl) (num_ev he)
  · exact he.elim
/-! ### append -/
theorem cells_list {b off n : Nat} {R : Nat → Value → Prop} (h : ∀ q, q < n → ∃ c, w.cell? ⟨b, off + q, none⟩ = some c ∧ R q c) :
    ∃ cs : List Value, cs.length = n ∧ ∀ (q : Nat) u, cs[q]? = some u → w.cell? ⟨b, off + q, none⟩ = some u ∧ R q u := by
  refine ⟨(List.range n).map fun j => (w.cell? ⟨b, off + j, none⟩).getD undef, by simp, fun q u hu => ?_⟩
  rw [List.getElem?_map] at hu
  cases hr : (List.range n)[q]? with
  | none => rw [hr] at hu; cases hu
  | some j =>
    rw [hr] at hu
    obtain ⟨h1, h2⟩ := List.getElem?_eq_some_iff.1 hr
    simp at h1 h2
    subst h2
    obtain ⟨c, hc, hR⟩ := h q h1
    simp only [Option.map_some, Option.some.injEq] at hu
    rw [hc] at hu
    simp at hu
    subst hu
    exact ⟨hc, hR⟩
/-- The cells behind a list. -/
theorem list_cells {v : Value} {ys : List (List PV)} {k : Nat} (hpos : 0 < k) (hv : RepP S w v (.sl ys)) (hk : ∀ r, r ∈ ys → r.length = k) :
    (v = .slice none 0 0 ∧ ys = []) ∨ ∃ (b off cap : Nat) (news : List Value), v = .slice (some ⟨b, off, none⟩) ys.length cap ∧ news.length = ys.length * k ∧ (∀ (j : Nat) u, news[j]? = some u → w.cell? ((⟨b, off, none⟩ : Addr).add j) = some u) ∧ (∀ u, u ∈ news → u.oneCell' = true) ∧
      ∀ (i j : Nat) r x, ys[i]? = some r → r[j]? = some x → ∃ u, news[i * k + j]? = some u ∧ RepP S w u x := by
  rcases rep_sl hv with q | ⟨b, off, k', cap, e, hcap, hk', hrows⟩
  · exact .inl q
  · right
    have hdiv : ∀ q, q < ys.length * k → q / k < ys.length ∧ q % k < k ∧ q = (q / k) * k + q % k := fun q hq => ⟨by rw [Nat.div_lt_iff_lt_mul hpos]; exact hq, Nat.mod_lt _ hpos, by rw [Nat.mul_comm]; exact (Nat.div_add_mod q k).symm⟩
    obtain ⟨news, h1, h2⟩ := cells_list (w := w) (b := b) (off := off) (n := ys.length * k) (R := fun q c => c.oneCell' = true ∧ ∀ r x, ys[q / k]? = some r → r[q % k]? = some x → RepP S w c x) (fun q hq => by
      obtain ⟨d1, d2, d3⟩ := hdiv q hq
      have hr := List.getElem?_eq_getElem d1
      have hlr := hk _ (List.getElem_mem d1)
      have hkk : k' = k := (hk' _ (List.getElem_mem d1)).symm.trans hlr
      have hx : (ys[q / k])[q % k]? = some ((ys[q / k])[q % k]'(by rw [hlr]; exact d2)) := List.getElem?_eq_getElem _
      obtain ⟨_, c, c1, c2, c3⟩ := hrows _ _ hr _ _ hx
      rw [hkk, Nat.add_assoc, ← d3] at c1
      refine ⟨c, c1, c3, fun r x hr' hx' => ?_⟩
      rw [hr] at hr'
      cases hr'
      rw [hx] at hx'
      cases hx'
      exact c2)
    refine ⟨b, off, cap, news, e, h1, fun j u hu => by rw [Addr.add_lit]; exact (h2 j u hu).1, fun u hu => ?_, fun i j r x hr hx => ?_⟩
    · obtain ⟨q, hq, rfl⟩ := List.mem_iff_getElem.1 hu
      exact (h2 q _ (List.getElem?_eq_getElem hq)).2.1
    · have hi := (List.getElem?_eq_some_iff.1 hr).1
      have hj : j < k := by rw [← hk r (List.mem_of_getElem? hr)]; exact (List.getElem?_eq_some_iff.1 hx).1
      have hq : i * k + j < ys.length * k := by
        have : (i + 1) * k ≤ ys.length * k := Nat.mul_le_mul_right _ hi
        rw [Nat.add_mul] at this
        omega
      have hq' : i * k + j < news.length := by omega
      refine ⟨news[i * k + j], List.getElem?_eq_getElem hq', ?_⟩
      have hd1 : (i * k + j) / k = i := by rw [Nat.mul_comm, Nat.mul_add_div hpos, Nat.div_eq_of_lt hj, Nat.add_zero]
      have hd2 : (i * k + j) % k = j := by rw [Nat.mul_comm, Nat.mul_add_mod, Nat.mod_eq_of_lt hj]
      have := (h2 _ _ (List.getElem?_eq_getElem hq')).2.2 r x (by rw [hd1]; exact hr) (by rw [hd2]; exact hx)
      exact this
theorem app_fin (hτ : TauOK P τ) (c : Call) (x y : Operand) (t e : TypeId) (ti te : TI) (ho : o.op = .call c) (hb : c.callee = .builtin .append) (ha : c.args.toList = [x, y]) (ht : c.argTypes.toList = [t, t])
    (hti : τ t = some ti) (hdesc : ti.desc = .slice e) (hte : τ e = some te) (hpos : te.size ≠ 0) (hbp : te.bytes ≠ 0)
    {ws0 : List (Key × C)} (h : Rel w0 S0 N (fun κ => wr κ = true) (upds g ws0) a w β S) (hp : PtrOK (upds g ws0)) (hd : dstOK N o = true) (hN : Next w0 S0 N wr g ws K)
    {xs ys : List (List PV)} {n : Nat} {xsv : List Value} (hap : Apart w0 (upds g ws0) a w β S (a.eval x) e te.size n xsv) (hvx : RepP S w (a.eval x) (.sl xs)) (hvy : RepP S w (a.eval y) (.sl ys))
    (he : vcT G P (appT o.dst te.size te.bytes e xs ys ws0) g wr (fun _ v => v = ws)) : o.wp P a w K Q := by
  obtain ⟨⟨hbytes, hkx, hky⟩, he⟩ := he
  have hu := hτ.u _ _ hti
  rw [hdesc] at hu
  obtain ⟨i, hi1, hi2, hi3, hi4⟩ := hτ.i _ _ hte
  have hk : 0 < te.size := Nat.pos_of_ne_zero hpos
  have ha' : c.args = #[x, y] := by rw [← Array.toArray_toList (xs := c.args), ha]
  have ht' : c.argTypes = #[t, t] := by rw [← Array.toArray_toList (xs := c.argTypes), ht]
  have hn : n = xs.length := by
    rcases rep_sl hvx with ⟨q, rfl⟩ | ⟨b, off, k', cap, q, _⟩
    · rcases hap.1.2 with ⟨_, q2⟩ | ⟨_, _, _, q2, _⟩
      · exact q2
      · rw [q] at q2; cases q2
    · rcases hap.1.2 with ⟨q2, _⟩ | ⟨_, _, _, q2, _⟩
      · rw [q] at q2; cases q2
      · rw [q] at q2; cases q2; rfl
  subst hn
  have hlen63 : xs.length + ys.length ≤ maxLen := by
    have h1 : xs.length + ys.length ≤ (xs.length + ys.length) * te.bytes := Nat.le_mul_of_pos_right _ (Nat.pos_of_ne_zero hbp)
    unfold maxLen
    omega
  obtain ⟨news, hnl, hn1, hnx, hnr⟩ : ∃ news : List Value, news.length = ys.length * te.size ∧ (∀ u ∈ news, u.oneCell' = true) ∧ ((a.eval y = .slice none 0 0 ∧ ys.length = 0) ∨ ∃ ad c, a.eval y = .slice (some ad) ys.length c ∧ ∀ (j : Nat) u, news[j]? = some u → w.cell? (ad.add j) = some u) ∧
      ∀ (i j : Nat) r x, ys[i]? = some r → r[j]? = some x → ∃ u, news[i * te.size + j]? = some u ∧ RepP S w u x := by
    rcases list_cells hk hvy hky with ⟨q, rfl⟩ | ⟨b, off, cap, news, q1, q2, q3, q4, q5⟩
    · exact ⟨[], by simp, by simp, .inl ⟨q, rfl⟩, fun i j r x hr => by simp at hr⟩
    · exact ⟨news, q2, q4, .inr ⟨⟨b, off, none⟩, cap, q1, q3⟩, q5⟩
  obtain ⟨v', w', r1, r2, r3⟩ := append_run (P := P) w w0.heap.size t o.type e i te.zero te.size te.bytes hu hi1 hi4 hi2 hi3 (hτ.z _ _ hte).1 (a.eval x) xs.length xsv hap.1 (a.eval y) ys.length news hnl hn1 hnx hlen63 hbytes h.below.size
  obtain ⟨S', s1, s2, s3, s4, s5⟩ := h.append hap r2 r3
  have hrun : (execOp a.eval o).run P w = .ok (.value v') w' := by
    simp [execOp, ho, resolve, hb, ha', ht', invoke, builtin, r1]
  -- the rows of the left list, by its cells
  have hxr : ∀ (i j : Nat) r x', xs[i]? = some r → r[j]? = some x' → ∃ u, xsv[i * te.size + j]? = some u ∧ RepP S w u x' := by
    intro i j r x' hr hx'
    have hi := (List.getElem?_eq_some_iff.1 hr).1
    have hj : j < te.size := by rw [← hkx r (List.mem_of_getElem? hr)]; exact (List.getElem?_eq_some_iff.1 hx').1
    have hq : i * te.size + j < xsv.length := by
      rw [hap.1.1]
      have : (i + 1) * te.size ≤ xs.length * te.size := Nat.mul_le_mul_right _ hi
      rw [Nat.add_mul] at this
      omega
    refine ⟨xsv[i * te.size + j], List.getElem?_eq_getElem hq, ?_⟩
    rcases rep_sl hvx with ⟨q, e'⟩ | ⟨b, off, k', cap, q, _, hk', hrows⟩
    · subst e'; simp at hr
    · rcases hap.1.2 with ⟨q2, _⟩ | ⟨b', cap', cur, q2, _⟩
      · rw [q] at q2; cases q2
      · rw [q] at q2
        cases q2
        have hkk : k' = te.size := (hk' r (List.mem_of_getElem? hr)).symm.trans (hkx r (List.mem_of_getElem? hr))
        obtain ⟨_, c', c1, c2, _⟩ := hrows i r hr j x' hx'
        have c3 := hap.1.cells (g := b) (by rw [q]; rfl) _ _ (List.getElem?_eq_getElem hq)
        rw [Addr.add_lit] at c3
        rw [hkk, Nat.add_assoc, c3] at c1
        cases c1
        exact c2
  have hrep : RepP S' w' v' (.sl (xs ++ ys)) := by
    rcases r2.2 with ⟨q, q0⟩ | ⟨b, cap, cur, q, _, _, hcap, _⟩
    · have : xs ++ ys = [] := List.eq_nil_of_length_eq_zero (by rw [List.length_append]; exact q0)
      rw [q, this]
      exact .nil'
    · have hob : v'.ownBlock = some b := by rw [q]; rfl
      have hall : ∀ (i j : Nat) r x', (xs ++ ys)[i]? = some r → r[j]? = some x' → ∃ u, (xsv ++ news)[i * te.size + j]? = some u ∧ RepP S' w' u x' := by
        intro i j r x' hr hx'
        by_cases hi : i < xs.length
        · rw [List.getElem?_append_left hi] at hr
          obtain ⟨u, k1, k2⟩ := hxr i j r x' hr hx'
          exact ⟨u, by rw [List.getElem?_append_left (List.getElem?_eq_some_iff.1 k1).1]; exact k1, k2.mono s1 s2⟩
        · rw [List.getElem?_append_right (by omega)] at hr
          obtain ⟨u, k1, k2⟩ := hnr _ j r x' hr hx'
          refine ⟨u, ?_, k2.mono s1 s2⟩
          rw [List.getElem?_append_right (by
            rw [hap.1.1]
            have : xs.length * te.size ≤ i * te.size := Nat.mul_le_mul_right _ (by omega)
            omega)]
          rw [← k1]
          congr 1
          rw [hap.1.1, Nat.sub_mul]
          have : xs.length * te.size ≤ i * te.size := Nat.mul_le_mul_right _ (by omega)
          omega
      have hkall : ∀ r, r ∈ xs ++ ys → r.length = te.size := fun r hr => (List.mem_append.1 hr).elim (hkx r) (hky r)
      have hidx : ∀ (i j : Nat), i < (xs ++ ys).length → j < te.size → i * te.size + j < (xs.length + ys.length) * te.size := fun i j hi hj => by
        have : (i + 1) * te.size ≤ (xs.length + ys.length) * te.size := Nat.mul_le_mul_right _ (by rw [List.length_append] at hi; omega)
        rw [Nat.add_mul] at this
        omega
      have hcell : ∀ (q : Nat) u, (xsv ++ news)[q]? = some u → w'.cell? ⟨b, 0 + q, none⟩ = some u := fun q u hu => by
        have := r2.cells hob q u hu
        rwa [Addr.add_lit] at this
      rw [q]
      have := RepP.sl (S := S') (w := w') b 0 te.size cap (xs ++ ys) (fun i j => ((xsv ++ news)[i * te.size + j]?).getD undef)
      rw [List.length_append] at this
      refine this hcap hkall (fun i j hi hj => ?_) (fun i j hi hj => ?_) (fun i j r x' hr hx' => ?_)
      · rw [Nat.zero_add]
        exact s3 b _ hob (hidx i j (by simpa using hi) hj)
      · have hi' : i < (xs ++ ys).length := by simpa using hi
        have hlt : i * te.size + j < (xsv ++ news).length := by
          rw [List.length_append, hap.1.1, hnl, ← Nat.add_mul]
          exact hidx i j hi' hj
        have hgu := List.getElem?_eq_getElem hlt
        have hc := hcell _ _ hgu
        rw [← Nat.add_assoc] at hc
        rw [hgu]
        refine ⟨hc, ?_⟩
        show ((xsv ++ news)[i * te.size + j]).oneCell' = true
        obtain ⟨r, hr⟩ : ∃ r, (xs ++ ys)[i]? = some r := ⟨_, List.getElem?_eq_getElem hi'⟩
        have hrl := hkall r (List.mem_of_getElem? hr)
        by_cases hi2 : i < xs.length
        · rw [List.getElem?_append_left hi2] at hr
          rcases rep_sl hvx with ⟨_, e'⟩ | ⟨b2, off, k', cap2, q2, _, hk', hrows⟩
          · subst e'; simp at hi2
          · have hkk : k' = te.size := (hk' r (List.mem_of_getElem? hr)).symm.trans (hkx r (List.mem_of_getElem? hr))
            obtain ⟨_, c', c1, _, c3⟩ := hrows i r hr j _ (List.getElem?_eq_getElem (by omega))
            have hb2 : (a.eval x).ownBlock = some b2 := by rw [q2]; rfl
            have hlx : i * te.size + j < xsv.length := by
              rw [hap.1.1]
              have : (i + 1) * te.size ≤ xs.length * te.size := Nat.mul_le_mul_right _ hi2
              rw [Nat.add_mul] at this
              omega
            have c4 := hap.1.cells hb2 _ _ (List.getElem?_eq_getElem hlx)
            rcases hap.1.2 with ⟨q3, _⟩ | ⟨_, _, _, q3, _⟩
            · rw [q2] at q3; cases q3
            · rw [q2] at q3
              cases q3
              rw [Addr.add_lit] at c4
              rw [hkk, Nat.add_assoc, c4] at c1
              cases c1
              rw [List.getElem_append_left hlx]
              exact c3
        · refine hn1 _ ?_
          have hge : xsv.length ≤ i * te.size + j := by
            rw [hap.1.1]
            have : xs.length * te.size ≤ i * te.size := Nat.mul_le_mul_right _ (by omega)
            omega
          rw [List.getElem_append_right hge]
          exact List.getElem_mem _
      · obtain ⟨u, k1, k2⟩ := hall i j r x' hr hx'
        show RepP S' w' (((xsv ++ news)[i * te.size + j]?).getD undef) x'
        rw [k1]
        exact k2
  cases hdst : o.dst with
  | none => rw [hdst] at he; exact he.elim
  | some d =>
    rw [hdst] at he
    have hws : ws0 ++ [(Key.t d, (⟨.pv (.sl (xs ++ ys)), some (e, te.size), none⟩ : C))] = ws := list_ev he
    exact finOwn hN hd hdst hrun s4 hp hrep s5 hws (fun κ hk => .inl hk)
theorem apart_drop (h : Rel w0 S0 N (fun κ => wr κ = true) g a w β S) {κ : Key} {e : TypeId} {k : Nat} (ho : (g κ).own = some (e, k)) {v : Value} (hv : rv β a w κ = some v) :
    ∃ n xs, Apart w0 (upd g κ { g κ with own := none }) a w β S v e k n xs := by
  obtain ⟨v', n, xs, k1, k2, k3⟩ := h.own κ e k ho
  rw [hv] at k1
  cases k1
  have hκ : ∀ i, κ ≠ .al i := fun i e' => by subst e'; cases hv
  refine ⟨n, xs, k2, fun b hb => ⟨(k3 b hb).1, fun i hi => ?_, fun κ' v' ho' hr hb' => ?_⟩⟩
  · rw [upd_ne _ _ (fun e' => hκ i e'.symm)] at hi
    exact (k3 b hb).2 i hi
  · by_cases e2 : κ' = κ
    · subst e2; rw [upd_same] at ho'; exact ho' rfl
    · rw [upd_ne _ _ e2] at ho'
      exact e2 (h.ownd κ' κ v' _ b ho' (by rw [ho]; simp) hr hv hb' hb)
theorem append_ok (hτ : TauOK P τ) (c : Call) (x y : Operand) (t : TypeId) (ho : o.op = .call c) (hb : c.callee = .builtin .append) (ha : c.args.toList = [x, y]) (ht : c.argTypes.toList = [t, t]) (h : Rel w0 S0 N (fun κ => wr κ = true) g a w β S) (hp : PtrOK g) (hd : dstOK N o = true) (hN : Next w0 S0 N wr g ws K)
    (he : vcT G P (opnd x fun cx => opnd y fun cy => tAppend τ o.dst t x cx cy) g wr (fun _ v => v = ws)) : o.wp P a w K Q := by
  obtain ⟨cx, he, hvx, hcx⟩ := opnd_ev hKt h he
  obtain ⟨cy, he, hvy, hcy⟩ := opnd_ev hKt h he
  unfold tAppend at he
  split at he
  · rename_i ti hti
    split at he
    · rename_i e hdesc
      split at he
      · rename_i te hte
        split at he
        · exact he.elim
        · rename_i hpos
          split at he
          · exact he.elim
          · rename_i hbp
            split at he
            · exact he.elim
            · rename_i ys hys
              have hvy' : RepP S w (a.eval y) (.sl ys) := by
                cases hq : cy.v with
                | pv p =>
                  rw [hq] at hys hvy
                  cases p with
                  | sl zs => cases hys; exact hvy
                  | nil =>
                    cases hys
                    have hvy2 : RepP S w (a.eval y) .nil := hvy
                    rw [rep_nil hvy2]
                    exact .nil'
                  | _ => cases hys
                | _ => rw [hq] at hys; cases hys
              split at he
              · rename_i hcxv
                rw [hcxv] at hvx
                have hx := rep_nil hvx
                refine app_fin hτ c x y t e ti te ho hb ha ht hti hdesc hte hpos hbp (ws0 := []) h hp hd hN (n := 0) (xsv := []) ⟨by rw [hx]; exact World.ownsRow_nil _ _ _ _, fun b hb' => by rw [hx] at hb'; cases hb'⟩ (by rw [hx]; exact .nil') hvy' he
              · rename_i xs hcxv
                rw [hcxv] at hvx
                split at he
                · exact he.elim
                · rename_i kx hkx
                  cases x with
                  | tmp tx =>
                    cases hkx
                    have hcx' : cx = g (.t tx) := hcx
                    split at he
                    · rename_i e' k' hown
                      split at he
                      · rename_i hek
                        obtain ⟨rfl, rfl⟩ := hek
                        have ho' : (g (.t tx)).own = some (e', te.size) := by rw [← hcx']; exact hown
                        obtain ⟨n, xsv, hap⟩ := apart_drop h ho' (v := a.eval (.tmp tx)) rfl
                        have h1 := h.drop (.t tx) (fun i => by simp)
                        have e1 : upd g (.t tx) { g (.t tx) with own := none } = upds g [(.t tx, ⟨cx.v, none, cx.frm⟩)] := by rw [← hcx']; rfl
                        rw [e1] at h1 hap
                        exact app_fin hτ c _ y t e' ti te ho hb ha ht hti hdesc hte hpos hbp h1 (ptrOK_upd hp (fun i => by simp) (ptr_live (c := cx) h hp hcx)) hd hN hap hvx hvy' he
                      · exact he.elim
                    · split at he
                      · exact he.elim
                      · rename_i kf hfrm
                        obtain ⟨hwr, he⟩ := he
                        split at he
                        · rename_i e' k' hown
                          split at he
                          · rename_i hek
                            obtain ⟨rfl, rfl⟩ := hek
                            have hf : (g (.t tx)).frm = some kf := by rw [← hcx']; exact hfrm
                            obtain ⟨q1, q2⟩ := h.frm tx kf hf (by simp [hwr])
                            obtain ⟨n, xsv, hap⟩ := apart_drop h hown (v := a.eval (.tmp tx)) (by rw [← q1]; rfl)
                            have hκ : ∀ i, kf ≠ .al i := fun i e' => by subst e'; cases q1
                            have h1 := h.drop kf hκ
                            have e1 : upd g kf { g kf with own := none } = upds g [(kf, ⟨(g kf).v, none, (g kf).frm⟩)] := rfl
                            rw [e1] at h1 hap
                            exact app_fin hτ c _ y t e' ti te ho hb ha ht hti hdesc hte hpos hbp h1 (ptrOK_upd hp hκ (fun i o' e => hp _ _ _ e)) hd hN hap hvx hvy' he
                          · exact he.elim
                        · exact he.elim
                  | _ => cases hkx
              · exact he.elim
      · exact he.elim
    · exact he.elim
  · exact he.elim
/-! ### calls -/
theorem call_ok (hG : ∀ w', Below w0.heap.size w0 w' → G w') (c : Call) (f : Operand) (ho : o.op = .call c) (hb : c.callee = .value f) (h : Rel w0 S0 N (fun κ => wr κ = true) g a w β S) (hp : PtrOK g) (hd : dstOK N o = true) (hN : Next w0 S0 N wr g ws K)
    (he : vcT G P (opnd f fun cf => match cf.v with
    | .pv (.lit (.func (.func fid) first cap)) => if first.size = 0 ∧ cap.size = 0 then opnds c.args.toList fun cs => (match pvs cs with
      | some ps => .call fid (ps.map PV.norm) fun res ow => W o.dst ⟨.pv res, ow, none⟩
      | none => .fail) else .fail
    | _ => .fail) g wr (fun _ v => v = ws)) : o.wp P a w K Q := by
  obtain ⟨cf, he, hvf, _⟩ := opnd_ev hKt h he
  split at he
  · rename_i fid first cap hcf
    split at he
    · rename_i hsz
      rw [hcf] at hvf
      have hf := (rep_lit hvf).1
      have e1 : first = #[] := Array.eq_empty_of_size_eq_zero hsz.1
      have e2 : cap = #[] := Array.eq_empty_of_size_eq_zero hsz.2
      subst e1
      subst e2
      obtain ⟨cs, he, hl, hc⟩ := opnds_ev hKt h he
      split at he
      · rename_i ps hps
        obtain ⟨res, ow, ⟨⟨fn, hfn, hname, hbody⟩, hcall⟩, he⟩ := he
        obtain ⟨k1, k2⟩ := pvs_some hps
        have hrep : RepL S w (c.args.map a.eval) (ps.map PV.norm) := by
          refine ⟨by simp [k1, hl], fun i v p hv hp' => ?_⟩
          rw [Array.getElem?_map] at hv
          rw [List.getElem?_map] at hp'
          cases hx : c.args[i]? with
          | none => rw [hx] at hv; cases hv
          | some x =>
            rw [hx] at hv
            simp only [Option.map_some, Option.some.injEq] at hv
            subst hv
            cases hq : ps[i]? with
            | none => rw [hq] at hp'; cases hp'
            | some q =>
              rw [hq] at hp'
              simp only [Option.map_some, Option.some.injEq] at hp'
              subst hp'
              have hi : i < cs.length := by rw [← k1]; exact (List.getElem?_eq_some_iff.1 hq).1
              have hcv := k2 i _ q (List.getElem?_eq_getElem hi) hq
              have := hc i x _ (by rw [Array.getElem?_toList]; exact hx) (List.getElem?_eq_getElem hi)
              rw [hcv] at this
              exact RepP.norm this
        have hC := hcall w S (c.args.map a.eval) (hG w h.below) h.sa hrep
        have hrun : (execOp a.eval o).run P w = .ok (.enter fid (c.args.map a.eval)) w := by
          have hbn : fn.body.isNone = false := by cases hq : fn.body <;> simp_all
          have hn' : ¬ (fn.name = "runtime.NumGoroutine") := by simpa using hname
          simp [execOp, ho, resolve, hb, hf, Deferred.ofValue, invoke, callFunc, hfn, hn', hbn]
          intro hq
          rw [hq] at hbody
          cases hbody
        unfold Oper.wp
        rw [hrun]
        show Calls P fid _ w _
        refine hC.mono ?_
        rintro e w' ⟨v, S', rfl, hbel, _, s1, s2, s3, hrv, hown⟩
        have hrel := h.grow hbel s1 s2 s3
        show K (a.put o.dst v) w'
        cases hdst : o.dst with
        | none =>
          rw [hdst] at he
          have hws : ([] : List (Key × C)) = ws := he
          subst hws
          exact hN _ _ β S' (hrel.wider (fun κ hk => .inl hk)) hp
        | some d =>
          rw [hdst] at he
          have hws : [(Key.t d, (⟨.pv res, ow, none⟩ : C))] = ws := he
          subst hws
          have hdN : d < N := by unfold dstOK at hd; rw [hdst] at hd; simpa [Nat.blt_eq] using hd
          refine hN _ _ β S' (hrel.put (c := ⟨.pv res, ow, none⟩) hdN hrv ?_ (fun κ' e => by cases e) (fun κ hk => .inl hk) (.inr (by simp [keysOf]))) (ptrOK_upd hp (fun i => by simp) (fun i o' e => by cases e))
          intro e k hek
          subst hek
          obtain ⟨n, xs, q1, q2⟩ := hown
          have hsz0 := h.below.size
          refine ⟨n, xs, ⟨q1.1, ?_⟩, fun b hb' => ⟨q2 b hb', fun i hi e' => ?_, fun κ' v' _ ho' hr' hb2 => ?_⟩⟩
          · rcases q1.2 with q | ⟨g', cap, cur, z1, z2, z3⟩
            · exact .inl q
            · exact .inr ⟨g', cap, cur, z1, by omega, z3⟩
          · have := (h.al i hi).2.1
            have := (q1.lt b hb').1
            omega
          · have hrv' : rv β a w' κ' = rv β a w κ' := rv_same h (fun i hi o => hbel.cell (p := ⟨β i, o, none⟩) (h.al i hi).2.1) (there_of_own h ho')
            rw [hrv'] at hr'
            cases hq : (g κ').own with
            | none => exact ho' hq
            | some p =>
              obtain ⟨u, n2, ys, z1, z2, _⟩ := h.own κ' p.1 p.2 hq
              rw [hr'] at z1
              cases z1
              have := (z2.lt b hb2).2
              have := (q1.lt b hb').1
              omega
      · exact he.elim
    · exact he.elim
  · exact he.elim
theorem op_ok (hG : ∀ w', Below w0.heap.size w0 w' → G w') (hτ : TauOK P τ) (h : Rel w0 S0 N (fun κ => wr κ = true) g a w β S) (hp : PtrOK g) (hd : dstOK N o = true) (hN : Next w0 S0 N wr g ws K)
    (he : vcT G P (opT P τ o) g wr (fun _ v => v = ws)) : o.wp P a w K Q := by
  cases ho : o.op with
  | move x => exact move_ok x ho h hp hd hN he
  | assign x => exact assign_ok x ho h hp hd hN he
  | pick x y z => exact pick_ok x y z ho h hp hd hN he
  | alloc e => exact alloc_ok hτ e ho h hp hd hN he
  | box e x => exact box_ok e x ho h hp hd hN he
  | build t ps => exact build_ok hτ t ps ho h hp hd hN he
  | buildSlice t n ps => exact buildSlice_ok hτ t n ps ho h hp hd hN he
  | load t x => exact load_ok hτ t x ho h hp hd hN he
  | store t x y => exact store_ok hτ t x y ho h hp hd hN he
  | nilCheck x => exact nilCheck_ok x ho h hp hd hN he
  | binOp op t x y u => exact binOp_ok hτ op t u x y ho h hp hd hN he
  | unOp op t x => exact unOp_ok op t x ho h hp hd hN he
  | convert s t x => exact convert_ok hτ s t x ho h hp hd hN he
  | slice t x lo hi mx =>
    cases mx with
    | none => exact slice_ok hτ t x lo hi ho h hp hd hN he
    | some m => simp only [opT, ho] at he; exact he.elim
  | fieldAddr t x f => exact fieldAddr_ok hτ t x f ho h hp hd hN he
  | field t x f => exact field_ok hτ t x f ho h hp hd hN he
  | indexAddr t x y => exact indexAddr_ok hτ t x y ho h hp hd hN he
  | index t x y => exact index_ok hτ t x y ho h hp hd hN he
  | extract x i => exact extract_ok x i ho h hp hd hN he
  | call c =>
    simp only [opT, ho] at he
    unfold tCall at he
    split at he
    · rename_i f hc
      exact call_ok hG c f ho hc h hp hd hN he
    · exact he.elim
    · rename_i b hc
      split at he
      · rename_i x t h1 h2
        exact len_ok hτ c x t ho hc h1 h2 h hp hd hN he
      · rename_i x y t t' h1 h2
        split at he
        · rename_i e
          subst e
          exact append_ok hτ c x y t ho hc h1 h2 h hp hd hN he
        · exact he.elim
      · rename_i x y h1
        exact maxMin_ok true c x y ho (by simpa using hc) h1 h hp hd hN he
      · rename_i x y h1
        exact maxMin_ok false c x y ho (by simpa using hc) h1 h hp hd hN he
      · exact he.elim
  | _ => simp only [opT, ho] at he; exact he.elim
end
end
end Go.Proofs.YtpflimghkckpjaaGreatDoor.B

set_option linter.unusedVariables false
set_option linter.unusedSimpArgs false
set_option linter.unnecessarySimpa false
namespace Go.Proofs.YtpflimghkckpjaaGreatDoor.B
open Go.RowKit

/-! ### the state that is computed with is the state -/
theorem getL_setL : ∀ (cs : List C) (i j : Nat) (c : C), i < cs.length → getL (setL cs i c) j = if j = i then c else getL cs j
  | [], i, j, c, h => absurd h (by simp)
  | d :: cs, 0, j, c, h => by cases j <;> simp [setL, getL]
  | d :: cs, i + 1, j, c, h => by
    cases j with
    | zero => simp [setL, getL]
    | succ j =>
      have := getL_setL cs i j c (by simpa using h)
      simpa [setL, getL] using this
theorem len_setL : ∀ (cs : List C) (i : Nat) (c : C), (setL cs i c).length = cs.length
  | [], i, c => rfl
  | d :: cs, 0, c => rfl
  | d :: cs, i + 1, c => by simp [setL, len_setL cs i c]
theorem getL_putL : ∀ (cs : List C) (i j : Nat) (c : C), i ≤ cs.length → getL (putL cs i c) j = if j = i then c else getL cs j
  | [], 0, j, c, h => by cases j <;> simp [putL, getL]
  | [], i + 1, j, c, h => absurd h (by simp)
  | d :: cs, 0, j, c, h => by cases j <;> simp [putL, getL]
  | d :: cs, i + 1, j, c, h => by
    cases j with
    | zero => simp [putL, getL]
    | succ j =>
      have := getL_putL cs i j c (by simpa using h)
      simpa [putL, getL] using this
theorem getB_putB : ∀ (bs : List (Nat × List C)) (i o j : Nat) (c : C), getB (putB bs i o c) j = if j = i then (getB bs i).map (fun cs => putL cs o c) else getB bs j
  | [], i, o, j, c => by simp [putB, getB]
  | (k, cs) :: r, i, o, j, c => by
    have ih := getB_putB r i o j c
    by_cases hk : k = i
    · subst hk
      by_cases hj : j = k
      · subst hj; simp [putB, getB]
      · simp [putB, getB, hj, Ne.symm hj]
    · by_cases hj : j = i
      · subst hj
        simp only [putB, if_neg hk, getB, if_true] at ih ⊢
        exact ih
      · by_cases hkj : k = j
        · subst hkj; simp [putB, getB, hk, hj]
        · simp only [putB, if_neg hk, getB, if_neg hkj, if_neg hj] at ih ⊢
          exact ih
theorem St.set_get {s : St} {κ : Key} {c : C} (h : validW s κ c = true) : (s.set κ c).get = upd s.get κ c := by
  funext κ'
  cases κ with
  | t i =>
    have hi : i < s.tmps.length := by simpa [validW, Nat.blt_eq] using h
    cases κ' with
    | t j =>
      show getL (setL s.tmps i c) j = _
      rw [getL_setL _ _ _ _ hi]
      by_cases e : j = i
      · subst e; rw [if_pos rfl, upd_same]
      · rw [if_neg e, upd_ne _ _ (by simpa using e)]; rfl
    | b j o => rw [upd_ne _ _ (by simp)]; rfl
    | al j => rw [upd_ne _ _ (by simp)]; rfl
  | b i o =>
    simp only [validW] at h
    cases hb : getB s.boxes i with
    | none => rw [hb] at h; cases h
    | some cs =>
      rw [hb] at h
      have ho : o ≤ cs.length := by simpa [Nat.ble_eq] using h
      cases κ' with
      | t j => rw [upd_ne _ _ (by simp)]; rfl
      | b j o' =>
        show (match getB (putB s.boxes i o c) j with | some cs => getL cs o' | none => unC) = _
        rw [getB_putB]
        by_cases e : j = i
        · subst e
          rw [if_pos rfl, hb]
          show getL (putL cs o c) o' = _
          rw [getL_putL _ _ _ _ ho]
          by_cases e2 : o' = o
          · subst e2; rw [if_pos rfl, upd_same]
          · rw [if_neg e2, upd_ne _ _ (by simpa using e2)]
            show _ = (match getB s.boxes j with | some cs => getL cs o' | none => unC)
            rw [hb]
        · rw [if_neg e, upd_ne _ _ (by simp [e])]; rfl
      | al j =>
        rw [upd_ne _ _ (by simp)]
        show (match getB (putB s.boxes i o c) j with | some _ => liveC | none => unC) = (match getB s.boxes j with | some _ => liveC | none => unC)
        rw [getB_putB]
        by_cases e : j = i
        · subst e; rw [if_pos rfl, hb]; rfl
        · rw [if_neg e]
  | al i =>
    simp only [validW] at h
    split at h
    · rename_i hb
      cases κ' with
      | t j => rw [upd_ne _ _ (by simp)]; rfl
      | b j o =>
        rw [upd_ne _ _ (by simp)]
        show (match (if i = j then some [] else getB s.boxes j) with | some cs => getL cs o | none => unC) = (match getB s.boxes j with | some cs => getL cs o | none => unC)
        by_cases e : i = j
        · subst e; rw [if_pos rfl, hb]; rfl
        · rw [if_neg e]
      | al j =>
        show (match (if i = j then some [] else getB s.boxes j) with | some _ => liveC | none => unC) = _
        by_cases e : i = j
        · subst e; rw [if_pos rfl, upd_same]; rfl
        · rw [if_neg e, upd_ne _ _ (by simpa using Ne.symm e)]; rfl
    · cases h
theorem St.sets_get : ∀ {ws : List (Key × C)} {s : St}, s.valid ws = true → (s.sets ws).get = upds s.get ws
  | [], s, _ => rfl
  | (κ, c) :: ws, s, h => by
    have h' : validW s κ c = true ∧ (s.set κ c).valid ws = true := by simpa [St.valid] using h
    show ((s.set κ c).sets ws).get = upds (upd s.get κ c) ws
    rw [St.sets_get h'.2, St.set_get h'.1]

theorem memK_iff {κ : Key} : ∀ {l : List Key}, memK κ l = true ↔ κ ∈ l
  | [] => by simp [memK]
  | k :: l => by
    have ih := memK_iff (κ := κ) (l := l)
    by_cases e : κ = k
    · simp [memK, e]
    · simp [memK, e, ih]
theorem memN_iff {n : Nat} : ∀ {l : List Nat}, memN n l = true ↔ n ∈ l
  | [] => by simp [memN]
  | k :: l => by
    have ih := memN_iff (n := n) (l := l)
    by_cases e : n = k
    · simp [memN, e]
    · simp [memN, e, ih]
theorem meet_false {a b : List Key} (h : meet a b = false) : ∀ κ, κ ∈ a → κ ∉ b := by
  induction a with
  | nil => intro κ h; simp at h
  | cons x a ih =>
    simp only [meet, Bool.or_eq_false_iff] at h
    intro κ hκ
    rcases List.mem_cons.1 hκ with rfl | hκ
    · intro hb; rw [memK_iff.2 hb] at h; cases h.1
    · exact ih h.2 κ hκ

/-! ### effects of some of the operations, in the text's order -/
def F (D : Nat → Bool) : Nat → List (List (Key × C)) → (Key → C) → (Key → C)
  | _, [], g => g
  | i, ws :: r, g => F D (i + 1) r (if D i = true then upds g ws else g)
theorem upds_mem : ∀ {ws : List (Key × C)} {g g' : Key → C} {k : Key}, k ∈ keysOf ws → upds g ws k = upds g' ws k
  | [], g, g', k, h => by simp [keysOf] at h
  | (κ, c) :: ws, g, g', k, h => by
    by_cases hk : k ∈ keysOf ws
    · show upds (upd g κ c) ws k = upds (upd g' κ c) ws k
      exact upds_mem hk
    · have e : k = κ := by
        rcases List.mem_cons.1 h with e | h
        · exact e
        · exact absurd h hk
      subst e
      have q : ∀ {ws : List (Key × C)} {g : Key → C} {k : Key}, k ∉ keysOf ws → upds g ws k = g k := by
        intro ws
        induction ws with
        | nil => intro g k _; rfl
        | cons x ws ih =>
          intro g k hk
          obtain ⟨κ, c⟩ := x
          have hk' : k ≠ κ ∧ k ∉ keysOf ws := by simpa [keysOf] using hk
          show upds (upd g κ c) ws k = g k
          rw [ih hk'.2, upd_ne _ _ hk'.1]
      show upds (upd g k c) ws k = upds (upd g' k c) ws k
      rw [q hk, q hk, upd_same, upd_same]
theorem upds_not : ∀ {ws : List (Key × C)} {g : Key → C} {k : Key}, k ∉ keysOf ws → upds g ws k = g k
  | [], g, k, _ => rfl
  | (κ, c) :: ws, g, k, hk => by
    have hk' : k ≠ κ ∧ k ∉ keysOf ws := by simpa [keysOf] using hk
    show upds (upd g κ c) ws k = g k
    rw [upds_not hk'.2, upd_ne _ _ hk'.1]
theorem F_agree {D D' : Nat → Bool} {k : Key} : ∀ (r : List (List (Key × C))) (off : Nat) {g g' : Key → C}, (∀ (i : Nat) ws, r[i]? = some ws → k ∈ keysOf ws → D (off + i) = D' (off + i)) → g k = g' k → F D off r g k = F D' off r g' k
  | [], off, g, g', _, h => h
  | ws :: r, off, g, g', hD, h => by
    refine F_agree r (off + 1) (fun i ws' hi hk => by
      have := hD (i + 1) ws' (by simpa using hi) hk
      rwa [show off + (i + 1) = off + 1 + i from by omega] at this) ?_
    by_cases hk : k ∈ keysOf ws
    · have := hD 0 ws rfl hk
      rw [Nat.add_zero] at this
      rw [this]
      by_cases e : D' off = true
      · rw [if_pos e, if_pos e]; exact upds_mem hk
      · rw [if_neg e, if_neg e]; exact h
    · have q : ∀ (D : Nat → Bool) (g : Key → C), (if D off = true then upds g ws else g) k = g k := fun D g => by
        by_cases e : D off = true
        · rw [if_pos e]; exact upds_not hk
        · rw [if_neg e]
      rw [q, q]
      exact h
/-- One more operation, behind whose place none that is done writes what it writes. -/
theorem F_more {D : Nat → Bool} {k : Key} {j : Nat} {wj : List (Key × C)} : ∀ (r : List (List (Key × C))) (off : Nat) {g : Key → C}, off ≤ j → r[j - off]? = some wj → D j = false →
    (k ∈ keysOf wj → ∀ (i : Nat) ws, r[i]? = some ws → j < off + i → D (off + i) = true → k ∉ keysOf ws) → F (fun i => D i || decide (i = j)) off r g k = upds (F D off r g) wj k
  | [], off, g, _, h, _, _ => by simp at h
  | ws :: r, off, g, hoff, hj, hDj, hw => by
    by_cases e : j = off
    · subst e
      rw [Nat.sub_self] at hj
      have hj' : ws = wj := by simpa using hj
      subst hj'
      show F _ (j + 1) r (if (D j || decide (j = j)) = true then upds g ws else g) k = upds (F D (j + 1) r (if D j = true then upds g ws else g)) ws k
      rw [if_pos (by simp), hDj]
      have e0 : (if false = true then upds g ws else g) = g := rfl
      rw [e0]
      by_cases hk : k ∈ keysOf ws
      · have h1 : F (fun i => D i || decide (i = j)) (j + 1) r (upds g ws) k = F (fun _ => false) (j + 1) r (upds g ws) k := F_agree r (j + 1) (fun i ws' hi hk' => by
          have hlt : j < j + 1 + i := by omega
          cases hDi : D (j + 1 + i) with
          | true =>
            exact absurd hk' (hw hk (i + 1) ws' (by simpa using hi) (by omega) (by rw [show j + (i + 1) = j + 1 + i from by omega]; exact hDi))
          | false =>
            simp; omega) rfl
        have h2 : ∀ (r : List (List (Key × C))) (o : Nat) (g : Key → C), F (fun _ => false) o r g = g := by
          intro r
          induction r with
          | nil => intros; rfl
          | cons x r ih => intro o g; exact ih (o + 1) g
        rw [h1, h2]
        exact upds_mem hk
      · rw [upds_not hk]
        exact F_agree r (j + 1) (fun i ws' hi hk' => by
          show (D (j + 1 + i) || decide (j + 1 + i = j)) = D (j + 1 + i)
          have : decide (j + 1 + i = j) = false := by simp; omega
          rw [this, Bool.or_false]) (upds_not hk)
    · have hlt : off + 1 ≤ j := by omega
      show F _ (off + 1) r (if (D off || decide (off = j)) = true then upds g ws else g) k = upds (F D (off + 1) r (if D off = true then upds g ws else g)) wj k
      have e1 : (D off || decide (off = j)) = D off := by
        have : decide (off = j) = false := by simp; omega
        rw [this, Bool.or_false]
      rw [e1]
      refine F_more r (off + 1) hlt (by rw [show j - off = (j - (off + 1)) + 1 from by omega] at hj; simpa using hj) hDj (fun hk i ws' hi hlt' hD => hw hk (i + 1) ws' (by simpa using hi) (by omega) (by rw [show off + (i + 1) = off + 1 + i from by omega]; exact hD))
end Go.Proofs.YtpflimghkckpjaaGreatDoor.B

set_option linter.unusedVariables false
set_option linter.unusedSimpArgs false
set_option linter.unnecessarySimpa false
namespace Go.Proofs.YtpflimghkckpjaaGreatDoor.B
open Go.RowKit

section
variable {G : World → Prop} {P : Program} {τ : Tau} {w0 : World} {S0 : Nat → Nat → Prop} {N : Nat}
/-- One operation, wanted or not. -/
theorem gop_ok {ops : List Oper} {o : Oper} {i : Nat} {wr : Key → Bool} {g : Key → C} {a : Act} {w : World} {β : Nat → Nat} {S : Nat → Nat → Prop} {K : Act → World → Prop} {Q : Exit → Act → World → Prop} {ws : List (Key × C)}
    (hG : ∀ w', Below w0.heap.size w0 w' → G w') (hτ : TauOK P τ) (hi : ops[i]? = some o) (h : Rel w0 S0 N (fun κ => wr κ = true) g a w β S) (hp : PtrOK g) (hd : dstOK N o = true) (hN : Next w0 S0 N wr g ws K)
    (he : vcT G P (gT P τ ops o) g wr (fun _ v => v = ws)) : wpOp P ops.toArray Q i K a w := by
  unfold wpOp
  rw [show ops.toArray[i]? = some o by simpa using hi]
  show if Region.wanted o (yielded ops.toArray a.tmps) = true then _ else _
  have skip : vcT G P (skipT o) g wr (fun _ v => v = ws) → K (a.put o.dst undef) w := fun he' => by
    unfold skipT at he'
    cases hdst : o.dst with
    | none =>
      rw [hdst] at he'
      have hws : ([] : List (Key × C)) = ws := he'
      subst hws
      exact hN _ _ β S (h.wider (fun κ hk => .inl hk)) hp
    | some d' =>
      rw [hdst] at he'
      have hws : [(Key.t d', skC)] = ws := he'
      subst hws
      have hdN : d' < N := by unfold dstOK at hd; rw [hdst] at hd; simpa [Nat.blt_eq] using hd
      exact hN _ _ β S (h.put (c := skC) hdN (RepP.tup #[] [] rfl (fun i v x hv => by simp at hv)) (ownV_none _ _) (fun κ' e => by cases e) (fun κ hk => .inl hk) (.inr (by simp [keysOf]))) (ptrOK_upd hp (fun i => by simp) (fun i o' e => by cases e))
  unfold gT at he
  split at he
  · rename_i hg
    rw [if_pos (by simp [Region.wanted, hg])]
    exact .inl (op_ok hG hτ h hp hd hN he)
  · rename_i j want hg
    split at he
    · rename_i oj hj
      split at he
      · rename_i d hdj
        have he' : vcT G P (match (g (.t d)).v with
          | .pv (.lit (.bool b)) => guardT want b (opT P τ o) (skipT o)
          | .pv (.tup []) => skipT o
          | _ => .fail) g wr (fun _ v => v = ws) := he
        split at he'
        · rename_i b hb
          have hv := h.tm d
          rw [hb] at hv
          have hr : a.tmps.getD d undef = .bool b := (rep_lit hv).1
          have hy : yielded ops.toArray a.tmps j = some b := by
            have hq : a.tmps[d]? = some (.bool b) := by
              rw [Array.getD_eq_getD_getElem?] at hr
              cases hx : a.tmps[d]? with
              | none => rw [hx] at hr; simp [undef] at hr
              | some v => rw [hx] at hr; simpa using hr
            simp [yielded, hj, hdj, hq]
          have hwant : Region.wanted o (yielded ops.toArray a.tmps) = (b == want) := by
            simp [Region.wanted, hg, hy]
          rw [hwant]
          by_cases hbw : (b == want) = true
          · rw [if_pos hbw]
            have he2 : vcT G P (opT P τ o) g wr (fun _ v => v = ws) := by
              have e : b = want := by simpa using hbw
              subst e
              cases b
              · have he3 : vcT G P (.ite false (skipT o) (opT P τ o)) g wr (fun _ v => v = ws) := he'
                simpa [vcT] using he3
              · have he3 : vcT G P (.ite true (opT P τ o) (skipT o)) g wr (fun _ v => v = ws) := he'
                simpa [vcT] using he3
            exact .inl (op_ok hG hτ h hp hd hN he2)
          · rw [if_neg hbw]
            have he' : vcT G P (skipT o) g wr (fun _ v => v = ws) := by
              have e : b = !want := by cases b <;> cases want <;> simp_all
              subst e
              cases want
              · have he3 : vcT G P (.ite true (skipT o) (opT P τ o)) g wr (fun _ v => v = ws) := he'
                simpa [vcT] using he3
              · have he3 : vcT G P (.ite false (opT P τ o) (skipT o)) g wr (fun _ v => v = ws) := he'
                simpa [vcT] using he3
            exact skip he'
        · rename_i hb
          have hv := h.tm d
          rw [hb] at hv
          obtain ⟨vs, hvs, hz, _⟩ := rep_tup hv
          have hr : a.tmps.getD d undef = .tuple vs := hvs
          have hy : yielded ops.toArray a.tmps j = none := by
            unfold yielded
            rw [show ((ops.toArray[j]?).bind (·.dst)) = some d by simp [hj, hdj]]
            simp only [Option.bind_some]
            rw [Array.getD_eq_getD_getElem?] at hr
            cases hx : a.tmps[d]? with
            | none => rfl
            | some v =>
              rw [hx] at hr
              have : v = .tuple vs := by simpa using hr
              rw [this]
          have hwant : Region.wanted o (yielded ops.toArray a.tmps) = false := by
            simp [Region.wanted, hg, hy]
          rw [hwant, if_neg (by simp)]
          exact skip he'
        · exact he'.elim
      · exact he.elim
    · exact he.elim
open Classical in
/-- What is to be shown of the operations, as a list of their effects. -/
theorem vcOps_chain {ops : List Oper} {K : St → Trace → Prop} : ∀ (rest : List Oper) (s : St) (L : List Key) (tr : Trace), vcOps G P τ N ops rest s L tr K →
    ∃ E : List (List Key × List (Key × C)), E.length = rest.length ∧ (∀ (i : Nat) o e, rest[i]? = some o → E[i]? = some e → dstOK N o = true ∧
        vcT G P (gT P τ ops o) (F (fun q => decide (q < i)) 0 (E.map (·.2)) s.get) (fun κ => memK κ L || decide (∃ q e', q < i ∧ E[q]? = some e' ∧ κ ∈ keysOf e'.2)) (fun r v => r = e.1 ∧ v = e.2)) ∧
      ∃ s', s'.get = F (fun _ => true) 0 (E.map (·.2)) s.get ∧ K s' ((E.map fun e => (e.1, keysOf e.2)).reverse ++ tr)
  | [], s, L, tr, h => ⟨[], rfl, fun i o e ho => by simp at ho, s, rfl, h⟩
  | o :: rest, s, L, tr, h => by
    unfold vcOps at h
    split at h
    · rename_i hd
      obtain ⟨rs, ws, he, hk⟩ := vcT_ev _ h
      split at hk
      · rename_i hval
        obtain ⟨E, h1, h2, s', h3, h4⟩ := vcOps_chain rest (s.sets ws) (keysOf ws ++ L) _ hk
        have hg : (s.sets ws).get = upds s.get ws := St.sets_get hval
        refine ⟨(rs, ws) :: E, by simp [h1], fun i o' e ho he' => ?_, s', ?_, ?_⟩
        · cases i with
          | zero =>
            simp at ho he'
            subst ho
            subst he'
            refine ⟨hd, ?_⟩
            have e1 : F (fun q => decide (q < 0)) 0 (((rs, ws) :: E).map (·.2)) s.get = s.get := by
              have q : ∀ (r : List (List (Key × C))) (o : Nat) (g : Key → C), F (fun q => decide (q < 0)) o r g = g := by
                intro r
                induction r with
                | nil => intros; rfl
                | cons x r ih => intro o g; exact ih (o + 1) g
              exact q _ _ _
            have e2 : (fun κ => memK κ L || decide (∃ q e', q < 0 ∧ ((rs, ws) :: E)[q]? = some e' ∧ κ ∈ keysOf e'.2)) = fun κ => memK κ L := by
              funext κ
              have : decide (∃ q e', q < 0 ∧ ((rs, ws) :: E)[q]? = some e' ∧ κ ∈ keysOf e'.2) = false := by simp
              rw [this, Bool.or_false]
            rw [e1, e2]
            exact he
          | succ i =>
            obtain ⟨k1, k2⟩ := h2 i o' e (by simpa using ho) (by simpa using he')
            refine ⟨k1, ?_⟩
            have e1 : F (fun q => decide (q < i + 1)) 0 (((rs, ws) :: E).map (·.2)) s.get = F (fun q => decide (q < i)) 0 (E.map (·.2)) (s.sets ws).get := by
              rw [hg]
              show F _ 1 (E.map (·.2)) (if decide (0 < i + 1) = true then upds s.get ws else s.get) = _
              rw [if_pos (by simp)]
              have q : ∀ (r : List (List (Key × C))) (o : Nat) (g : Key → C), F (fun q => decide (q < i + 1)) (o + 1) r g = F (fun q => decide (q < i)) o r g := by
                intro r
                induction r with
                | nil => intros; rfl
                | cons x r ih =>
                  intro o g
                  show F _ (o + 1 + 1) r (if decide (o + 1 < i + 1) = true then upds g x else g) = F _ (o + 1) r (if decide (o < i) = true then upds g x else g)
                  rw [ih, show decide (o + 1 < i + 1) = decide (o < i) from by simp]
              exact q _ 0 _
            have e2 : (fun κ => memK κ L || decide (∃ q e', q < i + 1 ∧ ((rs, ws) :: E)[q]? = some e' ∧ κ ∈ keysOf e'.2)) = fun κ => memK κ (keysOf ws ++ L) || decide (∃ q e', q < i ∧ E[q]? = some e' ∧ κ ∈ keysOf e'.2) := by
              funext κ
              rw [Bool.eq_iff_iff]
              simp only [Bool.or_eq_true, memK_iff, decide_eq_true_eq, List.mem_append]
              constructor
              · rintro (hl | ⟨q, e', hq, hq1, hq2⟩)
                · exact .inl (.inr hl)
                · cases q with
                  | zero => simp at hq1; subst hq1; exact .inl (.inl hq2)
                  | succ q => exact .inr ⟨q, e', by omega, by simpa using hq1, hq2⟩
              · rintro ((hl | hl) | ⟨q, e', hq, hq1, hq2⟩)
                · exact .inr ⟨0, _, by omega, rfl, hl⟩
                · exact .inl hl
                · exact .inr ⟨q + 1, e', by omega, by simpa using hq1, hq2⟩
            rw [e1, e2]
            exact k2
        · rw [h3, hg]
          show _ = F _ 1 (E.map (·.2)) (upds s.get ws)
          have q : ∀ (r : List (List (Key × C))) (o o' : Nat) (g : Key → C), F (fun _ => true) o r g = F (fun _ => true) o' r g := by
            intro r
            induction r with
            | nil => intros; rfl
            | cons x r ih => intro o o' g; exact ih _ _ _
          exact q _ _ _ _
        · simpa using h4
      · exact hk.elim
    · exact h.elim
end
end Go.Proofs.YtpflimghkckpjaaGreatDoor.B

set_option linter.unusedVariables false
set_option linter.unusedSimpArgs false
set_option linter.unnecessarySimpa false
namespace Go.Proofs.YtpflimghkckpjaaGreatDoor.B
open Go.RowKit

theorem vcT_mono {G : World → Prop} {P : Program} {g : Key → C} {wr : Key → Bool} : ∀ (t : T) {K K' : List Key → List (Key × C) → Prop}, (∀ r v, K r v → K' r v) → vcT G P t g wr K → vcT G P t g wr K'
  | .ret ws, K, K', hk, h => hk _ _ h
  | .fail, K, K', hk, h => h
  | .get k f, K, K', hk, h => vcT_mono (f (g k)) (fun r v => hk _ _) h
  | .chk k t, K, K', hk, h => ⟨h.1, vcT_mono t (fun r v => hk _ _) h.2⟩
  | .row xs i f, K, K', hk, h => ⟨h.1, fun r e => vcT_mono (f r) hk (h.2 r e)⟩
  | .byte s i f, K, K', hk, h => ⟨h.1, fun r e => vcT_mono (f r) hk (h.2 r e)⟩
  | .ival n f, K, K', hk, h => fun m e => vcT_mono (f m) hk (h m e)
  | .bval n f, K, K', hk, h => fun m e => vcT_mono (f m) hk (h m e)
  | .sval n f, K, K', hk, h => fun m e => vcT_mono (f m) hk (h m e)
  | .lval n f, K, K', hk, h => fun m e => vcT_mono (f m) hk (h m e)
  | .req p t, K, K', hk, h => ⟨h.1, vcT_mono t hk h.2⟩
  | .ite b x y, K, K', hk, h => by
    by_cases hb : b = true
    · rw [vcT, if_pos hb] at h ⊢
      exact vcT_mono x hk h
    · rw [vcT, if_neg hb] at h ⊢
      exact vcT_mono y hk h
  | .call fn args f, K, K', hk, ⟨res, ow, h0, h2⟩ => ⟨res, ow, h0, vcT_mono (f res ow) hk h2⟩
abbrev Eff := List Key × List (Key × C)
def wrD (E : List Eff) (D : Nat → Bool) (κ : Key) : Prop := ∃ q e', D q = true ∧ E[q]? = some e' ∧ κ ∈ keysOf e'.2
def bare (e : Eff) : List Key × List Key := (e.1, keysOf e.2)
section
variable {G : World → Prop} {P : Program} {τ : Tau} {w0 : World} {S0 : Nat → Nat → Prop} {N : Nat}
open Classical in
def Chain (G : World → Prop) (P : Program) (τ : Tau) (N : Nat) (ops : List Oper) (g0 : Key → C) (E : List Eff) : Prop :=
  E.length = ops.length ∧ ∀ (i : Nat) o e, ops[i]? = some o → E[i]? = some e → dstOK N o = true ∧
    vcT G P (gT P τ ops o) (F (fun q => decide (q < i)) 0 (E.map (·.2)) g0) (fun κ => memK κ [] || decide (∃ q e', q < i ∧ E[q]? = some e' ∧ κ ∈ keysOf e'.2)) (fun r v => r = e.1 ∧ v = e.2)
/-- Operations apart. -/
def Free (E : List Eff) (D : Nat → Bool) (j : Nat) (e : Eff) : Prop :=
  (∀ i e', i < j → D i = false → E[i]? = some e' → conflict (bare e') (bare e) = false) ∧ ∀ i e', j < i → D i = true → E[i]? = some e' → conflict (bare e) (bare e') = false
open Classical in
theorem step_ok {ops : List Oper} {g0 : Key → C} {E : List Eff} (hC : Chain G P τ N ops g0 E) {D : Nat → Bool} {j : Nat} {o : Oper} {e : Eff} (ho : ops[j]? = some o) (he : E[j]? = some e) (hDj : D j = false) (hF : Free E D j e)
    {a : Act} {w : World} {β : Nat → Nat} {S : Nat → Nat → Prop} {K : Act → World → Prop} {Q : Exit → Act → World → Prop} (hG : ∀ w', Below w0.heap.size w0 w' → G w') (hτ : TauOK P τ)
    (h : Rel w0 S0 N (wrD E D) (F D 0 (E.map (·.2)) g0) a w β S) (hp : PtrOK (F D 0 (E.map (·.2)) g0))
    (hN : ∀ a' w' β' S', Rel w0 S0 N (wrD E (fun i => D i || decide (i = j))) (F (fun i => D i || decide (i = j)) 0 (E.map (·.2)) g0) a' w' β' S' → PtrOK (F (fun i => D i || decide (i = j)) 0 (E.map (·.2)) g0) → K a' w') : wpOp P ops.toArray Q j K a w := by
  obtain ⟨hd, hev⟩ := hC.2 j o e ho he
  have hmap : ∀ (i : Nat) ws, (E.map (·.2))[i]? = some ws → ∃ e', E[i]? = some e' ∧ e'.2 = ws := fun i ws hi => by
    rw [List.getElem?_map] at hi
    cases hq : E[i]? with
    | none => rw [hq] at hi; cases hi
    | some e' => rw [hq] at hi; simp at hi; exact ⟨e', rfl, hi⟩
  have nconf : ∀ {x y : List Key × List Key}, conflict x y = false → (∀ k, k ∈ x.2 → k ∉ y.1) ∧ (∀ k, k ∈ x.2 → k ∉ y.2) ∧ (∀ k, k ∈ y.2 → k ∉ x.1) := fun hc => by
    simp only [conflict, Bool.or_eq_false_iff] at hc
    exact ⟨meet_false hc.1.1, meet_false hc.1.2, meet_false hc.2⟩
  have hrd : ∀ k, k ∈ e.1 → F D 0 (E.map (·.2)) g0 k = F (fun q => decide (q < j)) 0 (E.map (·.2)) g0 k := fun k hk => by
    refine F_agree _ 0 (fun i ws hi hkw => ?_) rfl
    obtain ⟨e', hi', rfl⟩ := hmap i ws hi
    rw [Nat.zero_add]
    rcases Nat.lt_trichotomy i j with hlt | rfl | hgt
    · cases hDi : D i with
      | true => simp [hlt]
      | false => exact absurd hk ((nconf (hF.1 i e' hlt hDi hi')).1 k hkw)
    · rw [hDj]; simp
    · cases hDi : D i with
      | false => simp; omega
      | true => exact absurd hk ((nconf (hF.2 i e' hgt hDi hi')).2.2 k hkw)
  have hwr : ∀ k, k ∈ e.1 → (memK k [] || decide (∃ q e', q < j ∧ E[q]? = some e' ∧ k ∈ keysOf e'.2)) = false → decide (wrD E D k) = false := fun k hk hf => by
    have hf' : ¬ ∃ q e', q < j ∧ E[q]? = some e' ∧ k ∈ keysOf e'.2 := by simpa [memK] using hf
    refine decide_eq_false (fun ⟨q, e', hq, hq1, hq2⟩ => ?_)
    rcases Nat.lt_trichotomy q j with hlt | rfl | hgt
    · exact hf' ⟨q, e', hlt, hq1, hq2⟩
    · rw [hDj] at hq; cases hq
    · exact (nconf (hF.2 q e' hgt hq hq1)).2.2 k hq2 hk
  have hev' := vcT_local (g' := F D 0 (E.map (·.2)) g0) (wr' := fun κ => decide (wrD E D κ)) _ (rs0 := []) (show vcT G P _ _ _ (fun r v => [] ++ r = e.1 ∧ v = e.2) from hev) hrd hwr
  have hev2 : vcT G P (gT P τ ops o) (F D 0 (E.map (·.2)) g0) (fun κ => decide (wrD E D κ)) (fun _ v => v = e.2) := vcT_mono _ (fun r v hh => hh.2) hev'
  have heq : upds (F D 0 (E.map (·.2)) g0) e.2 = F (fun i => D i || decide (i = j)) 0 (E.map (·.2)) g0 := by
    funext k
    refine (F_more (D := D) (k := k) (j := j) (wj := e.2) (E.map (·.2)) 0 (Nat.zero_le _) (by rw [Nat.sub_zero, List.getElem?_map, he]; rfl) hDj (fun hk i ws hi hlt hDi => ?_)).symm
    rw [Nat.zero_add] at hlt hDi
    obtain ⟨e', hi', rfl⟩ := hmap i ws hi
    exact (nconf (hF.2 i e' hlt hDi hi')).2.1 k hk
  refine gop_ok hG hτ ho (h.wider (fun κ hκ => by simpa using hκ)) hp hd ?_ hev2
  intro a' w' β' S' hr hpp
  rw [heq] at hr hpp
  refine hN a' w' β' S' (hr.wider (fun κ hκ => ?_)) hpp
  rcases hκ with hκ | hκ
  · have hκ' : wrD E D κ := of_decide_eq_true hκ
    obtain ⟨q, e', k1, k2, k3⟩ := hκ'
    exact ⟨q, e', by simp [k1], k2, k3⟩
  · exact ⟨j, e, by simp, he, hκ⟩
/-! ### in the text's order -/
theorem seq_ok {ops : List Oper} {g0 : Key → C} {E : List Eff} (hC : Chain G P τ N ops g0 E) {Q : Exit → Act → World → Prop} (hG : ∀ w', Below w0.heap.size w0 w' → G w') (hτ : TauOK P τ)
    (hK : ∀ a' w' β' S', Rel w0 S0 N (wrD E (fun i => decide (i < ops.length))) (F (fun i => decide (i < ops.length)) 0 (E.map (·.2)) g0) a' w' β' S' → PtrOK (F (fun i => decide (i < ops.length)) 0 (E.map (·.2)) g0) → Q .normal a' w') :
    ∀ (m i : Nat), i + m = ops.length → ∀ {a : Act} {w : World} {β : Nat → Nat} {S : Nat → Nat → Prop}, Rel w0 S0 N (wrD E (fun q => decide (q < i))) (F (fun q => decide (q < i)) 0 (E.map (·.2)) g0) a w β S → PtrOK (F (fun q => decide (q < i)) 0 (E.map (·.2)) g0) →
      wpOps P ops.toArray Q (List.range' i m) a w
  | 0, i, him, a, w, β, S, h, hp => by
    have : i = ops.length := by omega
    subst this
    exact hK a w β S h hp
  | m + 1, i, him, a, w, β, S, h, hp => by
    rw [List.range'_succ, wpOps_cons]
    have hi : i < ops.length := by omega
    have hiE : i < E.length := by rw [hC.1]; exact hi
    have hD : (fun q => decide (q < i) || decide (q = i)) = fun q => decide (q < i + 1) := by
      funext q
      rw [Bool.eq_iff_iff]
      simp
      omega
    refine step_ok hC (j := i) (D := fun q => decide (q < i)) (List.getElem?_eq_getElem hi) (List.getElem?_eq_getElem hiE) (by simp) ⟨fun q e' hq hq' => by simp at hq'; omega, fun q e' hq hq' => by simp at hq'; omega⟩ hG hτ h hp ?_
    intro a' w' β' S' hr hpp
    rw [hD] at hr hpp
    exact seq_ok hC hG hτ hK m (i + 1) (by omega) hr hpp
/-! ### in any order -/
theorem union_mem {x : Nat} : ∀ {a b : List Nat}, x ∈ union a b → x ∈ a ∨ x ∈ b
  | [], b, h => .inr h
  | y :: a, b, h => by
    unfold union at h
    split at h
    · exact (union_mem h).imp (List.mem_cons_of_mem _) id
    · rcases List.mem_cons.1 h with rfl | h
      · exact .inl (List.mem_cons_self ..)
      · exact (union_mem h).imp (List.mem_cons_of_mem _) id
theorem befFrom_mem {x : Nat} {acc : List (List Nat)} : ∀ {l : List Nat}, x ∈ befFrom acc l → x ∈ l ∨ ∃ e, e ∈ l ∧ x ∈ nthL acc e
  | [], h => by simp [befFrom] at h
  | i :: r, h => by
    unfold befFrom at h
    rcases union_mem h with h | h
    · simp at h; subst h; exact .inl (List.mem_cons_self ..)
    · rcases union_mem h with h | h
      · exact .inr ⟨i, List.mem_cons_self .., h⟩
      · rcases befFrom_mem h with h | ⟨e, h1, h2⟩
        · exact .inl (List.mem_cons_of_mem _ h)
        · exact .inr ⟨e, List.mem_cons_of_mem _ h1, h2⟩
theorem nthL_append {acc : List (List Nat)} {l : List Nat} : ∀ (i : Nat), nthL (acc ++ [l]) i = if i < acc.length then nthL acc i else if i = acc.length then l else [] := by
  induction acc with
  | nil => intro i; cases i <;> simp [nthL]
  | cons c acc ih =>
    intro i
    cases i with
    | zero => simp [nthL]
    | succ i =>
      have := ih i
      simpa [nthL] using this
theorem nthL_out {acc : List (List Nat)} : ∀ (i : Nat), acc.length ≤ i → nthL acc i = [] := by
  induction acc with
  | nil => intro i _; rfl
  | cons c acc ih =>
    intro i h
    cases i with
    | zero => simp at h
    | succ i => exact ih i (by simpa using h)
/-- What must go before lies in whatever is closed. -/
theorem befs_closed {ops : List Oper} {D : Nat → Prop} (hcl : ∀ i o, D i → ops[i]? = some o → ∀ x, x ∈ directOf o → D x) : ∀ (rest : List Oper) (m : Nat) (acc : List (List Nat)), acc.length = m → (∀ i, rest[i]? = ops[m + i]?) →
    (∀ (i : Nat) o, i < m → ops[i]? = some o → (∀ x, x ∈ directOf o → D x) → ∀ x, x ∈ nthL acc i → D x) →
    ∀ (i : Nat) o, ops[i]? = some o → (∀ x, x ∈ directOf o → D x) → ∀ x, x ∈ nthL (befs acc rest) i → D x
  | [], m, acc, hl, hr, ih, i, o, ho, hd, x, hx => by
    by_cases hi : i < m
    · exact ih i o hi ho hd x hx
    · exfalso
      have : nthL (befs acc []) i = [] := nthL_out (acc := acc) i (by omega)
      rw [this] at hx
      simp at hx
  | o' :: rest, m, acc, hl, hr, ih, i, o, ho, hd, x, hx => by
    refine befs_closed hcl rest (m + 1) (acc ++ [befFrom acc (directOf o')]) (by simp [hl]) (fun i => by rw [show m + 1 + i = m + (i + 1) from by omega, ← hr (i + 1)]; simp) (fun i o hi ho hd x hx => ?_) i o ho hd x hx
    rw [nthL_append] at hx
    by_cases hlt : i < acc.length
    · rw [if_pos hlt] at hx
      exact ih i o (by omega) ho hd x hx
    · rw [if_neg hlt, if_pos (by omega)] at hx
      have hi' : i = m := by omega
      subst hi'
      have h0 : ops[i]? = some o' := by
        have := hr 0
        rw [Nat.add_zero] at this
        rw [← this]; rfl
      rw [h0] at ho
      cases ho
      rcases befFrom_mem hx with hx | ⟨e, he1, he2⟩
      · exact hd x hx
      · have hDe := hd e he1
        by_cases hem : e < acc.length
        · have hem' : e < ops.length := by
            have h1 : i < ops.length := (List.getElem?_eq_some_iff.1 h0).1
            omega
          exact ih e _ (by omega) (List.getElem?_eq_getElem hem') (hcl e _ hDe (List.getElem?_eq_getElem hem')) x he2
        · rw [nthL_out e (by omega)] at he2
          simp at he2
theorem chkRow_spec {bf : List Nat} {y : List Key × List Key} : ∀ (l : Trace) (i m : Nat) (x : List Key × List Key), chkRow bf y i l = true → l[m]? = some x → conflict x y = true → i + m ∈ bf
  | [], i, m, x, _, h, _ => by simp at h
  | z :: l, i, m, x, hc, h, hx => by
    simp only [chkRow, Bool.and_eq_true, Bool.or_eq_true, Bool.not_eq_true', memN_iff] at hc
    cases m with
    | zero =>
      simp at h
      subst h
      rcases hc.1 with q | q
      · rw [q] at hx; cases hx
      · exact q
    | succ m =>
      have := chkRow_spec l (i + 1) m x hc.2 (by simpa using h) hx
      rwa [show i + 1 + m = i + (m + 1) from by omega] at this
theorem chkAll_spec {bs : List (List Nat)} {all : Trace} : ∀ (l : Trace) (j m : Nat) (y : List Key × List Key), chkAll bs all j l = true → l[m]? = some y → chkRow (nthL bs (j + m)) y 0 (all.take (j + m)) = true
  | [], j, m, y, _, h => by simp at h
  | z :: l, j, m, y, hc, h => by
    simp only [chkAll, Bool.and_eq_true] at hc
    cases m with
    | zero => simp at h; subst h; exact hc.1
    | succ m =>
      have := chkAll_spec l (j + 1) m y hc.2 (by simpa using h)
      rwa [show j + 1 + m = j + (m + 1) from by omega] at this
theorem backOK_spec : ∀ (l : List Oper) (i m : Nat) (o : Oper), backOK i l = true → l[m]? = some o → ∀ x, x ∈ directOf o → x < i + m
  | [], i, m, o, _, h => by simp at h
  | z :: l, i, m, o, hc, h => by
    simp only [backOK, Bool.and_eq_true, List.all_eq_true] at hc
    cases m with
    | zero =>
      simp at h
      subst h
      intro x hx
      simpa [Nat.blt_eq] using hc.1 x hx
    | succ m =>
      intro x hx
      have := backOK_spec l (i + 1) m o hc.2 (by simpa using h) x hx
      omega
theorem direct_iff {o : Oper} {x : Nat} : x ∈ directOf o ↔ ∃ e, e ∈ o.after ∧ Region.binds .any e = true ∧ e.on = x := by
  unfold directOf
  simp only [List.mem_map, List.mem_filter, Array.mem_toList_iff]
  constructor
  · rintro ⟨e, ⟨h1, h2⟩, h3⟩; exact ⟨e, h1, h2, h3⟩
  · rintro ⟨e, h1, h2, h3⟩; exact ⟨e, ⟨h1, h2⟩, h3⟩
theorem any_ok {ops : List Oper} {g0 : Key → C} {E : List Eff} (hC : Chain G P τ N ops g0 E) {Q : Exit → Act → World → Prop} (hG : ∀ w', Below w0.heap.size w0 w' → G w') (hτ : TauOK P τ)
    (hback : backOK 0 ops = true) (hchk : chkAll (befs [] ops) (E.map bare) 0 (E.map bare) = true)
    (hK : ∀ a' w' β' S', Rel w0 S0 N (wrD E (fun i => decide (i < ops.length))) (F (fun i => decide (i < ops.length)) 0 (E.map (·.2)) g0) a' w' β' S' → PtrOK (F (fun i => decide (i < ops.length)) 0 (E.map (·.2)) g0) → Q .normal a' w') :
    ∀ (fuel : Nat) (listed : Array Bool) {a : Act} {w : World} {β : Nat → Nat} {S : Nat → Nat → Prop}, listed.size = ops.length → ((List.range ops.length).filter fun i => !listed.getD i true).length = fuel →
      (∀ i o, listed.getD i false = true → ops[i]? = some o → ∀ x, x ∈ directOf o → listed.getD x false = true) →
      Rel w0 S0 N (wrD E (fun i => listed.getD i false)) (F (fun i => listed.getD i false) 0 (E.map (·.2)) g0) a w β S → PtrOK (F (fun i => listed.getD i false) 0 (E.map (·.2)) g0) → wpAny P .any ops.toArray Q fuel listed a w := by
  have hget : ∀ (listed : Array Bool), listed.size = ops.length → ∀ i, i < ops.length → listed.getD i true = listed.getD i false := fun listed hl i hi => by
    rw [Array.getD_eq_getD_getElem?, Array.getD_eq_getD_getElem?, Array.getElem?_eq_getElem (by omega)]
    rfl
  have hout : ∀ (listed : Array Bool), listed.size = ops.length → ∀ i, listed.getD i false = true → i < ops.length := fun listed hl i hi => by
    rcases Nat.lt_or_ge i ops.length with h | h
    · exact h
    · rw [Array.getD_eq_getD_getElem?, Array.getElem?_eq_none (by omega)] at hi; cases hi
  have hready : ∀ (listed : Array Bool) i, i ∈ Region.ready .any ops.toArray listed ↔ i < ops.length ∧ listed.getD i true = false ∧ ∀ o, ops[i]? = some o → ∀ x, x ∈ directOf o → listed.getD x false = true := fun listed i => by
    unfold Region.ready
    simp only [List.mem_filter, List.mem_range, List.size_toArray, Bool.and_eq_true, Bool.not_eq_true']
    constructor
    · rintro ⟨h1, h2, h3⟩
      refine ⟨h1, h2, fun o ho x hx => ?_⟩
      have ho' : ops.toArray[i]? = some o := by simpa using ho
      rw [ho'] at h3
      simp only [Option.map_some, Option.getD_some, Array.all_eq_true_iff_forall_mem, Bool.or_eq_true, Bool.not_eq_true'] at h3
      obtain ⟨e, h4, h5, h6⟩ := direct_iff.1 hx
      subst h6
      exact (h3 e h4).resolve_left (by rw [h5]; simp)
    · rintro ⟨h1, h2, h3⟩
      refine ⟨h1, h2, ?_⟩
      have ho : ops[i]? = some ops[i] := List.getElem?_eq_getElem h1
      have ho' : ops.toArray[i]? = some ops[i] := by simpa using ho
      rw [ho']
      simp only [Option.map_some, Option.getD_some, Array.all_eq_true_iff_forall_mem, Bool.or_eq_true, Bool.not_eq_true']
      intro e he
      by_cases hb : Region.binds .any e = true
      · exact .inr (h3 _ ho e.on (direct_iff.2 ⟨e, he, hb, rfl⟩))
      · exact .inl (by simpa using hb)
  -- what stands when nothing is left
  have hdone : ∀ (listed : Array Bool) {a : Act} {w : World} {β : Nat → Nat} {S : Nat → Nat → Prop}, listed.size = ops.length → Region.ready .any ops.toArray listed = [] →
      Rel w0 S0 N (wrD E (fun i => listed.getD i false)) (F (fun i => listed.getD i false) 0 (E.map (·.2)) g0) a w β S → PtrOK (F (fun i => listed.getD i false) 0 (E.map (·.2)) g0) → Q .normal a w := by
    intro listed a w β S hl hr h hp
    have hall : ∀ i, i < ops.length → listed.getD i false = true := by
      intro i
      induction i using Nat.strongRecOn with
      | _ i ih =>
        intro hi
        cases hq : listed.getD i false with
        | true => rfl
        | false =>
          exfalso
          have : i ∈ Region.ready .any ops.toArray listed := (hready listed i).2 ⟨hi, by rw [hget listed hl i hi]; exact hq, fun o ho x hx => by
            have hlt := backOK_spec ops 0 i o hback ho x hx
            exact ih x (by omega) (by omega)⟩
          rw [hr] at this
          simp at this
    have hD : (fun i => listed.getD i false) = fun i => decide (i < ops.length) := by
      funext i
      by_cases hi : i < ops.length
      · rw [hall i hi]; simp [hi]
      · cases hq : listed.getD i false with
        | true => exact absurd (hout listed hl i hq) hi
        | false => simp; omega
    rw [hD] at h hp
    exact hK a w β S h hp
  intro fuel
  induction fuel with
  | zero =>
    intro listed a w β S hl hcnt hcl h hp
    have hr : Region.ready .any ops.toArray listed = [] := by
      refine List.eq_nil_iff_forall_not_mem.2 (fun i hi => ?_)
      obtain ⟨h1, h2, _⟩ := (hready listed i).1 hi
      have : i ∈ (List.range ops.length).filter fun i => !listed.getD i true := by
        rw [List.mem_filter]
        exact ⟨List.mem_range.2 h1, by rw [h2]; rfl⟩
      rw [List.eq_nil_of_length_eq_zero hcnt] at this
      simp at this
    exact ⟨hr, hdone listed hl hr h hp⟩
  | succ fuel ih =>
    intro listed a w β S hl hcnt hcl h hp
    refine ⟨fun hr => hdone listed hl hr h hp, fun j hj => ?_⟩
    obtain ⟨hj1, hj2, hj3⟩ := (hready listed j).1 hj
    have hjE : j < E.length := by rw [hC.1]; exact hj1
    have hDj : listed.getD j false = false := by rw [← hget listed hl j hj1]; exact hj2
    have ho := List.getElem?_eq_getElem hj1
    have hE := List.getElem?_eq_getElem hjE
    have hbef : ∀ (i : Nat) o, ops[i]? = some o → (∀ x, x ∈ directOf o → listed.getD x false = true) → ∀ x, x ∈ nthL (befs [] ops) i → listed.getD x false = true :=
      befs_closed (D := fun x => listed.getD x false = true) (fun i o hi ho x hx => hcl i o hi ho x hx) ops 0 [] rfl (fun i => by simp) (fun i o hi => absurd hi (by omega))
    have hconf : ∀ (i m : Nat) (x y : Eff), E[i]? = some x → E[m]? = some y → i < m → conflict (bare x) (bare y) = true → i ∈ nthL (befs [] ops) m := fun i m x y hx hy hlt hc => by
      have h1 := chkAll_spec (E.map bare) 0 m (bare y) hchk (by rw [List.getElem?_map, hy]; rfl)
      rw [Nat.zero_add] at h1
      have := chkRow_spec _ 0 i (bare x) h1 (by rw [List.getElem?_take, if_pos hlt, List.getElem?_map, hx]; rfl) hc
      rwa [Nat.zero_add] at this
    have hfree : Free E (fun i => listed.getD i false) j E[j] := by
      refine ⟨fun i e' hlt hDi he' => ?_, fun i e' hlt hDi he' => ?_⟩
      · cases hc : conflict (bare e') (bare E[j]) with
        | false => rfl
        | true =>
          have := hbef j _ ho (hj3 _ ho) i (hconf i j e' _ he' hE hlt hc)
          exact absurd this (by rw [show listed.getD i false = false from hDi]; simp)
      · cases hc : conflict (bare E[j]) (bare e') with
        | false => rfl
        | true =>
          have hi1 : i < ops.length := hout listed hl i hDi
          have hoi := List.getElem?_eq_getElem hi1
          have := hbef i _ hoi (hcl i _ hDi hoi) j (hconf j i _ e' hE he' hlt hc)
          exact absurd this (by rw [hDj]; simp)
    have hsetD : (fun i => listed.getD i false || decide (i = j)) = fun i => (listed.setIfInBounds j true).getD i false := by
      funext i
      rw [Array.getD_eq_getD_getElem?, Array.getD_eq_getD_getElem?, Array.getElem?_setIfInBounds]
      by_cases e : j = i
      · subst e
        rw [if_pos rfl, if_pos (by omega)]
        simp
      · rw [if_neg e]
        have : decide (i = j) = false := by simp; omega
        rw [this, Bool.or_false]
    refine step_ok hC (j := j) (D := fun i => listed.getD i false) ho hE hDj hfree hG hτ h hp ?_
    intro a' w' β' S' hr' hp'
    rw [hsetD] at hr' hp'
    have hD' : ∀ i, (listed.setIfInBounds j true).getD i false = (listed.getD i false || decide (i = j)) := fun i => (congrFun hsetD i).symm
    refine ih _ (by simp [hl]) ?_ (fun i o hi ho' x hx => ?_) hr' hp'
    · -- one fewer is left
      have hd : ∀ i, i < ops.length → (!(listed.setIfInBounds j true).getD i true) = ((!listed.getD i true) && !decide (i = j)) := fun i hi => by
        rw [hget _ (by simp [hl]) i hi, hD', hget listed hl i hi]
        cases listed.getD i false <;> simp
      have e1 : ((List.range ops.length).filter fun i => !(listed.setIfInBounds j true).getD i true) = ((List.range ops.length).filter fun i => !listed.getD i true).filter fun i => !decide (i = j) := by
        rw [List.filter_filter]
        refine List.filter_congr (fun i hi => ?_)
        rw [hd i (List.mem_range.1 hi), Bool.and_comm]
      rw [e1]
      have hmem : j ∈ (List.range ops.length).filter fun i => !listed.getD i true := by
        rw [List.mem_filter]; exact ⟨List.mem_range.2 hj1, by rw [hj2]; rfl⟩
      have hnd : ((List.range ops.length).filter fun i => !listed.getD i true).Nodup := List.Pairwise.filter _ List.nodup_range
      have e2 : ((List.range ops.length).filter fun i => !listed.getD i true).filter (fun i => !decide (i = j)) = ((List.range ops.length).filter fun i => !listed.getD i true).erase j := by
        rw [hnd.erase_eq_filter]
        refine List.filter_congr (fun i _ => ?_)
        by_cases e : i = j <;> simp [e]
      rw [e2, List.length_erase_of_mem hmem, hcnt]
      rfl
    · rw [hD'] at hi ⊢
      rcases Bool.or_eq_true_iff.1 hi with hi | hi
      · rw [hcl i o hi ho' x hx]; rfl
      · have : i = j := by simpa using hi
        subst this
        rw [hj3 o ho' x hx]; rfl
end
end Go.Proofs.YtpflimghkckpjaaGreatDoor.B

set_option linter.unusedVariables false
set_option linter.unusedSimpArgs false
set_option linter.unnecessarySimpa false
namespace Go.Proofs.YtpflimghkckpjaaGreatDoor.B
open Go.RowKit

structure Weak (g g' : Key → C) : Prop where
  v : ∀ κ, (∀ i, κ ≠ .al i) → (g' κ).v = .un ∨ (g' κ).v = (g κ).v ∨ ((g κ).v = .pv .nil ∧ (g' κ).v = .pv (.sl []))
  o : ∀ κ p, (g' κ).own = some p → (g κ).own = some p ∨ (g κ).v = .pv .nil
  ol : ∀ i, (g' (.al i)).own = none
  f : ∀ t κ', (g' (.t t)).frm = some κ' → (g (.t t)).frm = some κ' ∧ ∀ i o, κ' = .b i o → (g' (.al i)).v ≠ .un
  al : ∀ i, (g' (.al i)).v ≠ .un → (g (.al i)).v ≠ .un
  b : ∀ i o, (g' (.b i o)).v ≠ .un ∨ (g' (.b i o)).own ≠ none → (g' (.al i)).v ≠ .un
section
variable {G : World → Prop} {P : Program} {τ : Tau} {w0 : World} {S0 : Nat → Nat → Prop} {N : Nat} {wr : Key → Prop} {g g' : Key → C} {a : Act} {w : World} {β : Nat → Nat} {S : Nat → Nat → Prop}
theorem Rel.weak (h : Rel w0 S0 N wr g a w β S) (hw : Weak g g') : Rel w0 S0 N wr g' a w β S := by
  have hrep : ∀ κ, (∀ i, κ ≠ .al i) → ∀ u, RepF β S w u (g κ).v → RepF β S w u (g' κ).v := fun κ hκ u hu => by
    rcases hw.v κ hκ with e | e | ⟨e1, e2⟩
    · rw [e]; trivial
    · rw [e]; exact hu
    · rw [e1] at hu
      rw [e2]
      have hu' : RepP S w u .nil := hu
      rw [rep_nil hu']
      exact RepP.nil'
  -- a key that owns in g' owns in g, or is empty
  have hown : ∀ κ p, (g' κ).own = some p → There g κ ∧ ((g κ).own = some p ∨ rv β a w κ = some (.slice none 0 0)) := fun κ p hp => by
    cases κ with
    | t t =>
      refine ⟨trivial, (hw.o _ p hp).imp id (fun e => ?_)⟩
      have := h.tm t
      rw [e] at this
      have this' : RepP S w (a.tmps.getD t undef) .nil := this
      show some (a.tmps.getD t undef) = _
      rw [rep_nil this']
    | b i o =>
      rcases hw.o _ p hp with e | e
      · exact ⟨h.blv i o (by rw [e]; simp), .inl e⟩
      · obtain ⟨c, h1, h2, _, h4⟩ := h.bx i o (by rw [e]; simp)
        rw [e] at h2
        have h2' : RepP S w c .nil := h2
        rw [rep_nil h2'] at h1
        exact ⟨h4, .inr h1⟩
    | al i => rw [hw.ol i] at hp; cases hp
  constructor
  · exact h.below
  · exact h.df
  · exact h.tsz
  · exact h.s0
  · exact h.sn
  · exact h.sa
  · exact fun t => hrep (.t t) (fun i => by simp) _ (h.tm t)
  · intro i o hne
    have hgne : (g (.b i o)).v ≠ .un := fun e => by
      rcases hw.v (.b i o) (fun i => by simp) with e' | e' | ⟨e1, _⟩
      · exact hne e'
      · exact hne (e'.trans e)
      · rw [e] at e1; cases e1
    obtain ⟨c, h1, h2, h3, _⟩ := h.bx i o hgne
    exact ⟨c, h1, hrep (.b i o) (fun i => by simp) _ h2, h3, hw.b i o (.inl hne)⟩
  · exact fun i hi => h.al i (hw.al i hi)
  · exact fun i j hi hj => h.inj i j (hw.al i hi) (hw.al j hj)
  · intro κ e k hk
    rcases (hown κ _ hk).2 with e1 | e1
    · obtain ⟨v, n, xs, k1, k2, k3⟩ := h.own κ e k e1
      exact ⟨v, n, xs, k1, k2, fun b hb => ⟨(k3 b hb).1, fun i hi => (k3 b hb).2 i (hw.al i hi)⟩⟩
    · exact ⟨_, 0, [], e1, World.ownsRow_nil _ _ _ _, fun b hb => by cases hb⟩
  · intro κ κ' v v' b h1 h2 h3 h4 h5 h6
    have q : ∀ κ v b, (g' κ).own ≠ none → rv β a w κ = some v → v.ownBlock = some b → (g κ).own ≠ none := fun κ v b h1 h3 h5 => by
      cases hp : (g' κ).own with
      | none => exact absurd hp h1
      | some p =>
        rcases (hown κ p hp).2 with e1 | e1
        · rw [e1]; simp
        · rw [h3] at e1; cases e1; cases h5
    exact h.ownd κ κ' v v' b (q κ v b h1 h3 h5) (q κ' v' b h2 h4 h6) h3 h4 h5 h6
  · intro t κ' h1 h2
    obtain ⟨k1, k2⟩ := hw.f t κ' h1
    exact ⟨(h.frm t κ' k1 h2).1, k2⟩
  · exact fun i o hne => hw.b i o (.inr hne)
/-! ### frames -/
def RelS (w0 : World) (S0 : Nat → Nat → Prop) (N : Nat) (s : St) (a : Act) (w : World) : Prop := ∃ β S, Rel w0 S0 N (fun _ => False) s.get a w β S ∧ PtrOK s.get
theorem getL_clr : ∀ (cs : List C) (i : Nat), getL (clrL cs) i = ⟨(getL cs i).v, (getL cs i).own, none⟩
  | [], i => rfl
  | c :: cs, 0 => rfl
  | c :: cs, i + 1 => getL_clr cs i
theorem clear_rel {s : St} (h : Rel w0 S0 N wr s.get a w β S) (hp : PtrOK s.get) : RelS w0 S0 N s.clear a w := by
  have ht : ∀ t, s.clear.get (.t t) = ⟨(s.get (.t t)).v, (s.get (.t t)).own, none⟩ := fun t => getL_clr _ _
  have hW : Weak s.get s.clear.get := by
    refine ⟨fun κ hκ => .inr (.inl ?_), fun κ p hp => .inl ?_, fun i => ?_, fun t κ' e => ?_, fun i hi => hi, fun i o ho => ?_⟩
    · cases κ with
      | t t => rw [ht]
      | b i o => rfl
      | al i => exact absurd rfl (hκ i)
    · cases κ with
      | t t => rw [ht] at hp; exact hp
      | b i o => exact hp
      | al i => exact hp
    · show (match getB s.boxes i with | some _ => liveC | none => unC).own = none
      cases getB s.boxes i <;> rfl
    · rw [ht] at e; cases e
    · have hb : (s.get (.b i o)).v ≠ .un ∨ (s.get (.b i o)).own ≠ none := ho
      show (s.get (.al i)).v ≠ .un
      rcases hb with hb | hb
      · exact (h.bx i o hb).choose_spec.2.2.2
      · exact h.blv i o hb
  have h1 := h.weak hW
  refine ⟨β, S, { h1 with frm := fun t κ' e => by rw [ht] at e; cases e }, fun κ i o e => ?_⟩
  have e' : (s.get κ).v = .ptr i o := by
    cases κ with
    | t t => rw [ht] at e; exact e
    | b i o => exact e
    | al i => exact e
  exact hp κ i o e'
/-! ### loops' heads -/
theorem leL_at : ∀ {cs ds : List C}, leL cs ds → ∀ i, cle (getL cs i) (getL ds i)
  | [], [], _, i => by simp [getL, cle, unC]
  | c :: cs, d :: ds, h, 0 => h.1
  | c :: cs, d :: ds, h, i + 1 => leL_at h.2 i
  | [], d :: ds, h, i => h.elim
  | c :: cs, [], h, i => h.elim
theorem leB_at {s : List (Nat × List C)} : ∀ {t : List (Nat × List C)}, leB s t → ∀ i ds, getB t i = some ds → ∃ cs, getB s i = some cs ∧ leL cs ds
  | [], _, i, ds, h => by simp [getB] at h
  | (j, es) :: r, h, i, ds, hd => by
    by_cases e : j = i
    · subst e
      simp [getB] at hd
      subst hd
      have h1 := h.1
      cases hs : getB s j with
      | none => rw [hs] at h1; exact h1.elim
      | some cs => rw [hs] at h1; exact ⟨cs, rfl, h1⟩
    · simp only [getB, if_neg e] at hd
      exact leB_at h.2 i ds hd
theorem cle_spec {c d : C} (h : cle c d) : (d.v = .un ∨ d.v = c.v ∨ (c.v = .pv .nil ∧ d.v = .pv (.sl []))) ∧ (∀ p, d.own = some p → c.own = some p ∨ c.v = .pv .nil) ∧ d.frm = none := by
  obtain ⟨dv, dow, df⟩ := d
  obtain ⟨cv, cow, cf⟩ := c
  unfold cle at h
  simp only at h ⊢
  split at h
  · exact ⟨.inl rfl, (fun p e => by cases e), rfl⟩
  · rename_i xs ow
    split at h
    · subst h
      exact ⟨.inr (.inr ⟨rfl, rfl⟩), (fun p _ => .inr rfl), rfl⟩
    · obtain ⟨h1, h2⟩ := h
      refine ⟨.inr (.inl h1.symm), fun p e => ?_, rfl⟩
      subst e
      exact .inl h2
  · exact ⟨.inr (.inl h.symm), (fun p e => by cases e), rfl⟩
  · exact h.elim
theorem ptrL_at {bx : List (Nat × List C)} : ∀ {cs : List C}, ptrL bx cs = true → ∀ k i o, (getL cs k).v = .ptr i o → (getB bx i).isSome = true
  | [], _, k, i, o, e => by simp [getL, unC] at e
  | c :: cs, h, k, i, o, e => by
    simp only [ptrL, Bool.and_eq_true] at h
    cases k with
    | zero =>
      have e' : c.v = .ptr i o := e
      have := h.1
      rw [e'] at this
      exact this
    | succ k => exact ptrL_at h.2 k i o e
theorem ptrB_at {bx : List (Nat × List C)} : ∀ {bs : List (Nat × List C)}, ptrB bx bs = true → ∀ j cs, getB bs j = some cs → ptrL bx cs = true
  | [], _, j, cs, e => by simp [getB] at e
  | (j', cs') :: r, h, j, cs, e => by
    simp only [ptrB, Bool.and_eq_true] at h
    by_cases hj : j' = j
    · subst hj
      simp [getB] at e
      subst e
      exact h.1
    · simp only [getB, if_neg hj] at e
      exact ptrB_at h.2 j cs e
theorem al_live {s : St} {i : Nat} : (s.get (.al i)).v ≠ .un ↔ (getB s.boxes i).isSome = true := by
  show (match getB s.boxes i with | some _ => liveC | none => unC).v ≠ .un ↔ _
  cases getB s.boxes i <;> simp [liveC, unC]
theorem le_rel {s t : St} (h : RelS w0 S0 N s a w) (hle : s.le t) : RelS w0 S0 N t a w := by
  obtain ⟨β, S, h, hp⟩ := h
  obtain ⟨h1, h2, h3⟩ := hle
  rw [Bool.and_eq_true] at h3
  have hcl : ∀ κ, (∀ i, κ ≠ .al i) → cle (s.get κ) (t.get κ) := fun κ hκ => by
    cases κ with
    | t i => exact leL_at h1 i
    | b i o =>
      show cle (match getB s.boxes i with | some cs => getL cs o | none => unC) (match getB t.boxes i with | some cs => getL cs o | none => unC)
      cases ht : getB t.boxes i with
      | none => simp [cle, unC]
      | some ds =>
        obtain ⟨cs, e1, e2⟩ := leB_at h2 i ds ht
        rw [e1]
        exact leL_at e2 o
    | al i => exact absurd rfl (hκ i)
  have hW : Weak s.get t.get := by
    refine ⟨fun κ hκ => (cle_spec (hcl κ hκ)).1, fun κ p e => ?_, fun i => ?_, fun q κ' e => ?_, fun i hi => ?_, fun i o hne => ?_⟩
    · cases κ with
      | al i =>
        have : (t.get (.al i)).own = none := by
          show (match getB t.boxes i with | some _ => liveC | none => unC).own = none
          cases getB t.boxes i <;> rfl
        rw [this] at e; cases e
      | t i => exact (cle_spec (hcl _ (fun i => by simp))).2.1 p e
      | b i o => exact (cle_spec (hcl _ (fun i => by simp))).2.1 p e
    · show (match getB t.boxes i with | some _ => liveC | none => unC).own = none
      cases getB t.boxes i <;> rfl
    · have := (cle_spec (hcl (.t q) (fun i => by simp))).2.2
      rw [this] at e; cases e
    · rw [al_live] at hi ⊢
      obtain ⟨ds, hd⟩ := Option.isSome_iff_exists.1 hi
      obtain ⟨cs, e1, _⟩ := leB_at h2 i ds hd
      rw [e1]; rfl
    · rw [al_live]
      have hne' : (match getB t.boxes i with | some cs => getL cs o | none => unC).v ≠ .un ∨ (match getB t.boxes i with | some cs => getL cs o | none => unC).own ≠ none := hne
      cases ht : getB t.boxes i with
      | none => rw [ht] at hne'; simp [unC] at hne'
      | some ds => rfl
  refine ⟨β, S, h.weak hW, fun κ i o e => ?_⟩
  rw [al_live]
  cases κ with
  | t q => exact ptrL_at h3.1 q i o e
  | b j o' =>
    have e' : (match getB t.boxes j with | some cs => getL cs o' | none => unC).v = .ptr i o := e
    cases ht : getB t.boxes j with
    | none => rw [ht] at e'; simp [unC] at e'
    | some ds =>
      rw [ht] at e'
      exact ptrL_at (ptrB_at h3.2 j ds ht) o' i o e'
  | al j =>
    have e' : (match getB t.boxes j with | some _ => liveC | none => unC).v = .ptr i o := e
    cases ht : getB t.boxes j <;> rw [ht] at e' <;> simp [unC, liveC] at e'
/-! ### code -/
def exOf : Ex → Exit
  | .normal => .normal
  | .exit id => .exit id
  | .ret => .ret
theorem region_ok (hG : ∀ w', Below w0.heap.size w0 w' → G w') (hτ : TauOK P τ) (hm : P.follows .mixedOrders = true) {id : Nat} {ops : Array Oper} {draw : Bool} {s : St} {K : Ex → St → Prop} {Q : Exit → Act → World → Prop}
    (h : vcOps G P τ N ops.toList ops.toList s [] [] (fun s' tr => if (!draw || orderOK ops.toList tr) = true then K .normal s'.clear else False))
    (hQ : ∀ s' a' w', K .normal s' → RelS w0 S0 N s' a' w' → Q .normal a' w') (hr : RelS w0 S0 N s a w) : (Code.region id ops draw).wp P Q a w := by
  obtain ⟨β, S, hr, hp⟩ := hr
  obtain ⟨E, e1, e2, s', e3, e4⟩ := vcOps_chain _ _ _ _ h
  rw [List.append_nil] at e4
  split at e4
  · rename_i hcond
    have hC : Chain G P τ N ops.toList s.get E := ⟨e1, e2⟩
    have hF0 : F (fun _ => false) 0 (E.map (·.2)) s.get = s.get := by
      have q : ∀ (r : List (List (Key × C))) (o : Nat) (g : Key → C), F (fun _ => false) o r g = g := by
        intro r
        induction r with
        | nil => intros; rfl
        | cons x r ih => intro o g; exact ih (o + 1) g
      exact q _ _ _
    have hK : ∀ a' w' β' S', Rel w0 S0 N (wrD E (fun i => decide (i < ops.toList.length))) (F (fun i => decide (i < ops.toList.length)) 0 (E.map (·.2)) s.get) a' w' β' S' → PtrOK (F (fun i => decide (i < ops.toList.length)) 0 (E.map (·.2)) s.get) → Q .normal a' w' := by
      intro a' w' β' S' hr' hp'
      have hD : F (fun i => decide (i < ops.toList.length)) 0 (E.map (·.2)) s.get = s'.get := by
        rw [e3]
        funext k
        refine F_agree _ 0 (fun i ws hi hk => ?_) rfl
        have : i < (E.map (·.2)).length := (List.getElem?_eq_some_iff.1 hi).1
        simp only [List.length_map] at this
        rw [Nat.zero_add]
        simp only [decide_eq_true_eq]
        omega
      rw [hD] at hr' hp'
      exact hQ _ a' w' e4 (clear_rel hr' hp')
    have hops : ops.toList.toArray = ops := Array.toArray_toList
    cases draw with
    | false =>
      refine wp_region ?_
      have := seq_ok (w0 := w0) (S0 := S0) hC hG hτ hK ops.toList.length 0 (by omega) (a := a) (w := w) (β := β) (S := S) (by
        have e : (fun q => decide (q < 0)) = fun _ : Nat => false := by funext q; simp
        rw [e, hF0]
        exact hr.wider (fun κ hκ => hκ.elim)) (by
        have e : (fun q => decide (q < 0)) = fun _ : Nat => false := by funext q; simp
        rw [e, hF0]
        exact hp)
      rw [hops] at this
      rw [List.range_eq_range']
      simpa using this
    | true =>
      have hcond' : orderOK ops.toList ((E.map fun e => (e.1, keysOf e.2)).reverse) = true := by simpa using hcond
      unfold orderOK at hcond'
      rw [List.reverse_reverse, Bool.and_eq_true] at hcond'
      refine wp_region_any hm ?_
      have hD : (fun i => (Array.replicate ops.toList.length false).getD i false) = fun _ : Nat => false := by
        funext i
        rw [Array.getD_eq_getD_getElem?, Array.getElem?_replicate]
        split <;> rfl
      have := any_ok (w0 := w0) (S0 := S0) hC hG hτ hcond'.1 hcond'.2 hK ops.toList.length (Array.replicate ops.toList.length false) (a := a) (w := w.drew) (β := β) (S := S) (by simp) (by
        have e : ((List.range ops.toList.length).filter fun i => !(Array.replicate ops.toList.length false).getD i true) = List.range ops.toList.length := by
          refine List.filter_eq_self.2 (fun i hi => ?_)
          rw [Array.getD_eq_getD_getElem?, Array.getElem?_replicate, if_pos (List.mem_range.1 hi)]
          rfl
        rw [e, List.length_range]) (fun i o hi => by rw [congrFun hD i] at hi; cases hi) (by
        rw [hD, hF0]
        exact (hr.world ((Below.refl _ _).drew)).wider (fun κ hκ => hκ.elim)) (by rw [hD, hF0]; exact hp)
      rw [hops] at this
      simpa using this
  · exact e4.elim
theorem least {p : Nat → Prop} (h : ∃ n, p n) : ∃ n, p n ∧ ∀ m, p m → n ≤ m := by
  obtain ⟨n, hn⟩ := h
  induction n using Nat.strongRecOn with
  | _ n ih =>
    by_cases hm : ∃ m, m < n ∧ p m
    · obtain ⟨m, h1, h2⟩ := hm
      exact ih m h1 h2
    · exact ⟨n, hn, fun m hpm => Nat.le_of_not_lt (fun hlt => hm ⟨m, hlt, hpm⟩)⟩
open Classical in
theorem vc_ok (hG : ∀ w', Below w0.heap.size w0 w' → G w') (hτ : TauOK P τ) (hm : P.follows .mixedOrders = true) : ∀ (c : Code) {s : St} {K : Ex → St → Prop} {Q : Exit → Act → World → Prop} {a : Act} {w : World},
    vc G P τ N c s K → (∀ x s' a' w', K x s' → RelS w0 S0 N s' a' w' → Q (exOf x) a' w') → RelS w0 S0 N s a w → c.wp P Q a w
  | .skip, s, K, Q, a, w, h, hQ, hr => wp_skip (hQ .normal s a w h hr)
  | .label l, s, K, Q, a, w, h, hQ, hr => wp_label (hQ .normal s a w h hr)
  | .region id ops draw, s, K, Q, a, w, h, hQ, hr => region_ok hG hτ hm h (fun s' a' w' hk hr' => hQ .normal s' a' w' hk hr') hr
  | .seq x y, s, K, Q, a, w, h, hQ, hr => by
    refine wp_seq (vc_ok hG hτ hm x h (fun e s' a' w' hk hr' => ?_) hr)
    cases e with
    | normal => exact vc_ok hG hτ hm y hk hQ hr'
    | exit id => exact hQ (.exit id) s' a' w' hk hr'
    | ret => exact hQ .ret s' a' w' hk hr'
  | .cond c x y, s, K, Q, a, w, h, hQ, hr => by
    unfold vc at h
    split at h
    · rename_i t ht
      have he : a.eval c = .bool t := by
        obtain ⟨β, S, hr, _⟩ := hr
        cases c with
        | tmp q =>
          have ht' : (s.get (.t q)).v = .pv (.lit (.bool t)) := ht
          have := hr.tm q
          rw [ht'] at this
          exact (rep_lit this).1
        | const v =>
          have := constF_rep (β := β) (S := S) (w := w) v
          have ht' : constF v = .pv (.lit (.bool t)) := ht
          rw [ht'] at this
          exact (rep_lit this).1
        | global _ => cases ht
        | func _ => cases ht
      refine wp_cond he ?_
      by_cases hb : t = true
      · rw [if_pos hb] at h ⊢
        exact vc_ok hG hτ hm x h hQ hr
      · rw [if_neg hb] at h ⊢
        exact vc_ok hG hτ hm y h hQ hr
    · exact h.elim
  | .block id b, s, K, Q, a, w, h, hQ, hr => by
    refine wp_block (vc_ok hG hτ hm b h (fun e s' a' w' hk hr' => ?_) hr)
    cases e with
    | normal => exact hQ .normal s' a' w' hk hr'
    | exit j =>
      show Exit.inBlock id Q (.exit j) a' w'
      unfold Exit.inBlock
      simp only at hk ⊢
      by_cases hj : j = id
      · rw [if_pos hj] at hk ⊢
        exact hQ .normal s' a' w' hk hr'
      · rw [if_neg hj] at hk ⊢
        exact hQ (.exit j) s' a' w' hk hr'
    | ret => exact hQ .ret s' a' w' hk hr'
  | .loop b, s, K, Q, a, w, h, hQ, hr => by
    obtain ⟨ks, bs, α, U, I, μ, a0, hI0, hle, hround⟩ := h
    let Inv : Act → World → Prop := fun a w => ∃ x, I x ∧ RelS w0 S0 N ((s.keep ks bs).sets (U x)) a w
    let M : Act → World → Nat := fun a w => if h : ∃ n x, I x ∧ RelS w0 S0 N ((s.keep ks bs).sets (U x)) a w ∧ μ x = n then Classical.choose (least h) else 0
    refine wp_loop Inv M ⟨a0, hI0, le_rel hr hle⟩ (fun a w hI => ?_)
    have hex : ∃ n x, I x ∧ RelS w0 S0 N ((s.keep ks bs).sets (U x)) a w ∧ μ x = n := by
      obtain ⟨x, h1, h2⟩ := hI
      exact ⟨_, x, h1, h2, rfl⟩
    have hM : M a w = Classical.choose (least hex) := dif_pos hex
    obtain ⟨x, hx1, hx2, hx3⟩ := (Classical.choose_spec (least hex)).1
    refine vc_ok hG hτ hm b (hround x hx1) (fun e s' a' w' hk hr' => ?_) hx2
    cases e with
    | normal =>
      obtain ⟨x', k1, k2, k3⟩ := hk
      have hr2 := le_rel hr' k3
      refine ⟨⟨x', k1, hr2⟩, ?_⟩
      have hex' : ∃ n x, I x ∧ RelS w0 S0 N ((s.keep ks bs).sets (U x)) a' w' ∧ μ x = n := ⟨_, x', k1, hr2, rfl⟩
      have hM' : M a' w' = Classical.choose (least hex') := dif_pos hex'
      rw [hM, hM']
      have : Classical.choose (least hex') ≤ μ x' := (Classical.choose_spec (least hex')).2 _ ⟨x', k1, hr2, rfl⟩
      omega
    | exit id => exact hQ (.exit id) s' a' w' hk hr'
    | ret => exact hQ .ret s' a' w' hk hr'
  | .exit id, s, K, Q, a, w, h, hQ, hr => wp_exit (hQ (.exit id) s a w h hr)
  | .ret, s, K, Q, a, w, h, hQ, hr => wp_ret (hQ .ret s a w h hr)
  | .rangeFunc .., s, K, Q, a, w, h, hQ, hr => h.elim
  | .scope _, s, K, Q, a, w, h, hQ, hr => h.elim
  | .goto _, s, K, Q, a, w, h, hQ, hr => h.elim
  | .refuse _, s, K, Q, a, w, h, hQ, hr => h.elim
/-! ### calls -/
def resM (a : Act) (r : ResultVar) : Sem Value :=
  match r with
  | .tmp t => pure (a.tmps.getD t undef)
  | .cell q t => do loadVar t (← asAddr (a.tmps.getD q undef))
theorem results_resM (fn : Func) (a : Act) : results fn a.tmps = (fn.results.mapM (resM a) >>= fun vs => pure (if h : vs.size = 1 then vs[0] else .tuple vs)) := by
  unfold results
  congr 1
theorem cellsAt_run {s : St} (h : Rel w0 S0 N wr s.get a w β S) {i : Nat} : ∀ (n o : Nat) {ps : List PV}, cellsAt s i o n = some ps → ps.length = n ∧ (∀ p, p ∈ ps → p.one = true) ∧ ∀ (j : Nat) p, ps[j]? = some p → ∃ c, w.cell? ⟨β i, o + j, none⟩ = some c ∧ RepP S w c p
  | 0, o, ps, e => by cases e; exact ⟨rfl, fun p hp => by simp at hp, fun j p hp => by simp at hp⟩
  | n + 1, o, ps, e => by
    unfold cellsAt at e
    split at e
    · rename_i p ps' hp hps
      split at e
      · rename_i hone
        cases e
        obtain ⟨k1, k2, k3⟩ := cellsAt_run h n (o + 1) hps
        refine ⟨by simp [k1], fun q hq => ?_, fun j q hq => ?_⟩
        · rcases List.mem_cons.1 hq with e | e
          · subst e; exact hone
          · exact k2 q e
        · cases j with
          | zero =>
            rw [List.getElem?_cons_zero] at hq
            cases hq
            obtain ⟨c, h1, h2, _, _⟩ := h.bx i o (by rw [hp]; simp)
            rw [hp] at h2
            exact ⟨c, h1, h2⟩
          | succ j =>
            obtain ⟨c, h1, h2⟩ := k3 j q (by simpa using hq)
            rw [show o + 1 + j = o + (j + 1) from by omega] at h1
            exact ⟨c, h1, h2⟩
      · cases e
    · cases e
theorem resOne_run (hτ : TauOK P τ) {s : St} (h : Rel w0 S0 N wr s.get a w β S) {r : ResultVar} {p : PV} {ow : Own} (e : resOne τ s r = some (p, ow)) :
    ∃ v, (resM a r).run P w = .ok v w ∧ RepP S w v p ∧ ∀ q, ow = some q → ∃ t, (s.get (.t t)).own = some q ∧ v = a.tmps.getD t undef := by
  cases r with
  | tmp t =>
    simp only [resOne] at e
    split at e
    · rename_i p' ow' fr heq
      cases e
      have hg : s.get (.t t) = ⟨.pv p, ow, fr⟩ := heq
      have ht := h.tm t
      rw [hg] at ht
      exact ⟨a.tmps.getD t undef, by simp [resM], ht, fun q hq => ⟨t, by rw [hg]; exact hq, rfl⟩⟩
    · cases e
  | cell q t =>
    simp only [resOne] at e
    split at e
    · rename_i i o ti hq hti
      have ht := h.tm q
      have hq' : (s.get (.t q)).v = .ptr i o := hq
      rw [hq'] at ht
      have ht' : a.tmps.getD q undef = .pointer (some ⟨β i, o, none⟩) := ht
      split at e
      · rename_i hagg
        split at e
        · rename_i ps hps
          cases e
          obtain ⟨k1, k2, k3⟩ := cellsAt_run h _ _ hps
          obtain ⟨v, r1, r2⟩ := load_agg (S := S) (w := w) hτ hti hagg k1 k2 k3
          refine ⟨v, ?_, r2, fun q hq => by cases hq⟩
          rw [← r1]
          simp [resM, ht', asAddr, Instr.loadAt, Instr.sureAddr]
        · cases e
      · rename_i hagg
        split at e
        · rename_i p' hp
          cases e
          obtain ⟨c, h1, h2, _, _⟩ := h.bx i o (by rw [hp]; simp)
          rw [hp] at h2
          have r1 := load_one (P := P) hτ hti (by simpa using hagg) h1
          refine ⟨c, ?_, h2, fun q hq => by cases hq⟩
          rw [← r1]
          simp [resM, ht', asAddr, Instr.loadAt, Instr.sureAddr]
        · cases e
    · cases e
theorem resAll_run (hτ : TauOK P τ) {s : St} (h : Rel w0 S0 N wr s.get a w β S) : ∀ {rs : List ResultVar} {ps : List PV}, resAll τ s rs = some ps →
    ∃ vs : List Value, (rs.mapM (resM a)).run P w = .ok vs w ∧ vs.length = ps.length ∧ ∀ (i : Nat) (v : Value) (x : PV), vs[i]? = some v → ps[i]? = some x → RepP S w v x
  | [], ps, e => by cases e; exact ⟨[], by simp, rfl, fun i v x hv => by simp at hv⟩
  | r :: rs, ps, e => by
    unfold resAll at e
    split at e
    · rename_i p ow ps' hp hps
      cases e
      obtain ⟨vs, k1, k2, k3⟩ := resAll_run hτ h hps
      obtain ⟨v0, j1, j2, _⟩ := resOne_run hτ h hp
      refine ⟨v0 :: vs, ?_, by simp [k2], fun i v x hv hx => ?_⟩
      · rw [List.mapM_cons]
        simp only [Sem.run_bind, j1, Result.andThen_ok, k1, Sem.run_pure]
      · cases i with
        | zero =>
          rw [List.getElem?_cons_zero] at hv hx
          cases hv
          cases hx
          exact j2
        | succ i => exact k3 i v x (by simpa using hv) (by simpa using hx)
    · cases e
theorem resOf_run (hτ : TauOK P τ) {s : St} (h : Rel w0 S0 N wr s.get a w β S) {fn : Func} {p : PV} {ow : Own} (e : resOf τ s fn.results.toList = some (p, ow)) :
    ∃ v, (results fn a.tmps).run P w = .ok v w ∧ RepP S w v p ∧ ∀ q, ow = some q → ∃ t, (s.get (.t t)).own = some q ∧ v = a.tmps.getD t undef := by
  unfold resOf at e
  split at e
  · rename_i r hr
    obtain ⟨v, j1, j2, j3⟩ := resOne_run hτ h e
    have hrs : fn.results = #[r] := by rw [← Array.toArray_toList (xs := fn.results), hr]
    refine ⟨v, ?_, j2, j3⟩
    rw [results_resM, hrs]
    simp [j1]
  · rename_i hne
    split at e
    · rename_i ps hps
      cases e
      obtain ⟨vs, k1, k2, k3⟩ := resAll_run (P := P) hτ h hps
      have hlen : ∀ {rs : List ResultVar} {ps : List PV}, resAll τ s rs = some ps → ps.length = rs.length := by
        intro rs
        induction rs with
        | nil => intro ps e; cases e; rfl
        | cons r rs ih =>
          intro ps e
          unfold resAll at e
          split at e
          · rename_i h2; cases e; simp [ih h2]
          · cases e
      have hl1 : ¬ (vs.toArray.size = 1) := by
        intro hone
        have : fn.results.toList.length = 1 := by rw [← hlen hps, ← k2]; simpa using hone
        obtain ⟨r, hr⟩ := List.length_eq_one_iff.1 this
        exact hne r hr
      refine ⟨.tuple vs.toArray, ?_, .tup _ _ (by simpa using k2) (fun i v x hv hx => k3 i v x (by simpa using hv) hx), fun q hq => by cases hq⟩
      rw [results_resM, Array.mapM_eq_mapM_toList]
      simp only [Sem.run_bind, Sem.run_map, k1, Result.andThen_ok, Sem.run_pure]
      rw [dif_neg hl1]
    · cases e
/-- A predicate on worlds that more memory leaves standing. -/
def Stable (G : World → Prop) : Prop := ∀ w w', G w → Below w.heap.size w w' → G w'
theorem acalls_vc (hst : Stable G) (hτ : TauOK P τ) (hm : P.follows .mixedOrders = true) {f : FuncId} {fn : Func} {c : Code} {args : List PV} {res : PV} {own : Own} (hf : P.funcs[f]? = some fn) (hname : (fn.name == "runtime.NumGoroutine") = false) (hb : fn.body = some c)
    (hargs : args.length ≤ fn.ntmps) (h : vc G P τ fn.ntmps c (St.init args fn.ntmps) (post τ fn.results.toList res own)) : ACalls G P f args res own := by
  refine ⟨⟨fn, hf, hname, by rw [hb]; rfl⟩, fun w S vs hGw hSa hrep => ?_⟩
  refine calls_of_wp hf hb ?_
  have hsz : (vs ++ Array.replicate (fn.ntmps - vs.size) undef).size = fn.ntmps := by simp [hrep.1]; omega
  have hgL : ∀ (cs : List C) (i : Nat), getL cs i = cs.getD i unC := by
    intro cs
    induction cs with
    | nil => intro i; rfl
    | cons c cs ih =>
      intro i
      cases i with
      | zero => rfl
      | succ i => simpa [getL] using ih i
  have hget : ∀ t, (St.init args fn.ntmps).get (.t t) = match args[t]? with | some p => ⟨.pv p, none, none⟩ | none => unC := fun t => by
    show getL (args.map (fun p => (⟨.pv p, none, none⟩ : C)) ++ List.replicate (fn.ntmps - args.length) unC) t = _
    rw [hgL, List.getD_eq_getElem?_getD]
    cases hp : args[t]? with
    | some p =>
      have hlt : t < args.length := (List.getElem?_eq_some_iff.1 hp).1
      rw [List.getElem?_append_left (by simpa using hlt), List.getElem?_map, hp]
      rfl
    | none =>
      have hge : args.length ≤ t := List.getElem?_eq_none_iff.1 hp
      rw [List.getElem?_append_right (by simpa using hge), List.getElem?_replicate]
      split <;> rfl
  have hinit : RelS w S fn.ntmps (St.init args fn.ntmps) { tmps := vs ++ Array.replicate (fn.ntmps - vs.size) undef, defers := [] } w := by
    refine ⟨fun _ => 0, S, ?_, fun κ i o e => ?_⟩
    · have hno : ∀ κ, ((St.init args fn.ntmps).get κ).own = none ∧ ((St.init args fn.ntmps).get κ).frm = none := fun κ => by
        cases κ with
        | t t => rw [hget]; cases args[t]? <;> exact ⟨rfl, rfl⟩
        | b i o => exact ⟨rfl, rfl⟩
        | al i => exact ⟨rfl, rfl⟩
      constructor
      · exact Below.refl _ _
      · rfl
      · exact hsz
      · exact fun b o h => h
      · exact fun b o h => .inl h
      · exact hSa
      · intro t
        rw [hget]
        cases hp : args[t]? with
        | none => trivial
        | some p =>
          have hlt : t < vs.size := by rw [hrep.1]; exact (List.getElem?_eq_some_iff.1 hp).1
          have hv : (vs ++ Array.replicate (fn.ntmps - vs.size) undef).getD t undef = vs[t] := by
            rw [Array.getD_eq_getD_getElem?, Array.getElem?_append_left hlt, Array.getElem?_eq_getElem hlt]
            rfl
          show RepP S w ((vs ++ Array.replicate (fn.ntmps - vs.size) undef).getD t undef) p
          rw [hv]
          exact hrep.2 t _ p (Array.getElem?_eq_getElem hlt) hp
      · intro i o hne; exact absurd rfl hne
      · intro i hne; exact absurd rfl hne
      · intro i j hne; exact absurd rfl hne
      · intro κ e k he; rw [(hno κ).1] at he; cases he
      · intro κ κ' v v' b h1; exact absurd (hno κ).1 h1
      · intro t κ' e; rw [(hno _).2] at e; cases e
      · intro i o hne; exact absurd rfl hne
    · cases κ with
      | t t => rw [hget] at e; cases hp : args[t]? <;> rw [hp] at e <;> cases e
      | b i o => cases e
      | al i => cases e
  refine vc_ok (fun w' hw' => hst w w' hGw hw') hτ hm c h (fun x s' a' w' hk hr => ?_) hinit
  have fin : ∀ s' a' w', (match resOf τ s' fn.results.toList with | some (p, ow) => p.norm = res ∧ ownLe p ow own | none => False) → RelS w S fn.ntmps s' a' w' →
      a'.defers = [] ∧ ∃ v, (results fn a'.tmps).run P w' = .ok v w' ∧ ∃ v' S', Ending.returned v = .returned v' ∧ Below w.heap.size w w' ∧ G w' ∧ (∀ b o, S b o → S' b o) ∧ (∀ b o, S' b o → S b o ∨ w.heap.size ≤ b) ∧ (∀ b o, S' b o → b < w'.heap.size) ∧
        RepP S' w' v' res ∧ OwnR w.heap.size S' w' v' own := by
    intro s' a' w' hk hr
    obtain ⟨β', S', hr, _⟩ := hr
    split at hk
    · rename_i p ow hres
      obtain ⟨v, r1, r2, r3⟩ := resOf_run (P := P) hτ hr hres
      refine ⟨hr.df, v, r1, v, S', rfl, hr.below, hst w w' hGw hr.below, hr.s0, hr.sn, hr.sa, by rw [← hk.1]; exact r2.norm, ?_⟩
      cases own with
      | none => trivial
      | some q =>
        rcases hk.2 with e | e
        · subst e
          rw [rep_nil r2]
          exact ⟨0, [], World.ownsRow_nil _ _ _ _, fun b hb => by cases hb⟩
        · obtain ⟨t, q1, q2⟩ := r3 q e
          obtain ⟨u, n, xs, z1, z2, z3⟩ := hr.own _ q.1 q.2 q1
          have : u = v := by rw [q2]; cases z1; rfl
          subst this
          exact ⟨n, xs, z2, fun b hb => (z3 b hb).1⟩
    · exact hk.elim
  cases x with
  | normal => exact fin s' a' w' hk hr
  | ret => exact fin s' a' w' hk hr
  | exit id => exact hk.elim
/-- A function, by the conditions of its code: 'A' stands for the calls that are known, 'τ' for the types. -/
theorem acalls_fn (hst : Stable G) (hm : P.follows .mixedOrders = true) (hτ : TauOK P τ) {f : FuncId} {fn : Func} {args : List PV} {res : PV} {own : Own} (hf : P.funcs[f]? = some fn) (hname : (fn.name == "runtime.NumGoroutine") = false) (hb : fn.body.isSome = true)
    (hargs : Nat.ble args.length fn.ntmps = true) (h : ∀ Q, (∀ f args res own, ACalls G P f args res own → ACalls G Q f args res own) → vc G Q τ fn.ntmps (fn.body.getD .skip) (St.init args fn.ntmps) (post τ fn.results.toList res own)) : ACalls G P f args res own :=
  acalls_vc hst hτ hm hf hname (by cases hq : fn.body <;> simp_all) (by simpa [Nat.ble_eq] using hargs) (h P (fun _ _ _ _ h => h))
end
end Go.Proofs.YtpflimghkckpjaaGreatDoor.B
