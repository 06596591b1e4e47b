/-
The reference of chapter 2, walked: Depth, Count, Copy, Has, shaped. Condition: none.
The reference of chapter 2, walked: Depth, Count, Copy. Condition: none.
The reference of chapter 2, walked: Has, shaped. Condition: none.
The reference of chapter 2, walked: look, Check. Condition: the contract of the reference's Valid.
-/
import Derived.Test.YtbjfmkmaghapgaaGreatDoorBFun5
set_option linter.unusedVariables false
set_option linter.unusedSimpArgs false
namespace Go.Proofs.YtbjfmkmaghapgaaGreatDoor.B
open Go.RowKit
/-- The lists of a Json. -/
def codeJ : Nat := encO [(3, 9, 1), (4, 42, 5)]
theorem codeJ_dec : decO 16 codeJ = [(3, 9, 1), (4, 42, 5)] := by decide
/-- A list of scalars needs its own block alone. -/
theorem rep_block {S S' : Nat → Nat → Prop} {w : World} {v : Value} {xs : List (List PV)} (h : RepP S w v (.sl xs)) (hf : Flat xs) {g : Nat} (hg : ∀ b, v.ownBlock = some b → b = g) (hS : ∀ o, S g o → S' g o) : RepP S' w v (.sl xs) := by
  cases h with
  | nil' A => exact .nil' A
  | sl b off k cap _ c h1 h2 h3 h4 h5 =>
    have e : b = g := hg b rfl
    subst e
    exact .sl b off k cap xs c h1 h2 (fun i j hi hj => hS _ (h3 i j hi hj)) h4 (fun i j r x hr hx => flat_any (h5 i j r x hr hx) (hf r (List.mem_of_getElem? hr) x (List.mem_of_getElem? hx)))
/-- A Json whose items may be written. -/
theorem HCalls.thawJ {G : World → Prop} {P : Program} {f : FuncId} {args : List PV} {k n : Int} {t : ByteArray} {KX IX : List (List PV)} (h : ACalls G P f args (jp k n t KX IX) (some (codeJ, 0))) (hk : ∀ r, r ∈ IX → r.length = 5) (hf : Flat IX) (hfK : Flat KX) (hne : IX ≠ []) :
    HCalls G P f (pvL args) [] (.aggf [.pv (.lit (.int .i64 k)), .pv (.lit (.int .i64 n)), .pv (.lit (.string t)), .pv (.sl KX), .slp 20000 5 0 IX.length]) none [(20000, [.rows 5 IX])] := by
  refine ⟨h.1, fun w S β vs hG hS _ hrep => ?_⟩
  have hr : RepL S w vs args := ⟨by rw [hrep.1, pvL_len], fun i v p hv hp => hrep.2 i v (.pv p) hv (by rw [pvL_at, hp]; rfl)⟩
  refine (h.2 w S vs (hG w (Kept.refl _ _)) hS hr).mono ?_
  rintro e' w' ⟨v, S', rfl, hb, _, s1, s2, s3, hv, hown, hdn⟩
  obtain ⟨us, rfl, hl, h1c, hcs⟩ := rep_agg hv
  obtain ⟨l⟩ := us
  match l, hl with
  | [u0, u1, u2, u3, u4], _ =>
    have g0 := hcs 0 u0 _ rfl rfl
    have g1 := hcs 1 u1 _ rfl rfl
    have g2 := hcs 2 u2 _ rfl rfl
    have g3 := hcs 3 u3 _ rfl rfl
    have g4 := hcs 4 u4 _ rfl rfl
    have hparts : partsO (codeJ, 0) (.agg #[u0, u1, u2, u3, u4]) = [(9, 1, u3), (42, 5, u4)] := by
      unfold partsO
      rw [if_pos rfl, codeJ_dec]
      rfl
    have hown' : OwsL (fun b => w.heap.size ≤ b) w' S' (partsO (codeJ, 0) (.agg #[u0, u1, u2, u3, u4])) := hown
    rw [hparts] at hown'
    obtain ⟨⟨⟨n3, x3, o3, q3⟩, d3⟩, hown2⟩ := OwsL.cons.1 hown'
    obtain ⟨⟨⟨n4, x4, o4, q4⟩, d4⟩, _⟩ := OwsL.cons.1 hown2
    rcases rep_sl g4 with ⟨_, q⟩ | ⟨b, off, k', cap, hx, hcap, hkk, hrows⟩
    · exact absurd q hne
    rcases o4.2 with ⟨q, _⟩ | ⟨gb, cap', cur, q, hg1, hg2, hcapn, _, hcsz, htake⟩
    · have q : u4 = _ := q
      rw [hx] at q; cases q
    have q : u4 = _ := q
    have hob : u4.ownBlock = some b := by rw [hx]; rfl
    rw [hx] at q
    cases q
    have hkeq : k' = 5 := by
      cases IX with
      | nil => exact absurd rfl hne
      | cons r rs => exact (hkk r (List.mem_cons_self ..)).symm.trans (hk r (List.mem_cons_self ..))
    subst hkeq
    have hlt : b < w'.heap.size := (o4.lt b hob).2
    have hge : w.heap.size ≤ b := (d4 b hob).1
    have hne3 : ∀ g, u3.ownBlock = some g → g ≠ b := fun g hg e => (d3 g hg).2 ⟨_, List.mem_cons_self .., by subst e; exact hob⟩
    refine ⟨_, fun q o => S' q o ∧ q ≠ b, fun _ => b, rfl, ⟨hb.os, hb.tape, hb.output, hb.size, fun q hq _ => hb.block q hq⟩, fun q o hs => ⟨s1 q o hs, fun e => by have := hS q o hs; omega⟩, fun q o hs => s2 q o hs.1, fun q o hs => s3 q o hs.1, fun i hi => by simp [idsOf] at hi, fun i hi _ => hge, ?_, ?_, trivial, fun b hb' => hb'.elim, hdn⟩
    · refine ⟨fun i hi => ⟨hlt, fun o hs => hs.2 rfl⟩, fun i j hi hj _ => by simp [idsOf] at hi hj; rw [hi, hj], fun i ys hm o x hx' hne' => ?_⟩
      simp at hm
      obtain ⟨rfl, rfl⟩ := hm
      cases o with
      | succ o => simp at hx'
      | zero =>
        simp at hx'
        subst hx'
        refine ⟨rfl, rfl, ⟨hk, fun i j r x hr' hxj => ?_⟩, fun q => ?_⟩
        · obtain ⟨_, c, c1, c2, c3⟩ := hrows i r hr' j x hxj
          rw [Nat.zero_add] at c1
          exact ⟨c, c1, flat_any c2 (hf r (List.mem_of_getElem? hr') x (List.mem_of_getElem? hxj)), c3⟩
        · simp [World.frozen?, hg2]
    · refine ⟨[u0, u1, u2, u3, u4], rfl, ⟨flat_any g0 rfl, flat_any g1 rfl, flat_any g2 rfl, ?_, ⟨cap, 0, hcap, hx, .inr (by simp)⟩, trivial⟩, fun u hu => h1c u (by simpa using hu)⟩
      rcases rep_sl g3 with ⟨e, e2⟩ | ⟨b3, off3, k3, cap3, hx3, _⟩
      · obtain ⟨A, e⟩ := e
        rw [e, e2]; exact RepP.nil' A
      · have hob3 : u3.ownBlock = some b3 := by rw [hx3]; rfl
        exact rep_block g3 hfK (g := b3) (fun b' hb' => by rw [hob3] at hb'; cases hb'; rfl) (fun o hs => ⟨hs, hne3 b3 hob3⟩)
end Go.Proofs.YtbjfmkmaghapgaaGreatDoor.B

set_option linter.unusedVariables false
set_option linter.unusedSimpArgs false
namespace Go.Proofs.YtbjfmkmaghapgaaGreatDoor.B
open Go.RowKit
set_option maxRecDepth 100000 in
set_option maxHeartbeats 2000000 in
theorem rdepth_ac {G : World → Prop} (hst : Stable G) : ∀ (sz : Nat) (x : J) (k n : Int) (t : ByteArray) (KX IX : List (List PV)), x.size ≤ sz → x.size ≤ 1000000 → JRow x k n t KX IX → ∀ (d : Int), Is d (fun _ => (x.depth : Int)) →
    ACalls G Tryz.prog 67 [jp k n t KX IX] (.lit (.int .i64 d)) none
  | 0, x, k, n, t, KX, IX, h, _, _, d, _ => by cases x; simp [J.size] at h
  | sz + 1, x, k, n, t, KX, IX, hsz, hbig, hJ, d, hd => by
    obtain ⟨ks, is, rfl, hK, hI⟩ := hJ
    have hIl : IX.length = is.length := by rw [← hI]; simp
    have hdep := depths_le is
    have hlen := sizes_len is
    have hs1 : sizes is ≤ sz ∧ sizes is ≤ 1000000 := by simp only [J.size] at hsz hbig; omega
    have ih := fun (x : J) (hx : x ∈ is) k n t KX IX (hJ : JRow x k n t KX IX) d hd => rdepth_ac hst sz x k n t KX IX (by have := size_mem hx; omega) (by have := size_mem hx; omega) hJ d hd
    have no : ¬ (k = 5 ∨ k = 6) → d = 0 := fun h => by rw [hd.len]; simp only [J.depth]; rw [if_neg h]; rfl
    have loop : (k = 5 ∨ k = 6) → d = depths is + 1 := fun h => by rw [hd.len]; simp only [J.depth]; rw [if_pos h]; rfl
    refine acalls_fn hst mixed tau_ok Tryz.func67 (by kernel_rfl) (by kernel_rfl) (by kernel_rfl) ?_
    intro Q hQ
    cbv
    intro b1 h1
    cbv
    cases b1 <;> cbv
    rotate_left
    intro b2 h2
    cbv
    cases b2 <;> cbv
    rotate_left
    · refine litI ?_
      have e1 := h1.yes
      have e2 := h2.yes
      exact (no (by omega)).symm
    all_goals have hk : k = 5 ∨ k = 6 := by first | (have := h1.no; omega) | (have := h2.no; omega)
    all_goals clear h1
    all_goals try clear h2
    all_goals
      refine Or.inr ⟨[1], [200001], Int × Int, fun p => [(.t 4, ⟨.pv (.lit (.int .i64 p.1)), none, none⟩), (.t 3, ⟨.pv (.lit (.int .i64 p.2)), none, none⟩)], fun p => DepthAt is p.1 p.2, fun p => IX.length - p.1.toNat, (0, 0), (show DepthAt is 0 0 from ⟨by omega, by omega, by simp [depths]⟩), ?_, ?_⟩
      · cbv
        simp
      · intro ⟨i, e⟩ hp
        have hp : DepthAt is i e := hp
        cbv
        intro m1 g1
        cbv
        intro c1 h2
        cbv
        cases c1
        · cbv
          intro r hr
          cbv
          refine litI ?_
          have h := h2.no
          rw [g1.len, hIl] at h
          have hkt : is.take i.toNat = is := List.take_of_length_le (by omega)
          have he := hp.out
          rw [hkt] at he
          have := hr.add1 (by omega) (by omega)
          rw [hd.len]
          simp only [J.depth, if_pos hk]
          omega
        · cbv
          refine ⟨g1.atL hp.lo h2.yes, ?_⟩
          intro r hr
          obtain ⟨x, hx, rfl⟩ := hr.row hI
          obtain ⟨k', n', t', KX', IX', hJ', he'⟩ := JRow.of x
          rw [he']
          cbv
          obtain ⟨d', hd'⟩ : ∃ d', Is d' (fun _ => (x.depth : Int)) := ⟨_, ⟨rfl⟩⟩
          refine Or.inl ⟨_, _, hQ _ _ _ _ (ih x (List.mem_of_getElem? hx) k' n' t' KX' IX' hJ' d' hd'), ?_⟩
          cbv
          intro m2 h3
          cbv
          intro m3 h4
          cbv
          have h := h2.yes
          have hm1 := g1.len
          refine ⟨(m3, m2), ?_, ?_, ?_⟩
          · have := hp.lo
            obtain rfl := h4.inc (n := IX.length) hp.lo (by omega) (by omega)
            refine ⟨by omega, by omega, ?_⟩
            rw [take_next is hp.lo, depths_take is _ x hx, h3.max, hp.out, hd'.len]
            omega
          · have := hp.lo
            obtain rfl := h4.inc (n := IX.length) hp.lo (by omega) (by omega)
            show IX.length - (i + 1).toNat < IX.length - i.toNat
            omega
          · cbv
            simp
set_option maxRecDepth 100000 in
set_option maxHeartbeats 2000000 in
theorem rcount_ac {G : World → Prop} (hst : Stable G) : ∀ (sz : Nat) (x : J) (k n : Int) (t : ByteArray) (KX IX : List (List PV)), x.size ≤ sz → x.size ≤ 1000000 → JRow x k n t KX IX → ∀ (d : Int), Is d (fun _ => (x.count : Int)) →
    ACalls G Tryz.prog 68 [jp k n t KX IX] (.lit (.int .i64 d)) none
  | 0, x, k, n, t, KX, IX, h, _, _, d, _ => by cases x; simp [J.size] at h
  | sz + 1, x, k, n, t, KX, IX, hsz, hbig, hJ, d, hd => by
    obtain ⟨ks, is, rfl, hK, hI⟩ := hJ
    have hIl : IX.length = is.length := by rw [← hI]; simp
    have hlen := sizes_len is
    have hcn := counts_le is
    have hs1 : sizes is ≤ sz ∧ sizes is ≤ 1000000 := by simp only [J.size] at hsz hbig; omega
    have ih := fun (x : J) (hx : x ∈ is) k n t KX IX (hJ : JRow x k n t KX IX) d hd => rcount_ac hst sz x k n t KX IX (by have := size_mem hx; omega) (by have := size_mem hx; omega) hJ d hd
    refine acalls_fn hst mixed tau_ok Tryz.func68 (by kernel_rfl) (by kernel_rfl) (by kernel_rfl) ?_
    intro Q hQ
    cbv
    refine Or.inr ⟨[1], [200001], Int × Int, fun p => [(.t 4, ⟨.pv (.lit (.int .i64 p.1)), none, none⟩), (.t 3, ⟨.pv (.lit (.int .i64 p.2)), none, none⟩)], fun p => CountAt is p.1 p.2, fun p => IX.length - p.1.toNat, (0, 1), (show CountAt is 0 1 from ⟨by omega, by omega, by simp [counts]⟩), ?_, ?_⟩
    · cbv
      simp
    · intro ⟨i, e⟩ hp
      have hp : CountAt is i e := hp
      cbv
      intro m1 h1
      cbv
      intro c1 h2
      cbv
      cases c1
      · cbv
        refine litI ?_
        have h := h2.no
        rw [h1.len, hIl] at h
        have hk : is.take i.toNat = is := List.take_of_length_le (by omega)
        have he := hp.out
        rw [hk] at he
        rw [hd.len]
        simp only [J.count]
        omega
      · cbv
        refine ⟨h1.atL hp.lo h2.yes, ?_⟩
        intro r hr
        obtain ⟨x, hx, rfl⟩ := hr.row hI
        obtain ⟨k', n', t', KX', IX', hJ', he'⟩ := JRow.of x
        rw [he']
        cbv
        obtain ⟨d', hd'⟩ : ∃ d', Is d' (fun _ => (x.count : Int)) := ⟨_, ⟨rfl⟩⟩
        refine Or.inl ⟨_, _, hQ _ _ _ _ (ih x (List.mem_of_getElem? hx) k' n' t' KX' IX' hJ' d' hd'), ?_⟩
        cbv
        intro m2 h3
        cbv
        intro m3 h4
        cbv
        have h := h2.yes
        have hm1 := h1.len
        have hlo := hp.lo
        have hle := counts_take_le is i.toNat
        have hxe := depths_le is
        have hcx := count_le x
        have hsx := size_mem (List.mem_of_getElem? hx)
        have e1 := hp.out
        have e2 := hd'.len
        have e3 := h3.add (by omega) (by omega)
        obtain rfl := h4.inc (n := IX.length) hp.lo (by omega) (by omega)
        refine ⟨(i + 1, m2), ?_, ?_, ?_⟩
        · refine ⟨by omega, by omega, ?_⟩
          rw [take_next is hp.lo, counts_take is _ x hx]
          omega
        · show IX.length - (i + 1).toNat < IX.length - i.toNat
          omega
        · cbv
          simp
set_option maxRecDepth 100000 in
set_option maxHeartbeats 4000000 in
theorem rcopy_ac {G : World → Prop} (hst : Stable G) : ∀ (sz : Nat) (x : J) (k n : Int) (t : ByteArray) (KX IX : List (List PV)), x.size ≤ sz → x.size ≤ 1000000 → JRow x k n t KX IX →
    ACalls G Tryz.prog 70 [jp k n t KX IX] (jp k n t KX IX) (some (codeJ, 0))
  | 0, x, k, n, t, KX, IX, h, _, _ => by cases x; simp [J.size] at h
  | sz + 1, x, k, n, t, KX, IX, hsz, hbig, hJ => by
    obtain ⟨ks, is, rfl, hK, hI⟩ := hJ
    have hIl : IX.length = is.length := by rw [← hI]; simp
    have hlen := sizes_len is
    have hs1 : sizes is ≤ sz ∧ sizes is ≤ 1000000 ∧ ks.length ≤ 1000000 := by simp only [J.size] at hsz hbig; omega
    have hKl : KX.length ≤ 1000000000 := by rw [← hK]; simp; omega
    have ih := fun (x : J) (hx : x ∈ is) k n t KX IX (hJ : JRow x k n t KX IX) => rcopy_ac hst sz x k n t KX IX (by have := size_mem hx; omega) (by have := size_mem hx; omega) hJ
    refine acalls_fn hst mixed tau_ok Tryz.func70 (by kernel_rfl) (by kernel_rfl) (by kernel_rfl) ?_
    intro Q hQ
    cbv
    refine ⟨⟨by simp; omega, by simp, hK ▸ lenS ks⟩, ?_⟩
    intro K1 hK1
    have : K1 = KX := by rw [hK1.out]; simp
    subst this
    cbv
    refine Or.inr ⟨[1, 2, 3], [200001, 200002, 200003], Int × List (List PV), fun p => [(.t 4, ⟨.pv (.lit (.int .i64 p.1)), none, none⟩), (.b 200003 4, ⟨.pv (.sl p.2), some (42, 5), none⟩)], fun p => CopyAt IX p.1 p.2, fun p => IX.length - p.1.toNat, (0, []), (show CopyAt IX 0 [] from ⟨by omega, by omega, by simp⟩), ?_, ?_⟩
    · cbv
      simp
    · intro ⟨i, Y⟩ hp
      have hp : CopyAt IX i Y := hp
      cbv
      intro m1 h1
      cbv
      intro c1 h2
      cbv
      cases c1
      · cbv
        have h := h2.no
        have e1 := h1.len
        have e2 := hp.out
        rw [List.take_of_length_le (by omega)] at e2
        subst e2
        exact ⟨rfl, Or.inr trivial⟩
      · cbv
        refine ⟨h1.atL hp.lo h2.yes, ?_⟩
        intro r hr
        obtain ⟨x, hx, rfl⟩ := hr.row hI
        obtain ⟨k', n', t', KX', IX', hJ', he'⟩ := JRow.of x
        rw [he']
        cbv
        refine Or.inl ⟨_, _, hQ _ _ _ _ (ih x (List.mem_of_getElem? hx) k' n' t' KX' IX' hJ'), ?_⟩
        cbv
        have hYl : Y.length ≤ 1000000 := by rw [hp.out, List.length_take]; omega
        refine ⟨⟨by simp; omega, fun r hr => ?_, fun r hr => ?_⟩, ?_⟩
        · rw [hp.out] at hr
          exact (hI ▸ lenJ is) r (List.mem_of_mem_take hr)
        · simp at hr; subst hr; rfl
        · intro Y' hY'
          cbv
          intro i' hi'
          cbv
          have e1 := h1.len
          have e2 := h2.yes
          have e3 := hp.lo
          have e4 := hi'.add1 (by omega) (by omega)
          refine ⟨(i', Y'), ?_, ?_, ?_⟩
          · refine ⟨by omega, by omega, ?_⟩
            have hx' : IX[i.toNat]? = some (encJ x) := by rw [← hI, List.getElem?_map, hx]; rfl
            rw [hY'.out, e4, take_next IX hp.lo, List.take_add_one, hx', hp.out, he']
            rfl
          · show IX.length - i'.toNat < IX.length - i.toNat
            omega
          · cbv
            simp
end Go.Proofs.YtbjfmkmaghapgaaGreatDoor.B

set_option linter.unusedVariables false
set_option linter.unusedSimpArgs false
namespace Go.Proofs.YtbjfmkmaghapgaaGreatDoor.B
open Go.RowKit
def hasB (l : List ByteArray) (s : ByteArray) : Bool := l.any (fun y => decide (y = s))
theorem hasB_iff (l : List ByteArray) (s : ByteArray) : hasB l s = true ↔ s ∈ l := by
  unfold hasB
  rw [List.any_eq_true]
  constructor
  · rintro ⟨x, h1, h2⟩; simp at h2; subst h2; exact h1
  · intro h; exact ⟨s, h, by simp⟩
set_option maxRecDepth 100000 in
set_option maxHeartbeats 2000000 in
theorem rhas_ac {G : World → Prop} (hst : Stable G) (l : List ByteArray) (X : List (List PV)) (hX : l.map encS = X) (hl : l.length ≤ 1000000) (s : ByteArray) (c : Bool) (hc : Is c (fun _ => hasB l s)) :
    ACalls G Tryz.prog 97 [.sl X, .lit (.string s)] (.lit (.bool c)) none := by
  have hXl : X.length = l.length := by rw [← hX]; simp
  refine acalls_fn hst mixed tau_ok Tryz.func97 (by kernel_rfl) (by kernel_rfl) (by kernel_rfl) ?_
  intro Q hQ
  cbv
  refine Or.inr ⟨[0, 1], [], Int, fun k => [(.t 5, ⟨.pv (.lit (.int .i64 k)), none, none⟩)], NoneYet (fun x => decide (x = s)) l, fun k => X.length - k.toNat, 0, NoneYet.zero, ?_, ?_⟩
  · cbv
    simp
  · intro k hk
    have hk : NoneYet (fun x => decide (x = s)) l k := hk
    cbv
    intro m1 h1
    cbv
    intro b1 h2
    cbv
    cases b1
    · cbv
      refine litB ?_
      have e1 := h1.len
      have e2 := h2.no
      rw [hc.out]
      unfold hasB
      refine (List.any_eq_false.2 (fun x hx => ?_)).symm
      obtain ⟨i, hi, rfl⟩ := List.mem_iff_getElem.1 hx
      have := hk.all i _ (by omega) (List.getElem?_eq_getElem hi)
      simpa using this
    · cbv
      refine ⟨h1.atL hk.lo h2.yes, ?_⟩
      intro r hr
      obtain ⟨x, hx, rfl⟩ := hr.row hX
      cbv
      intro b2 h3
      cbv
      cases b2
      · cbv
        intro k' hk'
        cbv
        have e1 := h1.len
        have e2 := h2.yes
        have e3 := hk.lo
        have e4 := hk'.add1 (by omega) (by omega)
        refine ⟨k', ?_, ?_, ?_⟩
        · rw [e4]
          exact hk.next hx (by have := h3.out; simpa using this.symm)
        · show X.length - k'.toNat < X.length - k.toNat
          omega
        · cbv
          simp
      · cbv
        refine litB ?_
        rw [hc.out]
        exact ((hasB_iff l s).2 (by have := h3.yes; subst this; exact List.mem_of_getElem? hx)).symm
set_option maxRecDepth 100000 in
set_option maxHeartbeats 8000000 in
theorem rshaped_ac {G : World → Prop} (hst : Stable G) (k n : Int) (t : ByteArray) (KX IX : List (List PV)) (hk : 1 ≤ k ∧ k ≤ 6) (c : Bool) (hc : Is c (fun _ => usedOK k n t KX.length IX.length)) :
    ACalls G Tryz.prog 96 [jp k n t KX IX] (.lit (.bool c)) none := by
  refine acalls_fn hst mixed tau_ok Tryz.func96 (by kernel_rfl) (by kernel_rfl) (by kernel_rfl) ?_
  intro Q hQ
  cbv
  iterate 14 (all_goals first | (intro (b : Bool) hb; cases b <;> (try cbv)) | (intro (m : Int) hm; try cbv) | skip)
  all_goals refine litB ?_
  all_goals rw [hc.out]
  all_goals simp only [is_t, is_f] at *
  all_goals simp only [is_e] at *
  all_goals try subst_vars
  all_goals first
    | (simp_all [usedOK]; done)
    | (unfold usedOK; grind)
end Go.Proofs.YtbjfmkmaghapgaaGreatDoor.B

set_option linter.unusedVariables false
set_option linter.unusedSimpArgs false
namespace Go.Proofs.YtbjfmkmaghapgaaGreatDoor.B
open Go.RowKit
/-- The contract of outlawref01.Valid. -/
def RValidC (G : World → Prop) : Prop := ∀ s : ByteArray, s.size ≤ 9223372036854775807 → ACalls G Tryz.prog 72 [.lit (.string s)] (.lit (.bool (validB s))) none
theorem twice_nod : ∀ (l : List ByteArray), twiceB l = false ↔ l.Nodup
  | [] => by simp [twiceB]
  | a :: l => by
    have ih := twice_nod l
    rw [List.nodup_cons, ← ih]
    rw [show twiceB (a :: l) = (l.any (fun y => decide (a = y)) || twiceB l) from rfl, Bool.or_eq_false_iff]
    refine and_congr ?_ Iff.rfl
    rw [List.any_eq_false]
    constructor
    · intro h hm
      exact h a hm (by simp)
    · intro h x hx
      simp only [decide_eq_true_eq]
      intro e
      subst e
      exact h hx
/-- No two are alike, so far. -/
structure NodAt (ks : List ByteArray) (k : Int) : Prop where
  lo : 0 ≤ k
  hi : k ≤ ks.length
  all : (ks.take k.toNat).Nodup
theorem NodAt.next {ks : List ByteArray} {k : Int} (h : NodAt ks k) {s : ByteArray} (hs : ks[k.toNat]? = some s) (hn : s ∉ ks.take k.toNat) : NodAt ks (k + 1) := by
  have h0 := h.lo
  have hlt := (List.getElem?_eq_some_iff.1 hs).1
  refine ⟨by omega, by omega, ?_⟩
  rw [show (k + 1).toNat = k.toNat + 1 by omega, List.take_add_one, hs]
  refine List.nodup_append.2 ⟨h.all, by simp, fun a ha b hb e => ?_⟩
  simp at hb
  subst hb
  exact hn (e ▸ ha)
theorem twice_at {ks : List ByteArray} {k : Nat} {s : ByteArray} (hs : ks[k]? = some s) (hm : s ∈ ks.take k) : twiceB ks = true := by
  cases hb : twiceB ks with
  | true => rfl
  | false =>
    exfalso
    have hn := (twice_nod ks).1 hb
    obtain ⟨hk, e2⟩ := List.getElem?_eq_some_iff.1 hs
    rw [← List.take_append_drop k ks] at hn
    have := (List.nodup_append.1 hn).2.2 s hm s (by rw [List.drop_eq_getElem_cons hk, e2]; simp)
    exact this rfl
theorem Is.notT {b : Bool} (h : Is true (fun _ => !b)) : b = false := by have h := h.out; cases b <;> first | rfl | cases h
theorem Is.notF {b : Bool} (h : Is false (fun _ => !b)) : b = true := by have h := h.out; cases b <;> first | rfl | cases h
structure NoErrR (is : List J) (k : Int) : Prop where
  lo : 0 ≤ k
  hi : k ≤ is.length
  all : looks is = looks (is.drop k.toNat)
theorem NoErrR.step {is : List J} {k : Int} (h : NoErrR is k) {x : J} (hx : is[k.toNat]? = some x) : looks is = if lookJ x = 0 then looks (is.drop (k.toNat + 1)) else lookJ x := by
  have hlt := (List.getElem?_eq_some_iff.1 hx).1
  have e : is[k.toNat] = x := by rw [List.getElem?_eq_getElem hlt] at hx; simpa using hx
  rw [h.all, List.drop_eq_getElem_cons hlt, e]
  rfl
set_option maxRecDepth 100000 in
set_option maxHeartbeats 8000000 in
theorem rlook_ac {G : World → Prop} (hst : Stable G) (hV : RValidC G) : ∀ (sz : Nat) (x : J) (k n : Int) (t : ByteArray) (KX IX : List (List PV)), x.size ≤ sz → x.size ≤ 1000000 → okB x = true → JRow x k n t KX IX → ∀ (c : Int), Is c (fun _ => lookJ x) →
    ACalls G Tryz.prog 69 [jp k n t KX IX] (.lit (.int .i64 c)) none
  | 0, x, k, n, t, KX, IX, h, _, _, _, c, _ => by cases x; simp [J.size] at h
  | sz + 1, x, k, n, t, KX, IX, hsz, hbig, hok, hJ, c, hc => by
    obtain ⟨ks, is, rfl, hK, hI⟩ := hJ
    have hIl : IX.length = is.length := by rw [← hI]; simp
    have hKl : KX.length = ks.length := by rw [← hK]; simp
    have hlen := sizes_len is
    have hs1 : sizes is ≤ sz ∧ sizes is ≤ 1000000 ∧ ks.length ≤ 1000000 := by simp only [J.size] at hsz hbig; omega
    have hok' : (decide (t.size ≤ 9223372036854775807) && ks.all (fun k => decide (k.size ≤ 9223372036854775807)) && okBs is) = true := hok
    rw [Bool.and_eq_true, Bool.and_eq_true] at hok'
    obtain ⟨⟨ht, hks⟩, his⟩ := hok'
    have ht := of_decide_eq_true ht
    have hks : ∀ s, s ∈ ks → s.size ≤ 9223372036854775807 := fun s hs => of_decide_eq_true (List.all_eq_true.1 hks s hs)
    have ih := fun (x : J) (hx : x ∈ is) k n t KX IX (hJ : JRow x k n t KX IX) c hc => rlook_ac hst hV sz x k n t KX IX (by have := size_mem hx; omega) (by have := size_mem hx; omega) (okBs_mem his hx) hJ c hc
    have hL : lookJ (.mk k n t ks is) = if k < 1 ∨ 6 < k then 9 else if usedOK k n t ks.length is.length = false then 2 else if validB t = false ∨ ks.all validB = false then 6 else if twiceB ks = true then 8 else looks is := rfl
    refine acalls_fn hst mixed tau_ok Tryz.func69 (by kernel_rfl) (by kernel_rfl) (by kernel_rfl) ?_
    intro Q hQ
    cbv
    intro b1 h1
    cbv
    cases b1
    rotate_left
    · cbv
      refine litI ?_
      rw [hc.out, hL, if_pos (.inl h1.yes)]
    cbv
    intro b2 h2
    cbv
    cases b2
    rotate_left
    · cbv
      refine litI ?_
      rw [hc.out, hL, if_pos (.inr h2.yes)]
    have hk : ¬ (k < 1 ∨ 6 < k) := fun q => q.elim h1.no h2.no
    have hL2 := hL.trans (if_neg hk)
    cbv
    obtain ⟨u, hu⟩ : ∃ u, Is u (fun _ => usedOK k n t KX.length IX.length) := ⟨_, ⟨rfl⟩⟩
    refine Or.inl ⟨_, _, hQ _ _ _ _ (rshaped_ac hst k n t KX IX (by omega) u hu), ?_⟩
    cbv
    intro b3 h3
    cbv
    have hue : u = usedOK k n t ks.length is.length := by rw [hu.out, hKl, hIl]
    cases b3
    rotate_left
    · cbv
      refine litI ?_
      have e : u = false := Is.notT h3
      rw [hc.out, hL2, if_pos (by rw [← hue]; exact e)]
    have hu2 : ¬ usedOK k n t ks.length is.length = false := by
      have e : u = true := Is.notF h3
      rw [← hue, e]
      exact fun q => by cases q
    have hL3 := hL2.trans (if_neg hu2)
    cbv
    obtain ⟨v1, hv1⟩ : ∃ v, Is v (fun _ => validB t) := ⟨_, ⟨rfl⟩⟩
    have hVt : ACalls G Tryz.prog 72 [.lit (.string t)] (.lit (.bool v1)) none := by rw [hv1.out]; exact hV t ht
    refine Or.inl ⟨_, _, hQ _ _ _ _ hVt, ?_⟩
    clear hVt
    cbv
    intro b4 h4
    cbv
    cases b4
    rotate_left
    · cbv
      refine litI ?_
      have e : validB t = false := hv1.out.symm.trans (Is.notT h4)
      rw [hc.out, hL3, if_pos (.inl e)]
    have hvt : Is (validB t) (fun _ => true) := ⟨hv1.out.symm.trans (Is.notF h4)⟩
    cbv
    refine Or.inr ⟨[1], [200001], Int, fun i => [(.t 3, ⟨.pv (.lit (.int .i64 i)), none, none⟩)], NoneYet (fun s => !validB s) ks, fun i => KX.length - i.toNat, 0, NoneYet.zero, ?_, ?_⟩
    · cbv
      simp
    intro i hi
    have hi : NoneYet (fun s => !validB s) ks i := hi
    cbv
    intro m1 g1
    cbv
    intro b5 h5
    cbv
    cases b5
    rotate_left
    · cbv
      refine ⟨g1.atL hi.lo h5.yes, ?_⟩
      intro r hr
      obtain ⟨s, hs, rfl⟩ := hr.row hK
      cbv
      obtain ⟨v2, hv2⟩ : ∃ v, Is v (fun _ => validB s) := ⟨_, ⟨rfl⟩⟩
      have hVs : ACalls G Tryz.prog 72 [.lit (.string s)] (.lit (.bool v2)) none := by rw [hv2.out]; exact hV s (hks s (List.mem_of_getElem? hs))
      refine Or.inl ⟨_, _, hQ _ _ _ _ hVs, ?_⟩
      clear hVs
      cbv
      intro b6 h6
      cbv
      cases b6
      · cbv
        intro i' hi'
        cbv
        have e1 := g1.len
        have e2 := h5.yes
        have e3 := hi.lo
        have e4 := hi'.add1 (by omega) (by omega)
        refine ⟨i', ?_, ?_, ?_⟩
        · rw [e4]
          exact hi.next hs (by have e : validB s = true := hv2.out.symm.trans (Is.notF h6); rw [e]; rfl)
        · show KX.length - i'.toNat < KX.length - i.toNat
          omega
        · cbv
          simp
      · cbv
        refine litI ?_
        have e : validB s = false := hv2.out.symm.trans (Is.notT h6)
        have e2 : ks.all validB = false := List.all_eq_false.2 ⟨s, List.mem_of_getElem? hs, by rw [e]; exact fun q => by cases q⟩
        rw [hc.out, hL3, if_pos (.inr e2)]
    have hall : ks.all validB = true := by
      have e1 := g1.len
      have e2 := h5.no
      rw [List.all_eq_true]
      intro s hs
      obtain ⟨j, hj, rfl⟩ := List.mem_iff_getElem.1 hs
      have := hi.all j _ (by omega) (List.getElem?_eq_getElem hj)
      simpa using this
    have hL4 : lookJ (.mk k n t ks is) = if twiceB ks = true then 8 else looks is := by rw [hL3, if_neg (fun q => by rw [hvt.out, hall] at q; rcases q with q | q <;> first | exact Bool.noConfusion q | cases q)]
    clear hi g1 h5
    cbv
    refine Or.inr ⟨[1], [200001], Int, fun i => [(.t 4, ⟨.pv (.lit (.int .i64 i)), none, none⟩)], NodAt ks, fun i => KX.length - i.toNat, 0, (show NodAt ks 0 from ⟨by omega, by omega, by simp⟩), ?_, ?_⟩
    · cbv
      simp
    intro i2 hi
    have hi : NodAt ks i2 := hi
    cbv
    intro m1 g1
    cbv
    intro b5 h5
    cbv
    cases b5
    rotate_left
    · have hq : 0 ≤ i2 ∧ i2 ≤ (KX.length : Int) ∧ ∀ r, r ∈ KX → r.length = 1 := ⟨hi.lo, by have := hi.hi; omega, hK ▸ lenS ks⟩
      cbv
      refine ⟨⟨hq⟩, ?_⟩
      intro Y hY
      have hYe : (ks.take i2.toNat).map encS = Y := by rw [hY.out, ← hK, List.map_take]
      cbv
      refine ⟨g1.atL hi.lo h5.yes, ?_⟩
      intro r hr
      obtain ⟨s, hs, rfl⟩ := hr.row hK
      cbv
      obtain ⟨b6, h6⟩ : ∃ b, Is b (fun _ => hasB (ks.take i2.toNat) s) := ⟨_, ⟨rfl⟩⟩
      refine Or.inl ⟨_, _, hQ _ _ _ _ (rhas_ac hst (ks.take i2.toNat) Y hYe (by rw [List.length_take]; omega) s b6 h6), ?_⟩
      cbv
      cases b6
      · cbv
        intro i' hi'
        cbv
        have e1 := g1.len
        have e2 := h5.yes
        have e3 := hi.lo
        have e4 := hi'.add1 (by omega) (by omega)
        refine ⟨i', ?_, ?_, ?_⟩
        · rw [e4]
          exact hi.next hs (fun q => by have := h6.out; rw [(hasB_iff _ _).2 q] at this; cases this)
        · show KX.length - i'.toNat < KX.length - i2.toNat
          omega
        · cbv
          simp
      · cbv
        refine litI ?_
        rw [hc.out, hL4, if_pos (twice_at hs ((hasB_iff _ _).1 h6.out.symm))]
    have hL5 : lookJ (.mk k n t ks is) = looks is := by
      have e1 := g1.len
      have e2 := h5.no
      have := hi.all
      rw [List.take_of_length_le (by omega)] at this
      rw [hL4, if_neg (by rw [(twice_nod ks).2 this]; simp)]
    clear hi g1 h5
    cbv
    refine Or.inr ⟨[1], [200001], Int, fun i => [(.t 5, ⟨.pv (.lit (.int .i64 i)), none, none⟩)], NoErrR is, fun i => IX.length - i.toNat, 0, (show NoErrR is 0 from ⟨by omega, by omega, by simp⟩), ?_, ?_⟩
    · cbv
      simp
    intro i3 hi
    have hi : NoErrR is i3 := hi
    cbv
    intro m1 g1
    cbv
    intro b5 h5
    cbv
    cases b5
    rotate_left
    · cbv
      refine ⟨g1.atL hi.lo h5.yes, ?_⟩
      intro r hr
      obtain ⟨x, hx, rfl⟩ := hr.row hI
      obtain ⟨k', n', t', KX', IX', hJ', he'⟩ := JRow.of x
      rw [he']
      cbv
      obtain ⟨c', hc'⟩ : ∃ c', Is c' (fun _ => lookJ x) := ⟨_, ⟨rfl⟩⟩
      refine Or.inl ⟨_, _, hQ _ _ _ _ (ih x (List.mem_of_getElem? hx) k' n' t' KX' IX' hJ' c' hc'), ?_⟩
      cbv
      intro b6 h6
      cbv
      have hst2 := hi.step hx
      rw [← hc'.out] at hst2
      cases b6
      · cbv
        intro i' hi'
        cbv
        have e1 := g1.len
        have e2 := h5.yes
        have e4 := hi'.add1 (by have := hi.lo; omega) (by omega)
        refine ⟨i', ⟨by have := hi.lo; omega, by omega, ?_⟩, ?_, ?_⟩
        · rw [hst2, if_pos (Decidable.not_not.1 h6.no), show i'.toNat = i3.toNat + 1 by have := hi.lo; omega]
        · show IX.length - i'.toNat < IX.length - i3.toNat
          have := hi.lo
          omega
        · cbv
          simp
      · cbv
        refine litI ?_
        rw [hc.out, hL5, hst2, if_neg h6.yes]
    cbv
    refine litI ?_
    have e1 := g1.len
    have e2 := h5.no
    rw [hc.out, hL5, hi.all, List.drop_of_length_le (by omega)]
    rfl
/-- The contract of outlawref02.Check. -/
def RCheckC (G : World → Prop) : Prop := ∀ (x : J) (k n : Int) (t : ByteArray) (KX IX : List (List PV)), x.size ≤ 1000000 → okB x = true → JRow x k n t KX IX → ∀ (c : Int), Is c (fun _ => checkJ x) →
    ACalls G Tryz.prog 56 [jp k n t KX IX] (.lit (.int .i64 c)) none
set_option maxRecDepth 100000 in
set_option maxHeartbeats 4000000 in
theorem rcheckC {G : World → Prop} (hst : Stable G) (hV : RValidC G) : RCheckC G := by
  intro x k n t KX IX hbig hok hJ c hc
  refine acalls_fn hst mixed tau_ok Tryz.func56 (by kernel_rfl) (by kernel_rfl) (by kernel_rfl) ?_
  intro Q hQ
  cbv
  obtain ⟨d, hd⟩ : ∃ d, Is d (fun _ => (x.depth : Int)) := ⟨_, ⟨rfl⟩⟩
  refine Or.inl ⟨_, _, hQ _ _ _ _ (rdepth_ac hst x.size x k n t KX IX (Nat.le_refl _) hbig hJ d hd), ?_⟩
  cbv
  intro b1 h1
  cbv
  cases b1
  · cbv
    obtain ⟨e, he⟩ : ∃ e, Is e (fun _ => (x.count : Int)) := ⟨_, ⟨rfl⟩⟩
    refine Or.inl ⟨_, _, hQ _ _ _ _ (rcount_ac hst x.size x k n t KX IX (Nat.le_refl _) hbig hJ e he), ?_⟩
    cbv
    intro b2 h2
    cbv
    have hc1 : checkJ x = if (400 : Int) < x.count then 4 else lookJ x := by
      have e1 := hd.len
      have e2 := h1.no
      unfold checkJ
      rw [if_neg (by omega)]
    cases b2
    · have hc2 : checkJ x = lookJ x := by
        have e1 := he.len
        have e2 := h2.no
        rw [hc1, if_neg (by omega)]
      have hcl : Is c (fun _ => lookJ x) := ⟨by rw [hc.out, hc2]⟩
      cbv
      refine Or.inl ⟨_, _, hQ _ _ _ _ (rlook_ac hst hV x.size x k n t KX IX (Nat.le_refl _) hbig hok hJ c hcl), ?_⟩
      cbv
      try exact ⟨rfl, trivial⟩
    · cbv
      refine litI ?_
      have e1 := he.len
      have e2 := h2.yes
      rw [hc.out, hc1]
      exact (if_pos (show (400 : Int) < (x.count : Int) by omega)).symm
  · cbv
    refine litI ?_
    have e1 := hd.len
    have e2 := h1.yes
    rw [hc.out]
    unfold checkJ
    rw [if_pos (by omega)]
end Go.Proofs.YtbjfmkmaghapgaaGreatDoor.B
