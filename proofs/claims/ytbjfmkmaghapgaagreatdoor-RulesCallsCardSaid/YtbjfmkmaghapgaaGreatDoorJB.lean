/-
The reference of chapter 3, walked: Canon of an object whose items hold nothing. Condition: none.
The reference of chapter 3, walked: Canon of an object whose items hold nothing, continued. Condition: none.
The reference of chapter 6, walked: word, put, entity, rule. Condition: the contract of the reference's Valid.
-/
import Derived.Test.YtbjfmkmaghapgaaGreatDoorJA
set_option linter.unusedVariables false
set_option linter.unusedSimpArgs false
namespace Go.Proofs.YtbjfmkmaghapgaaGreatDoor.B
open Go.RowKit
set_option maxRecDepth 100000 in
set_option maxHeartbeats 2000000 in
theorem rfits_ac {G : World → Prop} (hst : Stable G) (k n : Int) (t : ByteArray) (KX IX : List (List PV)) (c : Bool) (hc : Is c (fun _ => decide (k = 6 ∧ KX.length = IX.length))) :
    ACalls G Tryz.prog 71 [jp k n t KX IX] (.lit (.bool c)) none := by
  refine acalls_fn hst mixed tau_ok Tryz.func71 (by kernel_rfl) (by kernel_rfl) (by kernel_rfl) ?_
  intro Q hQ
  cbv
  intro b1 h1
  cbv
  cases b1
  · cbv
    refine litB ?_
    have e1 := h1.no
    rw [hc.out]
    exact (decide_eq_false (fun q => e1 q.1)).symm
  · cbv
    intro m1 g1
    cbv
    intro m2 g2
    cbv
    intro b2 h2
    cbv
    refine litB ?_
    have e1 := h1.yes
    have e2 := g1.len
    have e3 := g2.len
    rw [hc.out, h2.out, decide_eq_decide]
    omega
set_option maxRecDepth 100000 in
set_option maxHeartbeats 4000000 in
theorem rcanon0_ac {G : World → Prop} (hst : Stable G) (k n : Int) (t : ByteArray) : ACalls G Tryz.prog 57 [jp k n t [] []] (jp k n t [] []) none := by
  refine acalls_fn hst mixed tau_ok Tryz.func57 (by kernel_rfl) (by kernel_rfl) (by kernel_rfl) ?_
  intro Q hQ
  cbv
  refine Or.inl ⟨_, _, hQ _ _ _ _ (rcopy_ac hst (J.mk k n t [] []).size (J.mk k n t [] []) k n t [] [] (Nat.le_refl _) (by simp [J.size, sizes]) ⟨[], [], rfl, rfl, rfl⟩), ?_⟩
  cbv
  refine Or.inl ⟨1, ?_⟩
  cbv
  intro m1 g1
  cbv
  intro b1 h1
  cbv
  have e : b1 = false := by cases b1 <;> first | rfl | (have e1 := g1.len; have e2 := h1.yes; simp at e1; omega)
  subst e
  cbv
  obtain ⟨c, hc⟩ : ∃ c, Is c (fun _ => decide (k = 6 ∧ ([] : List (List PV)).length = ([] : List (List PV)).length)) := ⟨_, ⟨rfl⟩⟩
  refine Or.inl ⟨_, _, hQ _ _ _ _ (rfits_ac hst k n t [] [] c hc), ?_⟩
  cbv
  intro b2 h2
  cbv
  cases b2
  · cbv
    refine Or.inl ⟨1, ?_⟩
    cbv
    intro m2 g2
    cbv
    intro b3 h3
    cbv
    have e : b3 = false := by cases b3 <;> first | rfl | (have e1 := g2.len; have e2 := h3.yes; simp at e1; omega)
    subst e
    cbv
    try exact ⟨rfl, trivial⟩
  · cbv
    try exact ⟨rfl, trivial⟩
/-! ### insertion by keys -/
def lessB (a b : ByteArray) : Bool := Op.bytesLess a.toList b.toList
/-- The place behind the last that is not greater, from the back. -/
def posR (s : ByteArray) : List ByteArray → Nat
  | [] => 0
  | y :: r => if lessB s y = true then posR s r else r.length + 1
def posK (s : ByteArray) (l : List ByteArray) : Nat := posR s l.reverse
def insAt {α : Type} (k : Nat) (x : α) (l : List α) : List α := l.take k ++ x :: l.drop k
def insKI {α : Type} (acc : List ByteArray × List α) (p : ByteArray × α) : List ByteArray × List α := (insAt (posK p.1 acc.1) p.1 acc.1, insAt (posK p.1 acc.1) p.2 acc.2)
def sortKI {α : Type} (l : List (ByteArray × α)) : List ByteArray × List α := l.foldl insKI ([], [])
theorem posR_le (s : ByteArray) : ∀ (l : List ByteArray), posR s l ≤ l.length
  | [] => Nat.le_refl _
  | y :: r => by
    unfold posR
    split
    · have := posR_le s r; simp; omega
    · simp
theorem posK_le (s : ByteArray) (l : List ByteArray) : posK s l ≤ l.length := by have := posR_le s l.reverse; simpa [posK] using this
/-- The search has come down to k. -/
structure PosAt (s : ByteArray) (l : List ByteArray) (k : Int) : Prop where
  lo : 0 ≤ k
  hi : k ≤ l.length
  out : posK s l = posK s (l.take k.toNat)
theorem PosAt.init (s : ByteArray) (l : List ByteArray) {k : Int} (h : k = l.length) : PosAt s l k := ⟨by omega, by omega, by rw [h, Int.toNat_natCast, List.take_length]⟩
theorem PosAt.step {s : ByteArray} {l : List ByteArray} {k : Int} (h : PosAt s l k) (h0 : 0 < k) {y : ByteArray} (hy : l[(k - 1).toNat]? = some y) :
    if lessB s y = true then PosAt s l (k - 1) else posK s l = k.toNat := by
  obtain ⟨hlt, e⟩ := List.getElem?_eq_some_iff.1 hy
  have ht : l.take k.toNat = l.take (k - 1).toNat ++ [y] := by
    rw [show k.toNat = (k - 1).toNat + 1 by omega, List.take_add_one, hy]; rfl
  have hr : posK s (l.take k.toNat) = if lessB s y = true then posK s (l.take (k - 1).toNat) else k.toNat := by
    unfold posK
    rw [ht, List.reverse_append]
    show posR s (y :: (l.take (k - 1).toNat).reverse) = _
    unfold posR
    have := h.hi
    split
    · cases hq : (l.take (k - 1).toNat).reverse <;> rfl
    · rw [List.length_reverse, List.length_take]; omega
  split
  · rename_i hl; exact ⟨by omega, by have := h.hi; omega, by rw [h.out, hr, if_pos hl]⟩
  · rename_i hl; rw [h.out, hr, if_neg hl]
theorem PosAt.zero {s : ByteArray} {l : List ByteArray} {k : Int} (h : PosAt s l k) (h0 : ¬ 0 < k) : posK s l = k.toNat := by
  have := h.lo
  obtain rfl : k = 0 := by omega
  rw [h.out]
  rfl
/-- So far sorted. -/
structure SrtAt (ks : List ByteArray) (IX : List (List PV)) (i : Int) (Ks : List ByteArray) (Is : List (List PV)) : Prop where
  lo : 0 ≤ i
  hi : i ≤ ks.length
  out : (Ks, Is) = sortKI ((ks.zip IX).take i.toNat)
theorem SrtAt.zero (ks : List ByteArray) (IX : List (List PV)) : SrtAt ks IX 0 [] [] := ⟨by omega, by omega, rfl⟩
theorem SrtAt.next {ks : List ByteArray} {IX : List (List PV)} {i : Int} {Ks : List ByteArray} {Is : List (List PV)} (h : SrtAt ks IX i Ks Is) {s : ByteArray} {r : List PV} (hs : ks[i.toNat]? = some s) (hr : IX[i.toNat]? = some r) {k : Nat} (hk : posK s Ks = k) :
    SrtAt ks IX (i + 1) (insAt k s Ks) (insAt k r Is) := by
  have h0 := h.lo
  have hlt := (List.getElem?_eq_some_iff.1 hs).1
  refine ⟨by omega, by omega, ?_⟩
  have hz : (ks.zip IX)[i.toNat]? = some (s, r) := by rw [List.zip_eq_zipWith, List.getElem?_zipWith, hs, hr]
  rw [show (i + 1).toNat = i.toNat + 1 by omega, List.take_add_one, hz]
  unfold sortKI
  show _ = ((ks.zip IX).take i.toNat ++ [(s, r)]).foldl insKI ([], [])
  rw [List.foldl_append]
  have ho : (Ks, Is) = ((ks.zip IX).take i.toNat).foldl insKI ([], []) := h.out
  rw [← ho]
  show _ = insKI (Ks, Is) (s, r)
  unfold insKI
  simp only [hk]
theorem sortKI_len {α : Type} : ∀ (l : List (ByteArray × α)) (acc : List ByteArray × List α), acc.1.length = acc.2.length → (l.foldl insKI acc).1.length = acc.1.length + l.length ∧ (l.foldl insKI acc).2.length = acc.1.length + l.length
  | [], acc, h => by simp [h]
  | p :: l, acc, h => by
    have hp := posK_le p.1 acc.1
    have h1 : (insKI acc p).1.length = acc.1.length + 1 := by simp [insKI, insAt]; omega
    have h2 : (insKI acc p).2.length = acc.1.length + 1 := by simp [insKI, insAt]; omega
    have := sortKI_len l (insKI acc p) (by rw [h1, h2])
    rw [List.foldl_cons, this.1, this.2, h1, List.length_cons]
    omega
theorem insAt_all {α : Type} {p : α → Prop} {k : Nat} {x : α} {l : List α} (hl : ∀ y, y ∈ l → p y) (hx : p x) : ∀ y, y ∈ insAt k x l → p y := by
  intro y hy
  rcases List.mem_append.1 hy with h | h
  · exact hl y (List.mem_of_mem_take h)
  · rcases List.mem_cons.1 h with rfl | h
    · exact hx
    · exact hl y (List.mem_of_mem_drop h)
theorem sortKI_all {α : Type} {p : α → Prop} : ∀ (l : List (ByteArray × α)) (acc : List ByteArray × List α), (∀ y, y ∈ acc.2 → p y) → (∀ q, q ∈ l → p q.2) → ∀ y, y ∈ (l.foldl insKI acc).2 → p y
  | [], acc, h, _ => h
  | q :: l, acc, h, hl => sortKI_all l (insKI acc q) (insAt_all h (hl q (by simp))) (fun q hq => hl q (by simp [hq]))
theorem SrtAt.lens {ks : List ByteArray} {IX : List (List PV)} {i : Int} {Ks : List ByteArray} {Is : List (List PV)} (h : SrtAt ks IX i Ks Is) (hl : ks.length = IX.length) : (Ks.length : Int) = i ∧ (Is.length : Int) = i := by
  have h0 := h.lo
  have h1 := h.hi
  have := sortKI_len ((ks.zip IX).take i.toNat) ([], []) rfl
  have ho : (Ks, Is) = ((ks.zip IX).take i.toNat).foldl insKI ([], []) := h.out
  rw [← ho] at this
  simp at this
  omega
theorem SrtAt.rows {ks : List ByteArray} {IX : List (List PV)} {i : Int} {Ks : List ByteArray} {Is : List (List PV)} (h : SrtAt ks IX i Ks Is) (h5 : ∀ r, r ∈ IX → r.length = 5) : ∀ r, r ∈ Is → r.length = 5 := by
  have := sortKI_all (p := fun r : List PV => r.length = 5) ((ks.zip IX).take i.toNat) ([], []) (by simp) (fun q hq => h5 q.2 (List.of_mem_zip (List.mem_of_mem_take hq)).2)
  have ho : (Ks, Is) = ((ks.zip IX).take i.toNat).foldl insKI ([], []) := h.out
  rw [← ho] at this
  exact this
end Go.Proofs.YtbjfmkmaghapgaaGreatDoor.B

set_option linter.unusedVariables false
set_option linter.unusedSimpArgs false
namespace Go.Proofs.YtbjfmkmaghapgaaGreatDoor.B
open Go.RowKit
def leafJ (j : J) : Prop := ∃ k n t, j = .mk k n t [] []
theorem flatKeys (ks : List ByteArray) : Flat (ks.map encS) := by
  intro r hr p hp
  obtain ⟨s, _, rfl⟩ := List.mem_map.1 hr
  simp [encS] at hp
  subst hp
  rfl
theorem flatLeaf {is : List J} (h : ∀ j, j ∈ is → leafJ j) : Flat (is.map encJ) := by
  intro r hr p hp
  obtain ⟨j, hj, rfl⟩ := List.mem_map.1 hr
  obtain ⟨k, n, t, rfl⟩ := h j hj
  simp [encJ, encJs] at hp
  rcases hp with rfl | rfl | rfl | rfl | rfl <;> rfl
structure Ix (n : Nat) (k : Int) : Prop where
  lo : 0 ≤ k
  hi : k ≤ n
set_option maxRecDepth 100000 in
set_option maxHeartbeats 16000000 in
theorem rcanon1_ac {G : World → Prop} (hst : Stable G) (n : Int) (t : ByteArray) (ks : List ByteArray) (is : List J) (KX IX : List (List PV)) (hK : ks.map encS = KX) (hI : is.map encJ = IX) (hleaf : ∀ j, j ∈ is → leafJ j)
    (hl : ks.length = is.length) (hbig : (J.mk 6 n t ks is).size ≤ 1000000) (hne : is ≠ []) (KY IY : List (List PV)) (hKY : Is KY (fun _ => (sortKI (ks.zip IX)).1.map encS)) (hIY : Is IY (fun _ => (sortKI (ks.zip IX)).2)) :
    ACalls G Tryz.prog 57 [jp 6 n t KX IX] (jp 6 n t KY IY) none := by
  have hIl : IX.length = is.length := by rw [← hI]; simp
  have hKl : KX.length = ks.length := by rw [← hK]; simp
  have hlen := sizes_len is
  have hs1 : is.length ≤ 1000000 := by simp only [J.size] at hbig; omega
  have hIne : IX ≠ [] := fun e => hne (by rw [e] at hIl; exact List.eq_nil_of_length_eq_zero (by simpa using hIl.symm))
  have h5 : ∀ r, r ∈ IX → r.length = 5 := hI ▸ lenJ is
  obtain ⟨m, hm⟩ : ∃ m, Is m (fun _ => IX.length) := ⟨_, ⟨rfl⟩⟩
  have hcopy : HCalls G Tryz.prog 70 [.pv (jp 6 n t KX IX)] [] (.aggf [.pv (.lit (.int .i64 6)), .pv (.lit (.int .i64 n)), .pv (.lit (.string t)), .pv (.sl KX), .slp 20000 5 0 m]) none [(20000, [.rows 5 IX])] := by
    rw [hm.out]
    exact HCalls.thawJ (rcopy_ac hst (J.mk 6 n t ks is).size (J.mk 6 n t ks is) 6 n t KX IX (Nat.le_refl _) hbig ⟨ks, is, rfl, hK, hI⟩) h5 (hI ▸ flatLeaf hleaf) (hK ▸ flatKeys ks) hIne
  refine acalls_fnH hst mixed tau_ok Tryz.func57 (by kernel_rfl) (by kernel_rfl) (by kernel_rfl) ?_
  intro Q hQ hH
  cbv
  refine Or.inr (Or.inl ⟨⟨[.pv (jp 6 n t KX IX)], [], .aggf [.pv (.lit (.int .i64 6)), .pv (.lit (.int .i64 n)), .pv (.lit (.string t)), .pv (.sl KX), .slp 20000 5 0 m], none, [(20000, [.rows 5 IX])], [(20000, 20009)]⟩, hH _ _ _ _ _ _ hcopy, ?_⟩)
  clear hcopy
  cbv
  refine ⟨⟨⟨Or.inr (Or.inl rfl), trivial⟩⟩, ?_⟩
  refine Or.inr ⟨[1, 2, 3], [200001, 200002, 200003, 20009], Int, fun i => [(.t 4, ⟨.pv (.lit (.int .i64 i)), none, none⟩)], Ix m, fun i => m - i.toNat, 0, (show Ix m 0 from ⟨by omega, by omega⟩), ?_, ?_⟩
  · cbv
    simp
  intro i hi
  have hi : Ix m i := hi
  cbv
  intro m1 g1
  cbv
  intro b1 h1
  cbv
  cases b1
  rotate_left
  · have hq : 0 ≤ i ∧ i < (m : Int) := ⟨hi.lo, by have := g1.len; have := h1.yes; omega⟩
    cbv
    refine ⟨⟨hq⟩, ?_⟩
    intro r1 hr1
    have hr1i : r1 < IX.length := by have := g1.len; have := h1.yes; have := hi.lo; have := hr1.out; have := hm.out; omega
    cbv
    refine ⟨natAt' hr1i, ?_⟩
    intro row hrow
    obtain ⟨x, hx, rfl⟩ := hrow.rowN hI
    obtain ⟨k', n', t', rfl⟩ := hleaf x (List.mem_of_getElem? hx)
    have he : encJ (.mk k' n' t' [] []) = [.lit (.int .i64 k'), .lit (.int .i64 n'), .lit (.string t'), .sl [], .sl []] := by simp [encJ, encJs]
    rw [he]
    cbv
    refine Or.inl ⟨_, _, hQ _ _ _ _ (rcanon0_ac hst k' n' t'), ?_⟩
    cbv
    refine ⟨⟨hq⟩, ?_⟩
    intro r2 hr2
    have hr2i : r2 < IX.length := by have := g1.len; have := h1.yes; have := hi.lo; have := hr2.out; have := hm.out; omega
    have hrr : r2 = r1 := by rw [hr2.out, hr1.out]
    cbv
    refine ⟨natAt' hr2i, ?_⟩
    intro row2 hrow2
    obtain ⟨x2, hx2, rfl⟩ := hrow2.rowN hI
    obtain rfl : x2 = .mk k' n' t' [] [] := by rw [hrr, hx] at hx2; cases hx2; rfl
    rw [he]
    cbv
    intro Y hY
    have hYe : Y = IX := by
      rw [hY.out]
      have hix : IX[r2]? = some [.lit (.int .i64 k'), .lit (.int .i64 n'), .lit (.string t'), .sl [], .sl []] := by rw [← hI, List.getElem?_map, hx2, ← he]; rfl
      obtain ⟨h0, e0⟩ := List.getElem?_eq_some_iff.1 hix
      refine List.ext_getElem? (fun j => ?_)
      rw [List.getElem?_set]
      by_cases ej : r2 = j
      · subst ej
        rw [if_pos rfl, if_pos h0, hix]
        rfl
      · rw [if_neg ej]
    subst hYe
    cbv
    intro i' hi'
    cbv
    have e1 := g1.len
    have e2 := h1.yes
    have e3 := hi.lo
    have e5 := hm.out
    have e4 := hi'.add1 (by omega) (by omega)
    refine ⟨i', ⟨by omega, by omega⟩, ?_, ?_⟩
    · show m - i'.toNat < m - i.toNat
      omega
    · cbv
      simp
  clear hi g1 h1
  cbv
  have hfit : Is true (fun _ => decide ((6 : Int) = 6 ∧ KX.length = IX.length)) := ⟨by rw [decide_eq_true (show (6 : Int) = 6 ∧ KX.length = IX.length from ⟨rfl, by omega⟩)]⟩
  refine Or.inl ⟨_, _, hQ _ _ _ _ (rfits_ac hst 6 n t KX IX true hfit), ?_⟩
  clear hfit
  cbv
  intro b2 h2
  have eb : b2 = false := h2.out
  subst eb
  cbv
  refine Or.inr ⟨[1, 2, 3, 5], [200001, 200002, 200003, 200005, 20009], Int × List ByteArray × List (List PV) × List (List PV), fun p => [(.t 6, ⟨.pv (.lit (.int .i64 p.1)), none, none⟩), (.b 200005 3, ⟨.pv (.sl p.2.2.1), some (9, 1), none⟩), (.b 200005 4, ⟨.pv (.sl p.2.2.2), some (42, 5), none⟩)],
    fun p => SrtAt ks IX p.1 p.2.1 p.2.2.2 ∧ p.2.1.map encS = p.2.2.1, fun p => KX.length - p.1.toNat, (0, [], [], []), ⟨SrtAt.zero ks IX, rfl⟩, ?_, ?_⟩
  · cbv
    simp
  intro ⟨j, Ks, Kx, Is'⟩ hp
  have hp1 : SrtAt ks IX j Ks Is' := hp.1
  have hp2 : Ks.map encS = Kx := hp.2
  clear hp
  cbv
  intro m2 g2
  cbv
  intro b3 h3
  cbv
  cases b3
  · cbv
    have e1 := g2.len
    have e2 := h3.no
    have e3 := hp1.out
    rw [List.take_of_length_le (by rw [List.length_zip]; omega)] at e3
    have e4 : KY = Kx := by rw [hKY.out, ← hp2, ← e3]
    have e5 : IY = Is' := by rw [hIY.out, ← e3]
    subst e4
    subst e5
    exact ⟨rfl, trivial⟩
  · have hj0 := hp1.lo
    have hj1 := hp1.hi
    obtain ⟨hlk, hli⟩ := hp1.lens (by omega)
    obtain ⟨s0, hs0⟩ : ∃ s, ks[j.toNat]? = some s := ⟨_, List.getElem?_eq_getElem (by have := h3.yes; have := g2.len; omega)⟩
    cbv
    intro m3 g3
    cbv
    refine Or.inr ⟨[1, 2, 3, 5, 6], [200001, 200002, 200003, 200005, 20009], Int, fun k => [(.t 7, ⟨.pv (.lit (.int .i64 k)), none, none⟩)], fun k => PosAt (s0) Ks k, fun k => k.toNat, m3, PosAt.init _ _ (by rw [g3.len, ← hp2]; simp), ?_, ?_⟩
    · cbv
      simp
    intro k hk
    have hk : PosAt (s0) Ks k := hk
    cbv
    intro b4 h4
    cbv
    cases b4
    rotate_left
    all_goals cbv
    refine ⟨g2.atL hj0 h3.yes, ?_⟩
    intro r hr
    obtain ⟨s1, hs1', rfl⟩ := hr.row hK
    obtain rfl : s0 = s1 := by rw [hs0] at hs1'; cases hs1'; rfl
    cbv
    intro k1 hk1
    cbv
    have e1 := h4.yes
    have e2 := hk.hi
    have e7 := hp1.hi
    have e8 := (hp1.lens (by omega)).1
    have e3 := hk1.sub1 (by omega) (by omega)
    refine ⟨⟨by omega, by have : Kx.length = Ks.length := (by rw [← hp2]; simp); omega⟩, ?_⟩
    intro r2 hr2
    obtain ⟨y, hy, rfl⟩ := hr2.row hp2
    cbv
    intro b5 h5'
    cbv
    have hst' := hk.step (by omega) (y := y) (by rw [← e3]; exact hy)
    cases b5
    rotate_left
    · rw [if_pos (show lessB s0 y = true from h5'.out.symm)] at hst'
      cbv
      intro k2 hk2
      cbv
      have e2 := hk.hi
      have e7 := hp1.hi
      have e8 := (hp1.lens (by omega)).1
      have e4 := hk2.sub1 (by omega) (by omega)
      refine ⟨k2, ?_, ?_, ?_⟩
      · rw [e4]
        exact hst'
      · show k2.toNat < k.toNat
        omega
      · cbv
        simp
    have hpos : posK s0 Ks = k.toNat := hk.zero (fun q => by have := h4.no; omega)
    clear h4
    rotate_left
    have hpos : posK s0 Ks = k.toNat := by
      rw [if_neg (show ¬ lessB s0 y = true from fun q => by have := h5'.out; rw [show Op.bytesLess s0.toList y.toList = true from q] at this; cases this)] at hst'
      exact hst'
    clear hst' h5' hy hr2 e1 e2 e7 e8 e3 hk1 hs1' hr h4
    cbv
    all_goals
      have hk0 := hk.lo
      have e2 := hk.hi
      have e9 : Kx.length = Ks.length := by rw [← hp2]; simp
      have e8 := hp1.lens (by omega)
      have hk1s : ∀ r, r ∈ Kx → r.length = 1 := hp2 ▸ lenS Ks
      have hk5 := hp1.rows h5
      have hkx : k ≤ (Kx.length : Int) := by omega
      have e7 := hp1.hi
      have hkb : Kx.length ≤ 1000000 := by omega
      have hib : Is'.length ≤ 1000000 := by omega
      have hki : k ≤ (Is'.length : Int) := by omega
      refine ⟨⟨hk0, hkx, hk1s⟩, ?_⟩
      intro A1 hA1
      have hA1l : A1.length ≤ 1000000 := by rw [hA1.out]; simp; omega
      have hA1r : ∀ r, r ∈ A1 → r.length = 1 := by rw [hA1.out]; exact fun r hr => hk1s r (List.mem_of_mem_take hr)
      cbv
      refine ⟨⟨by simp; omega, by simp, hA1r⟩, ?_⟩
      intro A2 hA2
      have hA21 : A2 = A1 := by rw [hA2.out]; simp
      subst hA21
      cbv
      refine ⟨g2.atL hj0 h3.yes, ?_⟩
      intro r hr
      obtain ⟨s1, hs1', rfl⟩ := hr.row hK
      obtain rfl : s0 = s1 := by rw [hs0] at hs1'; cases hs1'; rfl
      cbv
      refine ⟨⟨by simp; omega, hA1r, by simp⟩, ?_⟩
      intro A3 hA3
      have hA3l : A3.length ≤ 1000001 := by rw [hA3.out]; simp; omega
      have hA3r : ∀ r, r ∈ A3 → r.length = 1 := by
        rw [hA3.out]; intro r hr
        rcases List.mem_append.1 hr with h | h
        · exact hA1r r h
        · simp at h; subst h; rfl
      cbv
      refine ⟨⟨hk0, hkx, hk1s⟩, ?_⟩
      intro A4 hA4
      have hA4l : A4.length ≤ 1000000 := by rw [hA4.out]; simp; omega
      have hA4r : ∀ r, r ∈ A4 → r.length = 1 := by rw [hA4.out]; exact fun r hr => hk1s r (List.mem_of_mem_drop hr)
      cbv
      refine ⟨⟨by omega, hA3r, hA4r⟩, ?_⟩
      intro A5 hA5
      cbv
      have hli := (hp1.lens (by omega)).2
      refine ⟨⟨hk0, hki, hk5⟩, ?_⟩
      intro B1 hB1
      have hB1l : B1.length ≤ 1000000 := by rw [hB1.out]; simp; omega
      have hB1r : ∀ r, r ∈ B1 → r.length = 5 := by rw [hB1.out]; exact fun r hr => hk5 r (List.mem_of_mem_take hr)
      cbv
      refine ⟨⟨by simp; omega, by simp, hB1r⟩, ?_⟩
      intro B2 hB2
      have hB21 : B2 = B1 := by rw [hB2.out]; simp
      subst hB21
      cbv
      have hjm : 0 ≤ j ∧ j < (m : Int) := ⟨hj0, by have := g2.len; have := h3.yes; have := hm.out; omega⟩
      refine ⟨⟨hjm⟩, ?_⟩
      intro r1 hr1
      have hr1i : r1 < IX.length := by have := g2.len; have := h3.yes; have := hr1.out; have := hm.out; omega
      have hr1j : r1 = j.toNat := by have := hr1.out; omega
      cbv
      refine ⟨natAt' hr1i, ?_⟩
      intro row hrow
      obtain ⟨x, hx, rfl⟩ := hrow.rowN hI
      obtain ⟨k', n', t', rfl⟩ := hleaf x (List.mem_of_getElem? hx)
      have he : encJ (.mk k' n' t' [] []) = [.lit (.int .i64 k'), .lit (.int .i64 n'), .lit (.string t'), .sl [], .sl []] := by simp [encJ, encJs]
      rw [he]
      cbv
      refine ⟨⟨by simp; omega, hB1r, by simp⟩, ?_⟩
      intro B3 hB3
      have hB3l : B3.length ≤ 1000001 := by rw [hB3.out]; simp; omega
      have hB3r : ∀ r, r ∈ B3 → r.length = 5 := by
        rw [hB3.out]; intro r hr
        rcases List.mem_append.1 hr with h | h
        · exact hB1r r h
        · simp at h; subst h; rfl
      cbv
      refine ⟨⟨hk0, hki, hk5⟩, ?_⟩
      intro B4 hB4
      have hB4l : B4.length ≤ 1000000 := by rw [hB4.out]; simp; omega
      have hB4r : ∀ r, r ∈ B4 → r.length = 5 := by rw [hB4.out]; exact fun r hr => hk5 r (List.mem_of_mem_drop hr)
      cbv
      refine ⟨⟨by omega, hB3r, hB4r⟩, ?_⟩
      intro B5 hB5
      cbv
      intro j2 hj2
      cbv
      have e6 := hj2.add1 (by omega) (by have := hp1.hi; omega)
      refine ⟨(j2, insAt k.toNat s0 Ks, A5, B5), ⟨?_, ?_⟩, ?_, ?_⟩
      · have hIr : IX[j.toNat]? = some (encJ (.mk k' n' t' [] [])) := by rw [← hr1j, ← hI, List.getElem?_map, hx]; rfl
        have hBe : B5 = insAt k.toNat (encJ (.mk k' n' t' [] [])) Is' := by rw [hB5.out, hB4.out, hB3.out, hB1.out, he]; simp [insAt]
        have := hp1.next hs0 hIr hpos
        rw [← hBe, ← e6] at this
        exact this
      · show (insAt k.toNat s0 Ks).map encS = A5
        rw [hA5.out, hA4.out, hA3.out, hA1.out, ← hp2]
        simp [insAt, encS, List.map_take, List.map_drop]
      · show KX.length - j2.toNat < KX.length - j.toNat
        have := g2.len
        have := h3.yes
        omega
      · cbv
        simp
end Go.Proofs.YtbjfmkmaghapgaaGreatDoor.B

set_option linter.unusedVariables false
set_option linter.unusedSimpArgs false
namespace Go.Proofs.YtbjfmkmaghapgaaGreatDoor.B
open Go.RowKit
set_option maxRecDepth 100000 in
set_option maxHeartbeats 2000000 in
theorem rword_ac {G : World → Prop} (hst : Stable G) (s : ByteArray) : ACalls G Tryz.prog 40 [.lit (.string s)] (jp 4 0 s [] []) none := by
  refine acalls_fn hst mixed tau_ok Tryz.func40 (by kernel_rfl) (by kernel_rfl) (by kernel_rfl) ?_
  intro Q hQ
  cbv
  try exact ⟨rfl, trivial⟩
set_option maxRecDepth 100000 in
set_option maxHeartbeats 2000000 in
theorem rput_oc {G : World → Prop} (k n : Int) (t : ByteArray) (KX IX : List (List PV)) (hK1 : ∀ r, r ∈ KX → r.length = 1) (hI5 : ∀ r, r ∈ IX → r.length = 5) (hKl : KX.length ≤ 1000000) (hIl : IX.length ≤ 1000000) (s : ByteArray) (k' n' : Int) (t' : ByteArray) (KY IY : List (List PV))
    (hKY : Is KY (fun _ => KX ++ [[.lit (.string s)]])) (hIY : Is IY (fun _ => IX ++ [[.lit (.int .i64 k'), .lit (.int .i64 n'), .lit (.string t'), .sl [], .sl []]])) :
    OCalls G Tryz.prog 39 [jp k n t KX IX, .lit (.string s), jp k' n' t' [] []] [some (codeJ, 0), none, none] (jp 6 n t KY IY) (some (codeJ, 0)) := by
  refine ocalls_fn mixed tau_ok Tryz.func39 (by kernel_rfl) (by kernel_rfl) (by kernel_rfl) ?_
  intro Q hQ hO
  cbv
  refine ⟨⟨by simp; omega, hK1, by simp⟩, ?_⟩
  intro A1 hA1
  cbv
  refine ⟨⟨by simp; omega, hI5, by simp⟩, ?_⟩
  intro A2 hA2
  cbv
  have e1 : KY = A1 := by rw [hKY.out, hA1.out]
  have e2 : IY = A2 := by rw [hIY.out, hA2.out]
  subst e1
  subst e2
  try exact ⟨rfl, Or.inr trivial⟩
set_option maxRecDepth 100000 in
set_option maxHeartbeats 4000000 in
theorem rentity_ac {G : World → Prop} (hst : Stable G) (hV : RValidC G) (s : ByteArray) (lo hi : Int) (c : Bool) (hc : Is c (fun _ => decide (lo ≤ s.size ∧ (s.size : Int) ≤ hi) && validB s)) (hhi : hi ≤ 1000000) :
    ACalls G Tryz.prog 58 [.lit (.string s), .lit (.int .i64 lo), .lit (.int .i64 hi)] (.lit (.bool c)) none := by
  refine acalls_fn hst mixed tau_ok Tryz.func58 (by kernel_rfl) (by kernel_rfl) (by kernel_rfl) ?_
  intro Q hQ
  cbv
  intro m1 h1
  cbv
  intro b1 h2
  cbv
  cases b1
  · cbv
    refine litB ?_
    have e1 := h1.out
    have e2 := h2.no
    rw [hc.out, decide_eq_false (fun q => e2 (by rw [e1]; exact q.1))]
    rfl
  · cbv
    intro m2 h3
    cbv
    intro b2 h4
    cbv
    cases b2
    · cbv
      refine litB ?_
      have e1 := h3.out
      have e2 := h4.no
      rw [hc.out, decide_eq_false (fun q => e2 (by rw [e1]; exact q.2))]
      rfl
    · cbv
      have hs : s.size ≤ 9223372036854775807 := by have e1 := h3.len; have e2 := h4.yes; omega
      refine Or.inl ⟨_, _, hQ _ _ _ _ (hV s hs), ?_⟩
      obtain ⟨v, hv⟩ : ∃ v, Is v (fun _ => validB s) := ⟨_, ⟨rfl⟩⟩
      rw [← hv.out]
      cbv
      refine litB ?_
      have e1 := h1.out
      have e2 := h2.yes
      have e3 := h3.out
      have e4 := h4.yes
      rw [hc.out, ← hv.out, decide_eq_true ⟨by rw [← e1]; exact e2, by rw [← e3]; exact e4⟩]
      rfl
set_option maxRecDepth 100000 in
set_option maxHeartbeats 4000000 in
theorem rrule_ac {G : World → Prop} (hst : Stable G) (hV : RValidC G) (r : RB) (c : Bool) (hc : Is c (fun _ => ruledB r)) :
    ACalls G Tryz.prog 42 [.agg (encRB r)] (.lit (.bool c)) none := by
  obtain ⟨e1, e2, e3⟩ := r
  refine acalls_fn hst mixed tau_ok Tryz.func42 (by kernel_rfl) (by kernel_rfl) (by kernel_rfl) ?_
  intro Q hQ
  cbv
  obtain ⟨c1, h1⟩ : ∃ c1, Is c1 (fun _ => decide ((1 : Int) ≤ e1.size ∧ (e1.size : Int) ≤ 255) && validB e1) := ⟨_, ⟨rfl⟩⟩
  refine Or.inl ⟨_, _, hQ _ _ _ _ (rentity_ac hst hV e1 1 255 c1 h1 (by omega)), ?_⟩
  cbv
  cases c1
  · cbv
    refine litB ?_
    rw [hc.out]
    unfold ruledB
    rw [← h1.out]
    rfl
  · cbv
    obtain ⟨c2, h2⟩ : ∃ c2, Is c2 (fun _ => decide ((1 : Int) ≤ e2.size ∧ (e2.size : Int) ≤ 128) && validB e2) := ⟨_, ⟨rfl⟩⟩
    refine Or.inl ⟨_, _, hQ _ _ _ _ (rentity_ac hst hV e2 1 128 c2 h2 (by omega)), ?_⟩
    cbv
    cases c2
    · cbv
      refine litB ?_
      rw [hc.out]
      unfold ruledB
      rw [← h1.out, ← h2.out]
      rfl
    · cbv
      obtain ⟨c3, h3⟩ : ∃ c3, Is c3 (fun _ => decide ((0 : Int) ≤ e3.size ∧ (e3.size : Int) ≤ 255) && validB e3) := ⟨_, ⟨rfl⟩⟩
      refine Or.inl ⟨_, _, hQ _ _ _ _ (rentity_ac hst hV e3 0 255 c3 h3 (by omega)), ?_⟩
      cbv
      refine litB ?_
      rw [hc.out]
      unfold ruledB
      rw [← h1.out, ← h2.out, ← h3.out]
      rfl
end Go.Proofs.YtbjfmkmaghapgaaGreatDoor.B
