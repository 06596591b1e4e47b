/-
The logic of pure values, continued: a list of one's own, as a list that may be written, and the other way. Condition: none.
-/
import Derived.Test.YtbjfmkmaghapgaaGreatDoorBLib
set_option linter.unusedVariables false
set_option linter.unusedSimpArgs false
namespace Go.Proofs.YtbjfmkmaghapgaaGreatDoor.B
open Go.RowKit
def pvL : List PV → List FV
  | [] => []
  | p :: r => .pv p :: pvL r
theorem pvL_at : ∀ {ps : List PV} {i : Nat}, (pvL ps)[i]? = (ps[i]?).map FV.pv
  | [], i => by simp [pvL]
  | p :: ps, 0 => by simp [pvL]
  | p :: ps, i + 1 => by simpa [pvL] using pvL_at
theorem pvL_len : ∀ {ps : List PV}, (pvL ps).length = ps.length
  | [] => rfl
  | p :: ps => by simp [pvL, pvL_len]
/-- Scalars, and lists without an element. -/
def flatP : PV → Bool
  | .lit v => v.oneCell'
  | .sl [] => true
  | _ => false
def Flat (xs : List (List PV)) : Prop := ∀ r, r ∈ xs → ∀ p, p ∈ r → flatP p = true
theorem flat_any {S S' : Nat → Nat → Prop} {w w' : World} {v : Value} {p : PV} (h : RepP S w v p) (hp : flatP p = true) : RepP S' w' v p := by
  cases p with
  | lit u => obtain ⟨rfl, h1⟩ := rep_lit h; exact .lit _ h1
  | sl xs =>
    cases xs with
    | cons r rs => cases hp
    | nil =>
      rcases rep_sl h with ⟨⟨A, e⟩, _⟩ | ⟨b, off, k, cap, e, _⟩
      · rw [e]; exact .nil' _
      · rw [e]
        exact .sl b off k cap [] (fun _ _ => undef) (Nat.zero_le _) (fun r hr => by simp at hr) (fun i j hi => absurd hi (by simp)) (fun i j hi => absurd hi (by simp)) (fun i j r x hr => by simp at hr)
  | _ => cases hp
/-- What a function returns in memory of its own may be written. -/
theorem HCalls.thaw {G : World → Prop} {P : Program} {f : FuncId} {args : List PV} {xs : List (List PV)} {e : TypeId} {k : Nat} (h : ACalls G P f args (.sl xs) (some (e, k))) (hk : ∀ r, r ∈ xs → r.length = k) (hkp : 0 < k) (hf : Flat xs) (hne : xs ≠ []) :
    HCalls G P f (pvL args) [] (.slp 20000 k 0 xs.length) none [(20000, [.rows k xs])] := by
  refine ⟨h.1, fun w S β vs hG hS _ hrep => ?_⟩
  have hr : RepL S w vs args := ⟨by rw [hrep.1, pvL_len], fun i v p hv hp => hrep.2 i v (.pv p) hv (by rw [pvL_at, hp]; rfl)⟩
  refine (h.2 w S vs (hG w (Kept.refl _ _)) hS hr).mono ?_
  rintro e' w' ⟨v, S', rfl, hb, _, s1, s2, s3, hv, hownR, hdn⟩
  obtain ⟨n, xsv, how, hob⟩ := (ownR_one (Nat.pos_iff_ne_zero.1 hkp)).1 hownR
  rcases rep_sl hv with ⟨_, q⟩ | ⟨b, off, k', cap, hx, hcap, hkk, hrows⟩
  · exact absurd q hne
  rcases how.2 with ⟨q, _⟩ | ⟨g, cap', cur, q, hg1, hg2, hcapn, _, hcs, htake⟩
  · rw [hx] at q; cases q
  rw [hx] at q
  cases q
  have hob1 : v.ownBlock = some b := by rw [hx]; rfl
  have hkeq : k' = k := by
    cases xs with
    | nil => exact absurd rfl hne
    | cons r rs => exact (hkk r (List.mem_cons_self ..)).symm.trans (hk r (List.mem_cons_self ..))
  subst hkeq
  refine ⟨v, fun q o => S' q o ∧ q ≠ b, fun _ => b, rfl, ⟨hb.os, hb.tape, hb.output, hb.size, fun q hq _ => hb.block q hq⟩, fun q o hs => ⟨s1 q o hs, fun e => by have := hS q o hs; omega⟩, fun q o hs => s2 q o hs.1, fun q o hs => s3 q o hs.1, fun i hi => by simp [idsOf] at hi, fun i hi _ => hg1, ?_, ?_, trivial, fun b hb' => hb'.elim, hdn⟩
  · refine ⟨fun i hi => ⟨(how.lt b hob1).2, fun o hs => hs.2 rfl⟩, fun i j hi hj _ => by simp [idsOf] at hi hj; rw [hi, hj], fun i ys hm o x hx' hne' => ?_⟩
    simp at hm
    obtain ⟨rfl, rfl⟩ := hm
    cases o with
    | succ o => simp at hx'
    | zero =>
      simp at hx'
      subst hx'
      refine ⟨rfl, rfl, ⟨hk, fun i j r x hr' hxj => ?_⟩, fun q => ?_⟩
      · obtain ⟨_, c, c1, c2, c3⟩ := hrows i r hr' j x hxj
        rw [Nat.zero_add] at c1
        exact ⟨c, c1, flat_any c2 (hf r (List.mem_of_getElem? hr') x (List.mem_of_getElem? hxj)), c3⟩
      · simp [World.frozen?, hg2]
  · exact ⟨cap, 0, hcap, hx, .inr (by simp)⟩
/-- What a function returns that may be written need not be. -/
theorem ACalls.freeze {G : World → Prop} (hst : Stable G) {P : Program} {f : FuncId} {args : List PV} {xs : List (List PV)} {k n id : Nat} (h : HCalls G P f (pvL args) [] (.slp id k 0 n) none [(id, [.rows k xs])]) (hn : n ≤ xs.length) : ACalls G P f args (.sl (xs.take n)) none := by
  refine ⟨h.1, fun w S vs hG hS hrep => ?_⟩
  refine (h.2 w S (fun _ => 0) vs (fun w' hk => hst w w' hG (hk.below (fun b ⟨i, hi, _⟩ => by simp [idsOf] at hi))) hS ⟨fun i hi => by simp [idsOf] at hi, fun i j hi => by simp [idsOf] at hi, fun i ys hm => by simp at hm⟩ ⟨by rw [hrep.1, pvL_len], fun i v x hv hx => ?_⟩).mono ?_
  · rw [pvL_at] at hx
    cases hq : args[i]? with
    | none => rw [hq] at hx; cases hx
    | some p => rw [hq] at hx; simp at hx; subst hx; exact hrep.2 i v p hv hq
  rintro e w' ⟨v, S', β', rfl, hk, s1, s2, s3, _, hb2, hpre, hrv, _, _, hdn⟩
  have hbel : Below w.heap.size w w' := hk.below (fun b ⟨i, hi, _⟩ => by simp [idsOf] at hi)
  have hge := hb2 id (by simp [idsOf]) (by simp [idsOf])
  have hlt := (hpre.lt id (by simp [idsOf])).1
  obtain ⟨_, _, hra, _⟩ := hpre.holds id _ (List.mem_cons_self ..) 0 _ rfl (by simp)
  obtain ⟨cap, off, hcap, hx, hoff⟩ := hrv
  have hlen : (xs.take n).length = n := by rw [List.length_take]; omega
  have hsub : ∀ (i : Nat) r, (xs.take n)[i]? = some r → xs[i]? = some r ∧ i < n := fun i r hr => by
    rw [List.getElem?_take] at hr
    split at hr
    · exact ⟨hr, by assumption⟩
    · cases hr
  refine ⟨v, fun b o => S' b o ∨ (b = β' id ∧ o < n * k), rfl, hbel, hst w w' hG hbel, fun b o hs => .inl (s1 b o hs), fun b o hs => ?_, fun b o hs => ?_, ?_, trivial, hdn⟩
  · rcases hs with hs | ⟨rfl, _⟩
    · exact s2 b o hs
    · exact .inr hge
  · rcases hs with hs | ⟨rfl, _⟩
    · exact s3 b o hs
    · exact hlt
  · by_cases hn0 : n = 0
    · subst hn0
      rw [hx]
      exact .sl (β' id) off 0 cap (xs.take 0) (fun _ _ => undef) (by simp) (fun r hr => by simp at hr) (fun i j hi => absurd hi (by simp)) (fun i j hi => absurd hi (by simp)) (fun i j r x hr => by simp at hr)
    · have hoff : off = 0 * k := hoff.resolve_left hn0
      rw [Nat.zero_mul] at hoff
      subst hoff
      rw [hx]
      have hcell : ∀ i j, i < n → j < k → ∃ c x, w'.cell? ⟨β' id, i * k + j, none⟩ = some c ∧ c.oneCell' = true ∧ (∃ r, xs[i]? = some r ∧ r[j]? = some x ∧ RepP S' w' c x) := fun i j hi hj => by
        have hr := List.getElem?_eq_getElem (show i < xs.length by omega)
        have hj' : j < xs[i].length := by rw [hra.1 _ (List.getElem_mem _)]; exact hj
        obtain ⟨c, c1, c2, c3⟩ := hra.2 i j _ _ hr (List.getElem?_eq_getElem hj')
        exact ⟨c, _, c1, c3, _, hr, List.getElem?_eq_getElem hj', c2⟩
      have := RepP.sl (S := fun b o => S' b o ∨ (b = β' id ∧ o < n * k)) (w := w') (β' id) 0 k cap (xs.take n) (fun i j => (w'.cell? ⟨β' id, 0 + i * k + j, none⟩).getD undef) (by rw [hlen]; exact hcap) (fun r hr => hra.1 r (List.mem_of_mem_take hr)) (fun i j hi hj => by
        rw [hlen] at hi
        right
        refine ⟨rfl, ?_⟩
        have := Nat.mul_le_mul_right k (show i + 1 ≤ n by omega)
        rw [Nat.add_mul] at this
        omega) (fun i j hi hj => by
        rw [hlen] at hi
        obtain ⟨c, x, c1, c2, _⟩ := hcell i j hi hj
        rw [Nat.zero_add, c1]
        exact ⟨rfl, c2⟩) (fun i j r x hr hxj => by
        obtain ⟨hr1, hi⟩ := hsub i r hr
        have hj : j < k := by rw [← hra.1 r (List.mem_of_getElem? hr1)]; exact (List.getElem?_eq_some_iff.1 hxj).1
        obtain ⟨c, x', c1, c2, r', h1, h2, h3⟩ := hcell i j hi hj
        rw [hr1] at h1
        cases h1
        rw [hxj] at h2
        cases h2
        rw [Nat.zero_add, c1]
        exact h3.mono (fun _ _ h => .inl h) (fun _ _ _ => rfl))
      rwa [hlen] at this
/-- What a struct with lists that may be written is, if they are not written any more. -/
def rowsIn (hs : HS) (i : Nat) : Option (Nat × List (List PV)) :=
  match hs with
  | [] => none
  | (j, xs) :: r => if j = i then (match xs with
    | [.rows k ys] => some (k, ys)
    | _ => none) else rowsIn r i
theorem rowsIn_mem {i k : Nat} {ys : List (List PV)} : ∀ {hs : HS}, rowsIn hs i = some (k, ys) → (i, [FV.rows k ys]) ∈ hs
  | [], h => by cases h
  | (j, xs) :: r, h => by
    unfold rowsIn at h
    split at h
    · rename_i e
      subst e
      split at h
      · cases h; exact List.mem_cons_self ..
      · cases h
    · exact List.mem_cons_of_mem _ (rowsIn_mem h)
def frzC (hs : HS) : CV → Option PV
  | .pv p => some p
  | .slp i k lo n => match rowsIn hs i with
    | some (k', ys) => if k' = k ∧ lo = 0 ∧ n = ys.length then some (.sl ys) else none
    | none => none
  | _ => none
def frzL (hs : HS) : List CV → Option (List PV)
  | [] => some []
  | c :: r => match frzC hs c, frzL hs r with
    | some p, some ps => some (p :: ps)
    | _, _ => none
theorem slp_frz {β : Nat → Nat} {S S' : Nat → Nat → Prop} {w : World} {v : Value} {i k n : Nat} {xs : List (List PV)} (hra : RowsAt S w (β i) k xs) (hn : n = xs.length) (hv : ∃ cap off, n ≤ cap ∧ v = .slice (some ⟨β i, off, none⟩) n cap ∧ (n = 0 ∨ off = 0 * k))
    (hS : ∀ b o, S b o → S' b o) (hS2 : ∀ o, S' (β i) o) : RepP S' w v (.sl xs) := by
  obtain ⟨cap, off, hcap, hx, hoff⟩ := hv
  subst hn
  rw [hx]
  by_cases hn0 : xs.length = 0
  · have : xs = [] := List.eq_nil_of_length_eq_zero hn0
    subst this
    exact .sl (β i) off 0 cap [] (fun _ _ => undef) (by simp) (fun r hr => by simp at hr) (fun i j hi => absurd hi (by simp)) (fun i j hi => absurd hi (by simp)) (fun i j r x hr => by simp at hr)
  · have hoff : off = 0 * k := hoff.resolve_left hn0
    rw [Nat.zero_mul] at hoff
    subst hoff
    have hcell : ∀ q j, q < xs.length → j < k → ∃ c x, w.cell? ⟨β i, q * k + j, none⟩ = some c ∧ c.oneCell' = true ∧ (∃ r, xs[q]? = some r ∧ r[j]? = some x ∧ RepP S w c x) := fun q j hq hj => by
      have hr := List.getElem?_eq_getElem hq
      have hj' : j < xs[q].length := by rw [hra.1 _ (List.getElem_mem _)]; exact hj
      obtain ⟨c, c1, c2, c3⟩ := hra.2 q j _ _ hr (List.getElem?_eq_getElem hj')
      exact ⟨c, _, c1, c3, _, hr, List.getElem?_eq_getElem hj', c2⟩
    exact RepP.sl (S := S') (w := w) (β i) 0 k cap xs (fun q j => (w.cell? ⟨β i, 0 + q * k + j, none⟩).getD undef) hcap hra.1 (fun q j hq hj => hS2 _) (fun q j hq hj => by
      obtain ⟨c, x, c1, c2, _⟩ := hcell q j hq hj
      rw [Nat.zero_add, c1]
      exact ⟨rfl, c2⟩) (fun q j r x hr hxj => by
      have hq := (List.getElem?_eq_some_iff.1 hr).1
      have hj : j < k := by rw [← hra.1 r (List.mem_of_getElem? hr)]; exact (List.getElem?_eq_some_iff.1 hxj).1
      obtain ⟨c, x', c1, c2, r', h1, h2, h3⟩ := hcell q j hq hj
      rw [hr] at h1
      cases h1
      rw [hxj] at h2
      cases h2
      rw [Nat.zero_add, c1]
      exact h3.mono hS (fun _ _ _ => rfl))
/-- A struct that is returned with lists that may be written: they need not be. -/
theorem ACalls.freezeAgg {G : World → Prop} (hst : Stable G) {P : Program} {f : FuncId} {args : List PV} {cs : List CV} {ps : List PV} {hs' : HS} (h : HCalls G P f (pvL args) [] (.aggf cs) none hs') (hz : frzL hs' cs = some ps) : ACalls G P f args (.agg ps) none := by
  refine ⟨h.1, fun w S vs hG hS hrep => ?_⟩
  refine (h.2 w S (fun _ => 0) vs (fun w' hk => hst w w' hG (hk.below (fun b ⟨i, hi, _⟩ => by simp [idsOf] at hi))) hS ⟨fun i hi => by simp [idsOf] at hi, fun i j hi => by simp [idsOf] at hi, fun i ys hm => by simp at hm⟩ ⟨by rw [hrep.1, pvL_len], fun i v x hv hx => ?_⟩).mono ?_
  · rw [pvL_at] at hx
    cases hq : args[i]? with
    | none => rw [hq] at hx; cases hx
    | some p => rw [hq] at hx; simp at hx; subst hx; exact hrep.2 i v p hv hq
  rintro e w' ⟨v, S', β', rfl, hk, s1, s2, s3, _, hb2, hpre, hrv, _, _, hdn⟩
  have hbel : Below w.heap.size w w' := hk.below (fun b ⟨i, hi, _⟩ => by simp [idsOf] at hi)
  obtain ⟨us, hv, hrc, h1c⟩ := hrv
  refine ⟨v, fun b o => S' b o ∨ ∃ i, i ∈ idsOf hs' ∧ β' i = b, rfl, hbel, hst w w' hG hbel, fun b o hs => .inl (s1 b o hs), fun b o hs => ?_, fun b o hs => ?_, ?_, trivial, hdn⟩
  · rcases hs with hs | ⟨i, hi, rfl⟩
    · exact s2 b o hs
    · exact .inr (hb2 i hi (by simp [idsOf]))
  · rcases hs with hs | ⟨i, hi, rfl⟩
    · exact s3 b o hs
    · exact (hpre.lt i hi).1
  · have key : ∀ {us : List Value} {cs : List CV} {ps : List PV}, RepC β' S' w' us cs → frzL hs' cs = some ps → us.length = ps.length ∧ ∀ (j : Nat) u p, us[j]? = some u → ps[j]? = some p → RepP (fun b o => S' b o ∨ ∃ i, i ∈ idsOf hs' ∧ β' i = b) w' u p := by
      intro us
      induction us with
      | nil =>
        intro cs ps hc hz
        cases cs with
        | nil => cases hz; exact ⟨rfl, fun j u p hu => by simp at hu⟩
        | cons c r => exact hc.elim
      | cons u us ih =>
        intro cs ps hc hz
        cases cs with
        | nil => exact hc.elim
        | cons c r =>
          unfold frzL at hz
          split at hz
          · rename_i p qs hp hqs
            cases hz
            obtain ⟨l1, l2⟩ := ih hc.2 hqs
            refine ⟨by simp [l1], fun j u' p' hu hp' => ?_⟩
            cases j with
            | succ j => exact l2 j u' p' (by simpa using hu) (by simpa using hp')
            | zero =>
              simp at hu hp'
              subst hu
              subst hp'
              cases c with
              | pv q => cases hp; exact RepP.mono hc.1 (fun _ _ h => .inl h) (fun _ _ _ => rfl)
              | ptr i o => cases hp
              | mp i => cases hp
              | slp i k lo n =>
                have hp2 : (match rowsIn hs' i with | some (k', ys) => if k' = k ∧ lo = 0 ∧ n = ys.length then some (PV.sl ys) else none | none => none) = some p := hp
                split at hp2
                · rename_i k' ys hrow
                  split at hp2
                  · rename_i hcond
                    obtain ⟨rfl, rfl, hn⟩ := hcond
                    cases hp2
                    have hm := rowsIn_mem hrow
                    obtain ⟨_, _, hra, _⟩ := hpre.holds i _ hm 0 _ rfl (by simp)
                    exact slp_frz hra hn hc.1 (fun _ _ h => .inl h) (fun o => .inr ⟨i, ids_mem hm, rfl⟩)
                  · cases hp2
                · cases hp2
          · cases hz
    obtain ⟨l1, l2⟩ := key hrc hz
    rw [hv]
    exact .agg _ _ (by simpa using l1) (fun u hu => h1c u (by simpa using hu)) (fun j u p hu hp => l2 j u p (by simpa using hu) hp)
end Go.Proofs.YtbjfmkmaghapgaaGreatDoor.B
