/-
The contracts of the standard library's functions that the program calls, applied at this program (laid by the kit's tool). Condition: none.
The library's sort of rules, by its contract, as a contract on pure values. Condition: none.
-/
import Derived.Shelf.SlSortCmp.WholeK
import Derived.Shelf.SlSortCmp.NoneTotal
import Derived.Ground.SlsfProg
import Derived.Ground.NamesProg
import Derived.Test.YtbjfmkmaghapgaaGreatDoorProg
import Derived.Test.YtbjfmkmaghapgaaGreatDoorBOrd
import Derived.Test.YtbjfmkmaghapgaaGreatDoorBSort0
namespace Go.Proofs
open Go.Shelf
def Tryz.laysSortRule_ren : Go.Shelf.Ren := ⟨fun | 6 => 47 | 15 => 62 | 14 => 61 | 28 => 82 | 29 => 83 | 20 => 74 | 21 => 75 | 22 => 76 | 23 => 77 | 24 => 78 | 25 => 79 | 26 => 80 | 27 => 81 | 46 => 99 | 47 => 100 | 48 => 101 | 49 => 102 | 50 => 103 | 57 => 112 | n => n, fun | 22 => 32 | 24 => 36 | 25 => 34 | 3 => 3 | 39 => 98 | 0 => 0 | 53 => 110 | 55 => 112 | 4 => 4 | 46 => 103 | 45 => 102 | 50 => 107 | 5 => 5 | 9 => 9 | 66 => 122 | 70 => 126 | 76 => 136 | 77 => 120 | n => n, fun | n => n⟩
theorem Tryz.laysSortRule : Go.Proofs.SlLaysF0.n6 Tryz.prog Tryz.laysSortRule_ren := {
  mixed := by kernel_rfl
  f6 := ⟨Tryz.f47.name, by decide, Tryz.func47.trans (congrArg some (by kernel_rfl))⟩
  f14 := ⟨Tryz.f61.name, by decide, Tryz.func61.trans (congrArg some (by kernel_rfl))⟩
  f15 := Tryz.func62.trans (congrArg some (by kernel_rfl))
  f20 := ⟨Tryz.f74.name, by decide, Tryz.func74.trans (congrArg some (by kernel_rfl))⟩
  f21 := ⟨Tryz.f75.name, by decide, Tryz.func75.trans (congrArg some (by kernel_rfl))⟩
  f22 := ⟨Tryz.f76.name, by decide, Tryz.func76.trans (congrArg some (by kernel_rfl))⟩
  f23 := ⟨Tryz.f77.name, by decide, Tryz.func77.trans (congrArg some (by kernel_rfl))⟩
  f24 := ⟨Tryz.f78.name, by decide, Tryz.func78.trans (congrArg some (by kernel_rfl))⟩
  f25 := ⟨Tryz.f79.name, by decide, Tryz.func79.trans (congrArg some (by kernel_rfl))⟩
  f26 := ⟨Tryz.f80.name, by decide, Tryz.func80.trans (congrArg some (by kernel_rfl))⟩
  f27 := ⟨Tryz.f81.name, by decide, Tryz.func81.trans (congrArg some (by kernel_rfl))⟩
  f28 := Tryz.func82.trans (congrArg some (by kernel_rfl))
  f29 := Tryz.func83.trans (congrArg some (by kernel_rfl))
  f46 := ⟨Tryz.f99.name, by decide, Tryz.func99.trans (congrArg some (by kernel_rfl))⟩
  f47 := Tryz.func100.trans (congrArg some (by kernel_rfl))
  f48 := Tryz.func101.trans (congrArg some (by kernel_rfl))
  f49 := ⟨Tryz.f102.name, by decide, Tryz.func102.trans (congrArg some (by kernel_rfl))⟩
  f50 := ⟨Tryz.f103.name, by decide, Tryz.func103.trans (congrArg some (by kernel_rfl))⟩
  f57 := ⟨Tryz.f112.name, by decide, Tryz.func112.trans (congrArg some (by kernel_rfl))⟩
  t0 := Tryz.underlying0
  a0 := Tryz.isAgg0
  z0 := Tryz.sizeOf0
  v0 := Tryz.zeroValue0
  t3 := Tryz.underlying3
  a3 := Tryz.isAgg3
  z3 := Tryz.sizeOf3
  v3 := Tryz.zeroValue3
  t4 := Tryz.underlying4
  a4 := Tryz.isAgg4
  z4 := Tryz.sizeOf4
  v4 := Tryz.zeroValue4
  t5 := Tryz.underlying5
  a5 := Tryz.isAgg5
  z5 := Tryz.sizeOf5
  v5 := Tryz.zeroValue5
  t9 := Tryz.underlying9
  a9 := Tryz.isAgg9
  z9 := Tryz.sizeOf9
  v9 := Tryz.zeroValue9
  t22 := Tryz.underlying32
  a22 := Tryz.isAgg32
  z22 := Tryz.sizeOf32
  v22 := Tryz.zeroValue32
  t25 := Tryz.underlying34
  a25 := Tryz.isAgg34
  z25 := Tryz.sizeOf34
  v25 := Tryz.zeroValue34
  t39 := Tryz.underlying98
  a39 := Tryz.isAgg98
  z39 := Tryz.sizeOf98
  v39 := Tryz.zeroValue98
  t45 := Tryz.underlying102
  a45 := Tryz.isAgg102
  z45 := Tryz.sizeOf102
  v45 := Tryz.zeroValue102
  t46 := Tryz.underlying103
  a46 := Tryz.isAgg103
  z46 := Tryz.sizeOf103
  v46 := Tryz.zeroValue103
  t50 := Tryz.underlying107
  a50 := Tryz.isAgg107
  z50 := Tryz.sizeOf107
  v50 := Tryz.zeroValue107
  t53 := Tryz.underlying110
  a53 := Tryz.isAgg110
  z53 := Tryz.sizeOf110
  v53 := Tryz.zeroValue110
  t55 := Tryz.underlying112
  a55 := Tryz.isAgg112
  z55 := Tryz.sizeOf112
  v55 := Tryz.zeroValue112
  t66 := Tryz.underlying122
  a66 := Tryz.isAgg122
  z66 := Tryz.sizeOf122
  v66 := Tryz.zeroValue122
  t70 := Tryz.underlying126
  a70 := Tryz.isAgg126
  z70 := Tryz.sizeOf126
  v70 := Tryz.zeroValue126
  t76 := Tryz.underlying136
  a76 := Tryz.isAgg136
  z76 := Tryz.sizeOf136
  v76 := Tryz.zeroValue136
  t77 := Tryz.underlying120
  a77 := Tryz.isAgg120
  z77 := Tryz.sizeOf120
  v77 := Tryz.zeroValue120 }
end Go.Proofs

set_option linter.unusedVariables false
set_option linter.unusedSimpArgs false
namespace Go.Proofs.YtbjfmkmaghapgaaGreatDoor.B
open Go.RowKit Go.Sort Go.Shelf
instance : Inhabited Rl := ⟨⟨0, ⟨#[]⟩, ⟨#[]⟩, ⟨#[]⟩, ⟨#[]⟩⟩⟩
def encV (r : Rl) : List Value := [.int .i64 r.kind, .string r.entity, .string r.reason, .string r.room, .string r.key]
theorem encV_len (r : Rl) : (encV r).length = 5 := rfl
theorem encV_one (r : Rl) : ∀ v ∈ encV r, v.oneCell' = true := by
  intro v hv
  simp [encV] at hv
  rcases hv with rfl | rfl | rfl | rfl | rfl <;> rfl
theorem tauRuleB : (match tau 36 with | some ti => isAggD ti.desc && Nat.beq ti.size 5 | none => false) = true := by kernel_rfl
theorem tauRule : ∃ ti, tau 36 = some ti ∧ isAggD ti.desc = true ∧ ti.size = 5 := by
  have h := tauRuleB
  split at h
  · rename_i ti e
    rw [Bool.and_eq_true] at h
    exact ⟨ti, e, h.1, by simpa using h.2⟩
  · cases h
theorem aggRule (w : World) : (isAgg 36).run Tryz.prog w = .ok true w := by
  obtain ⟨ti, h1, h2, _⟩ := tauRule
  rw [run_isAggD tau_ok h1, h2]
theorem sizeRule (w : World) : (Go.sizeOf 36).run Tryz.prog w = .ok 5 w := by
  obtain ⟨ti, h1, _, h3⟩ := tauRule
  rw [run_sizeD tau_ok h1, h3]
theorem repV (S : Nat → Nat → Prop) (w : World) (r : Rl) : RepP S w (.agg (encV r).toArray) (.agg (encR r)) := by
  refine .agg _ _ rfl (fun v hv => encV_one r v (by simpa using hv)) (fun i v x hv hx => ?_)
  match i with
  | 0 => cases hv; cases hx; exact .lit _ rfl
  | 1 => cases hv; cases hx; exact .lit _ rfl
  | 2 => cases hv; cases hx; exact .lit _ rfl
  | 3 => cases hv; cases hx; exact .lit _ rfl
  | 4 => cases hv; cases hx; exact .lit _ rfl
  | i + 5 => simp [encV] at hv
theorem cmp_calls (x y : Rl) (W : World) : Calls Tryz.prog 9 #[.agg (encV x).toArray, .agg (encV y).toArray] W fun e w' => e = .returned (.int .i64 (cmpR x y)) ∧ ∃ q os', w' = grow (W.drewN q) os' := by
  have h := compareR_ac (G := fun _ => True) (fun _ _ _ _ => trivial) x y (cmpR x y) ⟨rfl⟩
  refine (h.2 W (fun _ _ => False) _ trivial (fun _ _ h => h.elim) ⟨rfl, fun i v p hv hp => ?_⟩).mono ?_
  · match i with
    | 0 => cases hv; cases hp; exact repV _ _ x
    | 1 => cases hv; cases hp; exact repV _ _ y
    | i + 2 => simp at hv
  · rintro e w' ⟨v, S', rfl, hb, _, _, _, _, hr, _, hd⟩
    refine ⟨by rw [(rep_lit hr).1], w'.drawn - W.drawn, w'.heap.extract W.heap.size w'.heap.size, ?_⟩
    have hd' := hd (fun _ => trivial)
    have hh : w'.heap = W.heap ++ w'.heap.extract W.heap.size w'.heap.size := by
      apply Array.ext_getElem?
      intro i
      rw [Array.getElem?_append]
      split
      · rename_i hi
        exact hb.block i hi
      · rename_i hi
        rw [Array.getElem?_extract]
        have := hb.size
        split
        · congr 1; omega
        · rename_i h2
          rw [Array.getElem?_eq_none (by omega)]
    have q1 := hb.os
    have q2 := hb.tape
    have q3 := hb.output
    obtain ⟨heap', tape', drawn', os', out'⟩ := w'
    simp only at hd' hh q1 q2 q3
    subst q1 q2 q3
    show _ = ({ heap := W.heap ++ heap'.extract W.heap.size heap'.size, tape := W.tape, drawn := W.drawn + (drawn' - W.drawn), os := W.os, output := W.output } : World)
    rw [← hh, Nat.add_sub_cancel' hd']
theorem swoR : SWO (ltOf cmpR) where
  irrefl x := by unfold ltOf; rw [cmpR_self]; rfl
  trans x y z h1 h2 := by
    unfold ltOf at *
    simp only [decide_eq_true_eq] at *
    have a := cmpr_R.rng x y
    have b := cmpr_R.rng y z
    have := cmpr_R.trans x y z (by omega) (by omega)
    omega
  ntrans x y z h1 h2 := by
    unfold ltOf at *
    simp only [decide_eq_false_iff_not] at *
    have s1 := cmpr_R.swap x y
    have s2 := cmpr_R.swap y z
    have s3 := cmpr_R.swap x z
    have r1 := cmpr_R.rng x y
    have r2 := cmpr_R.rng y z
    have r3 := cmpr_R.rng x z
    have t1 := cmpr_R.trans z y x
    have c1 := cmpr_R.cong x y z
    have c2 : cmpR y z = 0 → cmpR x y = cmpR x z := fun e => cmpr_R.cong' x e
    omega
theorem totR (x y : Rl) (h1 : ltOf cmpR x y = false) (h2 : ltOf cmpR y x = false) : x = y := by
  unfold ltOf at *
  simp only [decide_eq_false_iff_not] at *
  have s1 := cmpr_R.swap x y
  exact cmpR_zero (by omega)
theorem le_ltOf : (fun x y => !(ltOf cmpR) y x) = leR := by
  funext x y
  unfold ltOf leR
  have s1 := cmpr_R.swap x y
  by_cases h : cmpR x y ≤ 0
  · rw [decide_eq_false (show ¬ cmpR y x < 0 by omega), decide_eq_true h]; rfl
  · rw [decide_eq_true (show cmpR y x < 0 by omega), decide_eq_false h]; rfl
theorem bang (l : List Rl) (i : Nat) (h : i < l.length) : l.toArray[i]! = l[i] := by
  rw [getElem!_pos l.toArray i (by simpa using h)]
  simp
/-- The rows of a block are a list's. -/
theorem holds_of_rows {S : Nat → Nat → Prop} {w : World} {b : Nat} {l : List Rl} (h : RowsAt S w b 5 (l.map encR)) (hf : ∀ q, w.frozen? ⟨b, q, none⟩ = false) : HoldsK encV 5 w b 0 l.toArray := by
  intro t ht
  rw [size_flatK] at ht
  rw [Nat.zero_add]
  refine ⟨?_, hf t⟩
  rw [get_flatK _ _ _ _ ht]
  have hsz : l.toArray.size = l.length := by simp
  rw [hsz] at ht
  have hi : t / 5 < l.length := by omega
  have hj : t % 5 < 5 := Nat.mod_lt _ (by omega)
  rw [bang l _ hi]
  have hr : (l.map encR)[t / 5]? = some (encR l[t / 5]) := by rw [List.getElem?_map, List.getElem?_eq_getElem hi]; rfl
  have key : ∀ (j : Nat), j < 5 → w.cell? ⟨b, t / 5 * 5 + j, none⟩ = some (encV l[t / 5])[j]! := by
    intro j hj
    generalize l[t / 5] = r at hr ⊢
    have lit : ∀ (v : Value), (encR r)[j]? = some (.lit v) → w.cell? ⟨b, t / 5 * 5 + j, none⟩ = some v := fun v hv => by
      obtain ⟨c, c1, c2, _⟩ := h.2 (t / 5) j _ _ hr hv
      rw [(rep_lit c2).1] at c1
      exact c1
    match j, hj with
    | 0, _ => exact lit _ rfl
    | 1, _ => exact lit _ rfl
    | 2, _ => exact lit _ rfl
    | 3, _ => exact lit _ rfl
    | 4, _ => exact lit _ rfl
  have := key (t % 5) hj
  rwa [show t / 5 * 5 + t % 5 = t by omega] at this
theorem rows_of_holds {S : Nat → Nat → Prop} {w : World} {b : Nat} {l : List Rl} (h : HoldsK encV 5 w b 0 l.toArray) : RowsAt S w b 5 (l.map encR) := by
  refine ⟨lenR l, fun i j r x hr hx => ?_⟩
  rw [List.getElem?_map] at hr
  cases hq : l[i]? with
  | none => rw [hq] at hr; cases hr
  | some y =>
    rw [hq] at hr
    simp only [Option.map_some, Option.some.injEq] at hr
    subst hr
    obtain ⟨hi, hy⟩ := List.getElem?_eq_some_iff.1 hq
    have hj : j < 5 := (List.getElem?_eq_some_iff.1 hx).1
    have hsz : l.toArray.size = l.length := by simp
    have ht : i * 5 + j < l.toArray.size * 5 := by rw [hsz]; omega
    have h1 := (h (i * 5 + j) (by rw [size_flatK]; exact ht)).1
    rw [Nat.zero_add, get_flatK _ _ _ _ ht, show (i * 5 + j) / 5 = i by omega, show (i * 5 + j) % 5 = j by omega, bang l i hi, hy] at h1
    refine ⟨_, h1, ?_, ?_⟩
    · match j, hj with
      | 0, _ => cases hx; exact .lit _ rfl
      | 1, _ => cases hx; exact .lit _ rfl
      | 2, _ => cases hx; exact .lit _ rfl
      | 3, _ => cases hx; exact .lit _ rfl
      | 4, _ => cases hx; exact .lit _ rfl
    · match j, hj with
      | 0, _ => rfl
      | 1, _ => rfl
      | 2, _ => rfl
      | 3, _ => rfl
      | 4, _ => rfl
theorem sortC (G : World → Prop) : SortC G := by
  intro l X n Y hX hl hn hY
  have hXl : X.length = l.length := by rw [← hX]; simp
  refine ⟨⟨_, Tryz.func47, by kernel_rfl, by kernel_rfl⟩, fun w S β vs hG hSa hpre hrep => ?_⟩
  obtain ⟨hsz, hrep⟩ := hrep
  obtain ⟨v0, v1, rfl⟩ : ∃ v0 v1, vs = #[v0, v1] := by
    obtain ⟨vl⟩ := vs
    match vl, hsz with
    | [a, b], _ => exact ⟨a, b, rfl⟩
  have hv0 : RepF β S w v0 (.slp 30000 5 0 n) := hrep 0 v0 _ rfl rfl
  have hv1 : RepP S w v1 (.lit (.func (.func 9) #[] #[])) := hrep 1 v1 _ rfl rfl
  obtain rfl := (rep_lit hv1).1
  obtain ⟨cap, off, hcap, rfl, hoff⟩ := hv0
  obtain ⟨_, _, hrows, hfz⟩ := hpre.holds 30000 _ (List.mem_cons_self ..) 0 _ rfl (by simp)
  obtain ⟨hlt, hnS⟩ := hpre.lt 30000 (by simp [idsOf])
  have hnl : n = l.length := by rw [hn.out, hXl]
  by_cases h0 : n = 0
  · have hl0 : l = [] := List.eq_nil_of_length_eq_zero (by omega)
    have hY0 : Y = [] := by rw [hY.out, hl0]; simp [sortR]
    have hX0 : X = [] := by rw [← hX, hl0]; rfl
    have hcall := AnyF.slices_SortFunc_none (P := Tryz.prog) (ρ := Tryz.laysSortRule_ren) Tryz.laysSortRule (some ⟨β 30000, off, none⟩) cap (.func (.func 9) #[] #[]) w
    rw [h0]
    refine Calls.mono (f := 47) hcall ?_
    rintro e w' ⟨rfl, rfl⟩
    refine ⟨_, S, β, rfl, Kept.refl _ _, fun _ _ h => h, fun _ _ h => .inl h, hSa, fun _ _ => rfl, fun i hi hni => absurd hi hni, ?_, .tup _ _ rfl (fun i v p hv => by simp at hv), trivial, fun b hne => hne.elim, fun _ => Nat.le_refl _⟩
    rw [hY0, ← hX0]
    exact hpre
  · have hoff0 : off = 0 := by rcases hoff with h | h; exact absurd h h0; omega
    subst hoff0
    have eg : ∀ args w, (callFunc 9 args).run Tryz.prog w = .ok (.enter 9 args) w := enters_of Tryz.func9 (by kernel_rfl) rfl
    have hsize : l.toArray.size = n := by simp [hnl]
    have hH : HoldsK encV 5 w (β 30000) 0 l.toArray := holds_of_rows (hX ▸ hrows) hfz
    have hcall := AnyQ.slices_SortFunc_total (P := Tryz.prog) (ρ := Tryz.laysSortRule_ren) Tryz.laysSortRule 5 aggRule sizeRule encV encV_len encV_one cmpR swoR 9 #[] (β 30000) 0 cap l.toArray w eg (fun m os dk _ x y => cmp_calls x y _) hH hlt (by rw [hsize]; omega) totR
    rw [hsize] at hcall
    refine Calls.mono (f := 47) hcall ?_
    rintro e w' ⟨rfl, m, os, hw⟩
    have hd : (l.mergeSort fun x y => !(ltOf cmpR) y x) = sortR l := by rw [le_ltOf]; rfl
    rw [hd] at hw
    have hds : (sortR l).toArray.size = l.toArray.size := by simp [sortR]
    have hH' : HoldsK encV 5 w' (β 30000) 0 (sortR l).toArray := by rw [hw]; exact holdsK_sortWorldK_c encV 5 w (β 30000) 0 l.toArray (sortR l).toArray m os hH hlt hds
    have hold : ∀ k, k < w.heap.size → k ≠ β 30000 → w'.heap[k]? = w.heap[k]? := fun k hk hne => by
      rw [hw]
      unfold sortWorldK
      rw [heap_grow_old _ _ (by unfold putRowK; rw [size_putRow]; exact hk)]
      unfold putRowK putRow mapBlock
      show ((Go.Sort.ahead w m).heap.modify _ _)[k]? = _
      rw [Array.getElem?_modify, if_neg (fun e => hne e.symm)]
      rfl
    have hos : w'.os = w.os ∧ w'.tape = w.tape ∧ w'.output = w.output ∧ w'.drawn = w.drawn + m := by rw [hw]; exact ⟨rfl, rfl, rfl, rfl⟩
    have hszw : w.heap.size ≤ w'.heap.size := by
      rw [hw]
      unfold sortWorldK
      rw [size_grow]
      unfold putRowK
      rw [size_putRow]
      show w.heap.size ≤ w.heap.size + _
      omega
    have hfz' : ∀ q, w'.frozen? ⟨β 30000, q, none⟩ = false := fun q => by
      rw [hw]
      unfold sortWorldK
      rw [frozen?_grow _ _ _ (by unfold putRowK; rw [size_putRow]; exact hlt)]
      unfold putRowK
      rw [frozen?_putRow]
      exact hfz q
    have hro : RowsAt S w' (β 30000) 5 Y := by
      rw [hY.out]
      exact rows_of_holds hH'
    refine ⟨_, S, β, rfl, ⟨hos.1, hos.2.1, hos.2.2.1, hszw, fun k hk hne => hold k hk (fun e => hne ⟨30000, by simp [idsOf], e.symm⟩)⟩, fun _ _ h => h, fun _ _ h => .inl h, fun b o hs => Nat.lt_of_lt_of_le (hSa b o hs) hszw, fun _ _ => rfl, fun i hi hni => absurd hi hni, ⟨fun i hi => ?_, fun i j hi hj _ => ?_, fun i xs hm o x hx hne => ?_⟩, .tup _ _ rfl (fun i v p hv => by simp at hv), trivial, fun b hne => hne.elim, fun _ => by rw [hos.2.2.2]; omega⟩
    · simp [idsOf] at hi
      subst hi
      exact ⟨Nat.lt_of_lt_of_le hlt hszw, hnS⟩
    · simp [idsOf] at hi hj
      rw [hi, hj]
    · simp at hm
      obtain ⟨rfl, rfl⟩ := hm
      cases o with
      | succ o => simp at hx
      | zero =>
        simp at hx
        subst hx
        exact ⟨rfl, rfl, hro, hfz'⟩
theorem sortNilC {G : World → Prop} (hst : Stable G) (hD : ¬ ∀ w, G w) : SortNilC G := by
  refine of_calls (v0 := .tuple #[]) hst hD ⟨_, Tryz.func47, by kernel_rfl, by kernel_rfl⟩ (fun w S vs _ hrep => ?_) (fun S w => .tup _ _ rfl (fun i v p hv => by simp at hv))
  obtain ⟨hsz, hrep⟩ := hrep
  obtain ⟨v0, v1, rfl⟩ : ∃ v0 v1, vs = #[v0, v1] := by
    obtain ⟨vl⟩ := vs
    match vl, hsz with
    | [a, b], _ => exact ⟨a, b, rfl⟩
  have hv0 : RepP S w v0 (.sl []) := hrep 0 v0 _ rfl rfl
  have key : ∀ p cap, Calls Tryz.prog 47 #[.slice p 0 cap, v1] w fun e w' => e = .returned (.tuple #[]) ∧ Below w.heap.size w w' := fun p cap => by
    refine Calls.mono (f := 47) (AnyF.slices_SortFunc_none (P := Tryz.prog) (ρ := Tryz.laysSortRule_ren) Tryz.laysSortRule p cap v1 w) ?_
    rintro e w' ⟨rfl, rfl⟩
    exact ⟨rfl, Below.refl _ _⟩
  rcases rep_sl hv0 with ⟨⟨A, rfl⟩, _⟩ | ⟨b, off, k', cap, rfl, _⟩
  · exact key _ _
  · exact key _ _
end Go.Proofs.YtbjfmkmaghapgaaGreatDoor.B
