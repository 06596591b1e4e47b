/-
The contracts of the standard library's functions that the program calls, applied at this program (laid by the kit's tool). Condition: none.
slices.Sort of texts, by its contract, as a contract on pure values. Condition: the count of draws is not asked for.
-/
import Derived.Shelf.SortM.Plain
import Derived.Shelf.SortM.SortNone
import Derived.Ground.SlgmProg
import Derived.Ground.NamesProg
import Derived.Test.YtkppcahnbifkgaaGreatDoorProg
import Derived.Test.YtkppcahnbifkgaaGreatDoorBFun3
namespace Go.Proofs
open Go.Shelf
def Tryz.laysSortStr_ren : Go.Shelf.Ren := ⟨fun | 6 => 185 | 8 => 170 | 9 => 234 | 19 => 216 | 20 => 217 | 21 => 278 | 22 => 279 | 23 => 280 | 24 => 281 | 25 => 282 | 26 => 283 | 27 => 284 | 28 => 285 | 29 => 286 | 36 => 303 | 31 => 259 | 32 => 260 | 37 => 304 | 38 => 305 | 39 => 165 | 41 => 323 | n => n, fun | 27 => 39 | 29 => 9 | 3 => 3 | 32 => 198 | 26 => 39 | 0 => 0 | 44 => 234 | 46 => 236 | 4 => 4 | 36 => 228 | 35 => 227 | 41 => 77 | 5 => 5 | 9 => 9 | 53 => 281 | 57 => 285 | 63 => 301 | 64 => 243 | n => n, fun | n => n⟩
theorem Tryz.laysSortStr : Go.Proofs.SlLaysM.n6 Tryz.prog Tryz.laysSortStr_ren := {
  mixed := by kernel_rfl
  f6 := ⟨Tryz.f185.name, by decide, Tryz.func185.trans (congrArg some (by kernel_rfl))⟩
  f8 := Tryz.func170.trans (congrArg some (by kernel_rfl))
  f9 := ⟨Tryz.f234.name, by decide, Tryz.func234.trans (congrArg some (by kernel_rfl))⟩
  f19 := Tryz.func216.trans (congrArg some (by kernel_rfl))
  f20 := Tryz.func217.trans (congrArg some (by kernel_rfl))
  f21 := ⟨Tryz.f278.name, by decide, Tryz.func278.trans (congrArg some (by kernel_rfl))⟩
  f22 := ⟨Tryz.f279.name, by decide, Tryz.func279.trans (congrArg some (by kernel_rfl))⟩
  f23 := ⟨Tryz.f280.name, by decide, Tryz.func280.trans (congrArg some (by kernel_rfl))⟩
  f24 := ⟨Tryz.f281.name, by decide, Tryz.func281.trans (congrArg some (by kernel_rfl))⟩
  f25 := ⟨Tryz.f282.name, by decide, Tryz.func282.trans (congrArg some (by kernel_rfl))⟩
  f26 := ⟨Tryz.f283.name, by decide, Tryz.func283.trans (congrArg some (by kernel_rfl))⟩
  f27 := ⟨Tryz.f284.name, by decide, Tryz.func284.trans (congrArg some (by kernel_rfl))⟩
  f28 := ⟨Tryz.f285.name, by decide, Tryz.func285.trans (congrArg some (by kernel_rfl))⟩
  f29 := ⟨Tryz.f286.name, by decide, Tryz.func286.trans (congrArg some (by kernel_rfl))⟩
  f31 := Tryz.func259.trans (congrArg some (by kernel_rfl))
  f32 := Tryz.func260.trans (congrArg some (by kernel_rfl))
  f36 := ⟨Tryz.f303.name, by decide, Tryz.func303.trans (congrArg some (by kernel_rfl))⟩
  f37 := ⟨Tryz.f304.name, by decide, Tryz.func304.trans (congrArg some (by kernel_rfl))⟩
  f38 := ⟨Tryz.f305.name, by decide, Tryz.func305.trans (congrArg some (by kernel_rfl))⟩
  f39 := ⟨Tryz.f165.name, by decide, Tryz.func165.trans (congrArg some (by kernel_rfl))⟩
  f41 := ⟨Tryz.f323.name, by decide, Tryz.func323.trans (congrArg some (by kernel_rfl))⟩
  t0 := Tryz.underlying0
  a0 := Tryz.isAgg0
  z0 := Tryz.sizeOf0
  v0 := Tryz.zeroValue0
  t3 := Tryz.underlying3
  a3 := Tryz.isAgg3
  z3 := Tryz.sizeOf3
  v3 := Tryz.zeroValue3
  t4 := Tryz.underlying4
  a4 := Tryz.isAgg4
  z4 := Tryz.sizeOf4
  v4 := Tryz.zeroValue4
  t5 := Tryz.underlying5
  a5 := Tryz.isAgg5
  z5 := Tryz.sizeOf5
  v5 := Tryz.zeroValue5
  t9 := Tryz.underlying9
  a9 := Tryz.isAgg9
  z9 := Tryz.sizeOf9
  v9 := Tryz.zeroValue9
  t26 := Tryz.underlying39
  a26 := Tryz.isAgg39
  z26 := Tryz.sizeOf39
  v26 := Tryz.zeroValue39
  t27 := Tryz.underlying39
  a27 := Tryz.isAgg39
  z27 := Tryz.sizeOf39
  v27 := Tryz.zeroValue39
  t29 := Tryz.underlying9
  a29 := Tryz.isAgg9
  z29 := Tryz.sizeOf9
  v29 := Tryz.zeroValue9
  t32 := Tryz.underlying198
  a32 := Tryz.isAgg198
  z32 := Tryz.sizeOf198
  v32 := Tryz.zeroValue198
  t35 := Tryz.underlying227
  a35 := Tryz.isAgg227
  z35 := Tryz.sizeOf227
  v35 := Tryz.zeroValue227
  t36 := Tryz.underlying228
  a36 := Tryz.isAgg228
  z36 := Tryz.sizeOf228
  v36 := Tryz.zeroValue228
  t41 := Tryz.underlying77
  a41 := Tryz.isAgg77
  z41 := Tryz.sizeOf77
  v41 := Tryz.zeroValue77
  t44 := Tryz.underlying234
  a44 := Tryz.isAgg234
  z44 := Tryz.sizeOf234
  v44 := Tryz.zeroValue234
  t46 := Tryz.underlying236
  a46 := Tryz.isAgg236
  z46 := Tryz.sizeOf236
  v46 := Tryz.zeroValue236
  t53 := Tryz.underlying281
  a53 := Tryz.isAgg281
  z53 := Tryz.sizeOf281
  v53 := Tryz.zeroValue281
  t57 := Tryz.underlying285
  a57 := Tryz.isAgg285
  z57 := Tryz.sizeOf285
  v57 := Tryz.zeroValue285
  t63 := Tryz.underlying301
  a63 := Tryz.isAgg301
  z63 := Tryz.sizeOf301
  v63 := Tryz.zeroValue301
  t64 := Tryz.underlying243
  a64 := Tryz.isAgg243
  z64 := Tryz.sizeOf243
  v64 := Tryz.zeroValue243 }
end Go.Proofs

set_option linter.unusedVariables false
set_option linter.unusedSimpArgs false
namespace Go.Proofs.YtkppcahnbifkgaaGreatDoor.B
open Go.RowKit Go.Sort Go.Shelf
def unS (b : List UInt8) : ByteArray := ⟨b.toArray⟩
def bytesS (s : ByteArray) : List UInt8 := s.data.toList
theorem unS_bytes (s : ByteArray) : unS (bytesS s) = s := by
  unfold unS bytesS
  simp
theorem bytes_unS (b : List UInt8) : bytesS (unS b) = b := by
  unfold unS bytesS
  simp
/-- Texts, sorted. -/
def sortS (l : List ByteArray) : List ByteArray := ((l.map bytesS).mergeSort fun x y => decide (x ≤ y)).map unS
theorem sortS_len (l : List ByteArray) : (sortS l).length = l.length := by
  unfold sortS
  rw [List.length_map, List.length_mergeSort, List.length_map]
theorem sortS_bytes (l : List ByteArray) : (sortS l).map bytesS = (l.map bytesS).mergeSort fun x y => decide (x ≤ y) := by
  unfold sortS
  rw [List.map_map]
  have : bytesS ∘ unS = id := by funext b; exact bytes_unS b
  rw [this, List.map_id]
theorem mem_sortS (l : List ByteArray) (x : ByteArray) : x ∈ sortS l ↔ x ∈ l := by
  unfold sortS
  rw [List.mem_map]
  constructor
  · rintro ⟨b, hb, rfl⟩
    rw [List.mem_mergeSort, List.mem_map] at hb
    obtain ⟨s, hs, rfl⟩ := hb
    rw [unS_bytes]
    exact hs
  · intro h
    exact ⟨bytesS x, by rw [List.mem_mergeSort]; exact List.mem_map_of_mem h, unS_bytes x⟩
theorem bangS (l : List (List UInt8)) (i : Nat) (h : i < l.length) : l.toArray[i]! = l[i] := by
  rw [getElem!_pos l.toArray i (by simpa using h)]
  simp
theorem holds_of_rowsS {S : Nat → Nat → Prop} {w : World} {b : Nat} {l : List ByteArray} (h : RowsAt S w b 1 (l.map encS)) (hf : ∀ q, w.frozen? ⟨b, q, none⟩ = false) : Holds encStr w b 0 (l.map bytesS).toArray := by
  intro t ht
  rw [Nat.zero_add]
  refine ⟨?_, hf t⟩
  have ht' : t < (l.map bytesS).length := by simpa using ht
  have hl : t < l.length := by simpa using ht'
  rw [bangS _ t ht', List.getElem_map]
  obtain ⟨c, c1, c2, _⟩ := h.2 t 0 (encS l[t]) _ (by rw [List.getElem?_map, List.getElem?_eq_getElem hl]; rfl) rfl
  rw [(rep_lit c2).1, Nat.mul_one, Nat.add_zero] at c1
  rw [c1]
  show some (Value.string l[t]) = some (Value.string (unS (bytesS l[t])))
  rw [unS_bytes]
theorem rows_of_holdsS {S : Nat → Nat → Prop} {w : World} {b : Nat} {l : List ByteArray} (h : Holds encStr w b 0 (l.map bytesS).toArray) : RowsAt S w b 1 (l.map encS) := by
  refine ⟨lenS l, fun i j r x hr hx => ?_⟩
  rw [List.getElem?_map] at hr
  cases hq : l[i]? with
  | none => rw [hq] at hr; cases hr
  | some y =>
    rw [hq] at hr
    simp only [Option.map_some, Option.some.injEq] at hr
    subst hr
    obtain ⟨hi, hy⟩ := List.getElem?_eq_some_iff.1 hq
    have hj : j = 0 := by
      have := (List.getElem?_eq_some_iff.1 hx).1
      simp [encS] at this
      omega
    subst hj
    cases hx
    have ht' : i < (l.map bytesS).length := by simpa using hi
    have h1 := (h i (by simpa using hi)).1
    rw [Nat.zero_add, bangS _ i ht', List.getElem_map, hy] at h1
    refine ⟨.string y, ?_, .lit _ rfl, rfl⟩
    rw [Nat.mul_one, Nat.add_zero, h1]
    show some (Value.string (unS (bytesS y))) = some (Value.string y)
    rw [unS_bytes]
theorem sortStr_hc {G : World → Prop} (l : List ByteArray) (X : List (List PV)) (hX : l.map encS = X) (hl : l.length ≤ 1000000) (hne : l ≠ []) (n : Nat) (hn : Is n (fun _ => X.length)) (Y : List (List PV)) (hY : Is Y (fun _ => (sortS l).map encS)) :
    HCalls G Tryz.prog 185 [.slp 30000 1 0 n] [(30000, [.rows 1 X])] (.pv (.tup [])) none [(30000, [.rows 1 Y])] := by
  have hXl : X.length = l.length := by rw [← hX]; simp
  refine ⟨⟨_, Tryz.func185, by kernel_rfl, by kernel_rfl⟩, fun w S β vs hG hSa hpre hrep => ?_⟩
  obtain ⟨hsz, hrep⟩ := hrep
  obtain ⟨v0, rfl⟩ : ∃ v0, vs = #[v0] := by
    obtain ⟨vl⟩ := vs
    match vl, hsz with
    | [a], _ => exact ⟨a, rfl⟩
  have hv0 : RepF β S w v0 (.slp 30000 1 0 n) := hrep 0 v0 _ rfl rfl
  obtain ⟨cap, off, hcap, rfl, hoff⟩ := hv0
  obtain ⟨_, _, hrows, hfz⟩ := hpre.holds 30000 _ (List.mem_cons_self ..) 0 _ rfl (by simp)
  obtain ⟨hlt, hnS⟩ := hpre.lt 30000 (by simp [idsOf])
  have hnl : n = l.length := by rw [hn.out, hXl]
  have hpos : 0 < l.length := List.length_pos_iff.2 hne
  have hoff0 : off = 0 := by rcases hoff with h | h; omega; omega
  subst hoff0
  have hsize : (l.map bytesS).length = n := by simp [hnl]
  have hH : Holds encStr w (β 30000) 0 (l.map bytesS).toArray := holds_of_rowsS (hX ▸ hrows) hfz
  have hcall := AnyM.slices_Sort_string (P := Tryz.prog) (ρ := Tryz.laysSortStr_ren) Tryz.laysSortStr (β 30000) 0 cap (l.map bytesS) w hH hlt (by omega)
  rw [hsize] at hcall
  refine Calls.mono (f := 185) hcall ?_
  rintro e w' ⟨rfl, m, os, hw⟩
  rw [← sortS_bytes] at hw
  have hds : ((sortS l).map bytesS).toArray.size = (l.map bytesS).toArray.size := by simp [sortS_len]
  have hH0 : Holds encStr (Go.Sort.ahead w m) (β 30000) 0 (l.map bytesS).toArray := hH
  have hH' : Holds encStr w' (β 30000) 0 ((sortS l).map bytesS).toArray := by
    rw [hw]
    exact holds_grow encStr _ os (β 30000) 0 _ (by rw [size_putRow]; exact hlt) (holds_putRow encStr _ _ _ _ _ hH0 hds)
  have hold : ∀ k, k < w.heap.size → k ≠ β 30000 → w'.heap[k]? = w.heap[k]? := fun k hk hne => by
    rw [hw, heap_grow_old _ _ (by rw [size_putRow]; exact hk)]
    unfold putRow mapBlock
    show ((Go.Sort.ahead w m).heap.modify _ _)[k]? = _
    rw [Array.getElem?_modify, if_neg (fun e => hne e.symm)]
    rfl
  have hos : w'.os = w.os ∧ w'.tape = w.tape ∧ w'.output = w.output ∧ w'.drawn = w.drawn + m := by rw [hw]; exact ⟨rfl, rfl, rfl, rfl⟩
  have hszw : w.heap.size ≤ w'.heap.size := by
    rw [hw, size_grow, size_putRow]
    show w.heap.size ≤ w.heap.size + _
    omega
  have hfz' : ∀ q, w'.frozen? ⟨β 30000, q, none⟩ = false := fun q => by
    rw [hw, frozen?_grow _ _ _ (by rw [size_putRow]; exact hlt), frozen?_putRow]
    exact hfz q
  have hro : RowsAt S w' (β 30000) 1 Y := by
    rw [hY.out]
    exact rows_of_holdsS hH'
  refine ⟨_, S, β, rfl, ⟨hos.1, hos.2.1, hos.2.2.1, hszw, fun k hk hne => hold k hk (fun e => hne ⟨30000, by simp [idsOf], e.symm⟩)⟩, fun _ _ h => h, fun _ _ h => .inl h, fun b o hs => Nat.lt_of_lt_of_le (hSa b o hs) hszw, fun _ _ => rfl, fun i hi hni => absurd hi hni, ⟨fun i hi => ?_, fun i j hi hj _ => ?_, fun i xs hm o x hx hne => ?_⟩, .tup _ _ rfl (fun i v p hv => by simp at hv), trivial, fun b hne => hne.elim, fun _ => by rw [hos.2.2.2]; omega⟩
  · simp [idsOf] at hi
    subst hi
    exact ⟨Nat.lt_of_lt_of_le hlt hszw, hnS⟩
  · simp [idsOf] at hi hj
    rw [hi, hj]
  · simp at hm
    obtain ⟨rfl, rfl⟩ := hm
    cases o with
    | succ o => simp at hx
    | zero =>
      simp at hx
      subst hx
      exact ⟨rfl, rfl, hro, hfz'⟩
theorem sortStr0_ac {G : World → Prop} (hst : Stable G) (hD : ¬ ∀ w, G w) : ACalls G Tryz.prog 185 [.sl []] (.tup []) none := by
  refine of_calls (v0 := .tuple #[]) hst hD ⟨_, Tryz.func185, by kernel_rfl, by kernel_rfl⟩ (fun w S vs _ hrep => ?_) (fun S w => .tup _ _ rfl (fun i v p hv => by simp at hv))
  obtain ⟨v0, rfl, hv0⟩ := hrep.one
  have key : ∀ p cap, Calls Tryz.prog 185 #[.slice p 0 cap] w fun e w' => e = .returned (.tuple #[]) ∧ Below w.heap.size w w' := fun p cap => by
    refine Calls.mono (f := 185) (AnyM.slices_Sort_string_none (P := Tryz.prog) (ρ := Tryz.laysSortStr_ren) Tryz.laysSortStr p cap w) ?_
    rintro e w' ⟨rfl, rfl⟩
    exact ⟨rfl, Below.refl _ _⟩
  rcases rep_sl hv0 with ⟨rfl, _⟩ | ⟨b, off, k', cap, rfl, _⟩
  · exact key _ _
  · exact key _ _
end Go.Proofs.YtkppcahnbifkgaaGreatDoor.B
