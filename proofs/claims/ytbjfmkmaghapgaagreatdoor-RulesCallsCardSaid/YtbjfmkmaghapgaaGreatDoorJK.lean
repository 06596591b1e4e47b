/-
What is handed in, read: from the reading of cells to the pure values that they stand for, for any type made of numbers, strings, lists and structs. Condition: none.
What is handed in, read, for the program's types: values of type Json. Condition: none.
What is handed in, read, for the program's types: rules, entries, states. Condition: none.
Package outlawkit, walked: nodes, heavy, LightBody. Condition: none.
Package outlawkit, walked: LightState. Condition: none.
-/
import Derived.Test.YtbjfmkmaghapgaaGreatDoorBOk
import Derived.Deep.Slices
import Derived.ChangeArms
import Derived.WideShapes
import Derived.SizedLaws
import Derived.Test.YtbjfmkmaghapgaaGreatDoorBJson
import Derived.Test.YtbjfmkmaghapgaaGreatDoorBExtr
import Derived.Test.YtbjfmkmaghapgaaGreatDoorBFun5
set_option linter.unusedVariables false
set_option linter.unusedSimpArgs false
namespace Go.Proofs.YtbjfmkmaghapgaaGreatDoor.B
open Go.RowKit Go.Deep Go.ChangeShapes Go.WideShapes
/-- The cells of a value of a type. -/
inductive Ty (P : Program) : TypeId → List PV → Prop
  | bool {t : TypeId} (b : Bool) : P.underlying t = some .bool → Ty P t [.lit (.bool b)]
  | int {t : TypeId} {k : IntKind} (n : Int) : P.underlying t = some (.int k) → (Lit.int k n).wf = true → Ty P t [.lit (.int k n)]
  | str {t : TypeId} (s : ByteArray) : P.underlying t = some .string → s.size ≤ reachBytes → Ty P t [.lit (.string s)]
  | sl {t e : TypeId} (xs : List (List PV)) : P.underlying t = some (.slice e) → xs.length * P.bytesOf e ≤ reachBytes → (∀ r, r ∈ xs → Ty P e r) → Ty P t [.sl xs]
  | struct {t : TypeId} {fs : Array Field} (pss : List (List PV)) : P.underlying t = some (.struct fs) → pss.length = fs.size → (∀ (i : Nat) (f : Field) (p : List PV), fs[i]? = some f → pss[i]? = some p → Ty P f.type p) → Ty P t pss.flatten
/-- Fields one behind the other. -/
def Tiles (P : Program) : List Field → Nat → Nat → Prop
  | [], a, b => a = b
  | f :: fs, a, b => f.offset = a ∧ Tiles P fs (a + P.cellsOf f.type) b
/-- Types whose parts are among them. -/
def Closed (P : Program) (C : TypeId → Prop) : Prop := ∀ t, C t → P.underlying t = some .bool ∨ (∃ k, P.underlying t = some (.int k)) ∨ P.underlying t = some .string ∨ (∃ e, P.underlying t = some (.slice e) ∧ C e ∧ 0 < P.cellsOf e) ∨
  ∃ fs, P.underlying t = some (.struct fs) ∧ (∀ f, f ∈ fs.toList → C f.type) ∧ Tiles P fs.toList 0 (P.cellsOf t)
/-- Cells stand for pure values. -/
def RepCs (w : World) (cs : List Value) (ps : List PV) : Prop := cs.length = ps.length ∧ ∀ (i : Nat) v p, cs[i]? = some v → ps[i]? = some p → RepP (fun b o => b < w.heap.size) w v p ∧ v.oneCell' = true
theorem RepCs.app {w : World} {cs cs' : List Value} {ps ps' : List PV} (h : RepCs w cs ps) (h' : RepCs w cs' ps') : RepCs w (cs ++ cs') (ps ++ ps') := by
  refine ⟨by rw [List.length_append, List.length_append, h.1, h'.1], fun i v p hv hp => ?_⟩
  by_cases hi : i < cs.length
  · rw [List.getElem?_append_left hi] at hv
    rw [List.getElem?_append_left (by rw [← h.1]; exact hi)] at hp
    exact h.2 i v p hv hp
  · rw [List.getElem?_append_right (by omega)] at hv
    rw [List.getElem?_append_right (by rw [← h.1]; omega), ← h.1] at hp
    exact h'.2 _ v p hv hp
theorem RepCs.one {w : World} {v : Value} {p : PV} (h : RepP (fun b o => b < w.heap.size) w v p) (ho : v.oneCell' = true) : RepCs w [v] [p] := by
  refine ⟨rfl, fun i u q hu hq => ?_⟩
  have hi : i = 0 := by have := (List.getElem?_eq_some_iff.1 hu).1; simpa using this
  subst hi
  cases hu
  cases hq
  exact ⟨h, ho⟩
section
variable {H : Type} {enc : TypeId × Value → H} {P : Program} {C : TypeId → Prop} {w : World}
theorem weightsAll_mem {e : TypeId} : ∀ {l : List (DataW H)} {d : DataW H} {n : Nat}, d ∈ l → n ∈ d.weights P e → n ∈ DataW.weightsAll P e l
  | [], _, _, h, _ => by simp at h
  | a :: l, d, n, h, hn => by
    unfold DataW.weightsAll
    rcases List.mem_cons.1 h with rfl | h
    · exact List.mem_append_left _ hn
    · exact List.mem_append_right _ (weightsAll_mem h hn)
theorem weightsEach_mem : ∀ {ts : List TypeId} {l : List (DataW H)} {i : Nat} {t : TypeId} {d : DataW H} {n : Nat}, ts[i]? = some t → l[i]? = some d → n ∈ d.weights P t → n ∈ DataW.weightsEach P ts l
  | [], _, i, _, _, _, h, _, _ => by simp at h
  | _ :: _, [], i, _, _, _, _, h, _ => by simp at h
  | a :: ts, b :: l, 0, t, d, n, h, h', hn => by
    simp at h h'
    subst h h'
    unfold DataW.weightsEach
    exact List.mem_append_left _ hn
  | a :: ts, b :: l, i + 1, t, d, n, h, h', hn => by
    unfold DataW.weightsEach
    exact List.mem_append_right _ (weightsEach_mem (by simpa using h) (by simpa using h') hn)
theorem open_fields {n : Nat} (ih : ∀ t cs x, C t → DataW.trod enc P w 0 (fun _ => true) true n t cs = some x → (∀ m, m ∈ x.1.weights P t → m ≤ reachBytes) → ∃ ps, Ty P t ps ∧ RepCs w cs ps) (cs : List Value) :
    ∀ (fs : List Field) (a : Nat), (∀ f, f ∈ fs → C f.type) → Tiles P fs a cs.length → (∀ f, f ∈ fs → ∃ x, DataW.trod enc P w 0 (fun _ => true) true n f.type ((cs.drop f.offset).take (P.cellsOf f.type)) = some x ∧ ∀ m, m ∈ x.1.weights P f.type → m ≤ reachBytes) →
    a ≤ cs.length → ∃ pss : List (List PV), pss.length = fs.length ∧ (∀ (i : Nat) (f : Field) (p : List PV), fs[i]? = some f → pss[i]? = some p → Ty P f.type p) ∧ RepCs w (cs.drop a) pss.flatten
  | [], a, _, ht, _, ha => by
    have : a = cs.length := ht
    refine ⟨[], rfl, fun i f p h => by simp at h, ?_⟩
    rw [this, List.drop_length]
    exact ⟨rfl, fun i v p h => by simp at h⟩
  | f :: fs, a, hC, ht, hx, ha => by
    obtain ⟨ho, ht⟩ := ht
    obtain ⟨x, hx0, hx1⟩ := hx f (List.mem_cons_self ..)
    rw [ho] at hx0
    obtain ⟨p, hp, hr⟩ := ih _ _ _ (hC f (List.mem_cons_self ..)) hx0 hx1
    have hle : ∀ (fs : List Field) (a : Nat), Tiles P fs a cs.length → a ≤ cs.length := by
      intro fs
      induction fs with
      | nil => intro a h; have : a = cs.length := h; omega
      | cons g gs ih => intro a h; have := ih _ h.2; omega
    obtain ⟨pss, h1, h2, h3⟩ := open_fields ih cs fs (a + P.cellsOf f.type) (fun g hg => hC g (List.mem_cons_of_mem _ hg)) ht (fun g hg => hx g (List.mem_cons_of_mem _ hg)) (hle _ _ ht)
    refine ⟨p :: pss, by simp [h1], fun i g q hg hq => ?_, ?_⟩
    · cases i with
      | zero => simp at hg hq; subst hg hq; exact hp
      | succ i => exact h2 i g q (by simpa using hg) (by simpa using hq)
    · have e : cs.drop a = (cs.drop a).take (P.cellsOf f.type) ++ cs.drop (a + P.cellsOf f.type) := by
        rw [← List.drop_drop, List.take_append_drop]
      rw [e, List.flatten_cons]
      exact hr.app h3
theorem open_cells (hC : Closed P C) : ∀ (fuel : Nat) (t : TypeId) (cs : List Value) (x : DataW H × List MemPlace), C t → DataW.trod enc P w 0 (fun _ => true) true fuel t cs = some x → (∀ m, m ∈ x.1.weights P t → m ≤ reachBytes) → ∃ ps, Ty P t ps ∧ RepCs w cs ps
  | 0, t, cs, x, _, h, _ => by simp [DataW.trod] at h
  | fuel + 1, t, cs, x, ht, h, hwt => by
    rcases hC t ht with hu | ⟨k, hu⟩ | hu | ⟨e, hu, he, hpos⟩ | ⟨fs, hu, hfs, htl⟩
    · obtain ⟨b, rfl, _⟩ := DataW.trod_bool hu h
      exact ⟨_, .bool b hu, RepCs.one (.lit _ rfl) rfl⟩
    · obtain ⟨z, rfl, _, hz⟩ := DataW.trod_int hu h
      exact ⟨_, .int z hu hz, RepCs.one (.lit _ rfl) rfl⟩
    · obtain ⟨s, rfl, rfl, hs⟩ := DataW.trod_string hu h
      have hs' : s.size ≤ reachBytes := hwt _ (by simp only [DataW.weights, List.mem_singleton]; rfl)
      exact ⟨_, .str s hu hs', RepCs.one (.lit _ rfl) rfl⟩
    · rcases DataW.trod_slice hu h with ⟨rfl, _⟩ | ⟨a, len, cap, elems, rest, n, hn, rfl, rfl, hb, hl, hm, hel, hall, hsp, _⟩
      · exact ⟨_, .sl [] hu (by simp) (by simp), RepCs.one (.nil' _) rfl⟩
      · obtain rfl : fuel = n := by omega
        have hwl : (DataW.slice (elems.map (·.1)) (rest.map (·.1))).weights P t = ((elems.map (·.1)).length + (rest.map (·.1)).length) * P.bytesOf e :: (DataW.weightsAll P e (elems.map (·.1)) ++ DataW.weightsAll P e (rest.map (·.1))) := by
          simp only [DataW.weights, hu]
        have hwt : ∀ m, m ∈ (DataW.slice (elems.map (·.1)) (rest.map (·.1))).weights P t → m ≤ reachBytes := hwt
        rw [hwl] at hwt
        have hw1 : len * P.bytesOf e ≤ reachBytes := by
          have := hwt _ (List.mem_cons_self ..)
          rw [List.length_map, hel] at this
          exact Nat.le_trans (Nat.mul_le_mul_right _ (by omega)) this
        have hw2 : ∀ (i : Nat) (y : DataW H × List MemPlace), elems[i]? = some y → ∀ m, m ∈ y.1.weights P e → m ≤ reachBytes := fun i y hy m hm =>
          hwt m (List.mem_cons_of_mem _ (List.mem_append_left _ (weightsAll_mem (List.mem_map_of_mem (List.mem_of_getElem? hy)) hm)))
        by_cases hc0 : cap = 0
        · subst hc0
          obtain rfl : len = 0 := by omega
          exact ⟨_, .sl [] hu (by simp) (by simp), RepCs.one (.nil' _) rfl⟩
        · -- some cell is read: the address is a plain one
          have hspot : a.spot = none := by
            have hany : ∃ cs', w.cells? 0 a (P.cellsOf e) = some cs' := by
              by_cases hl0 : 0 < len
              · have h0 := hall 0 hl0
                rw [List.getElem?_eq_getElem (by omega)] at h0
                obtain ⟨cs', c1, _⟩ := Option.bind_eq_some_iff.1 h0
                exact ⟨cs', by simpa [Addr.add] using c1⟩
              · obtain ⟨r1, r2⟩ := hsp rfl
                have h0 := r2 0 (by omega)
                rw [List.getElem?_eq_getElem (by omega)] at h0
                obtain ⟨cs', c1, _⟩ := Option.bind_eq_some_iff.1 h0
                obtain rfl : len = 0 := by omega
                exact ⟨cs', by simpa [Addr.add] using c1⟩
            obtain ⟨cs', c1⟩ := hany
            obtain ⟨_, hlen, hcell⟩ := World.cells?_some c1
            have h0 := hcell 0 hpos
            rw [List.getElem?_eq_getElem (by omega)] at h0
            cases hs : a.spot with
            | none => rfl
            | some s =>
              exfalso
              have : (a.add 0) = a := by simp [Addr.add]
              rw [this] at h0
              unfold World.cell? at h0
              rw [hs] at h0
              split at h0 <;> simp at h0
          obtain ⟨b, off, s⟩ := a
          have hspot : s = none := hspot
          subst hspot
          have each : ∀ i, i < len → ∃ q : List PV × List Value, Ty P e q.1 ∧ RepCs w q.2 q.1 ∧ q.2.length = P.cellsOf e ∧ ∀ j, j < P.cellsOf e → w.cell? ⟨b, off + i * P.cellsOf e + j, none⟩ = q.2[j]? := fun i hi => by
            have h0 := hall i hi
            rw [List.getElem?_eq_getElem (by omega)] at h0
            obtain ⟨cs', c1, c2⟩ := Option.bind_eq_some_iff.1 h0
            obtain ⟨ps, p1, p2⟩ := open_cells hC fuel e cs' _ he c2 (hw2 i _ (List.getElem?_eq_getElem (by omega)))
            obtain ⟨_, hlen, hcell⟩ := World.cells?_some c1
            refine ⟨(ps, cs'), p1, p2, hlen, fun j hj => ?_⟩
            have := hcell j hj
            rw [add_add, Addr.add_lit] at this
            rw [Nat.add_assoc]
            exact this
          obtain ⟨R, hR⟩ := choose_lt each
          have hat : ∀ (i : Nat) r, ((List.range len).map fun i => (R i).1)[i]? = some r → i < len ∧ r = (R i).1 := fun i r hr => by
            rw [List.getElem?_map] at hr
            obtain ⟨z, hz, rfl⟩ := Option.map_eq_some_iff.1 hr
            obtain ⟨hlt, rfl⟩ := List.getElem?_eq_some_iff.1 hz
            rw [List.length_range] at hlt
            exact ⟨hlt, by simp⟩
          have hmem : ∀ r, r ∈ ((List.range len).map fun i => (R i).1) → ∃ i, i < len ∧ r = (R i).1 := fun r hr => by
            obtain ⟨i, hi⟩ := List.mem_iff_getElem?.1 hr
            exact ⟨i, hat i r hi⟩
          have hcj : ∀ i j, i < len → j < P.cellsOf e → ∃ v, (R i).2[j]? = some v := fun i j hi hj => ⟨_, List.getElem?_eq_getElem (by rw [(hR i hi).2.2.1]; exact hj)⟩
          have hpj : ∀ i, i < len → (R i).1.length = P.cellsOf e := fun i hi => by rw [← (hR i hi).2.1.1]; exact (hR i hi).2.2.1
          refine ⟨[.sl ((List.range len).map fun i => (R i).1)], .sl _ hu (by simpa using hw1) (fun r hr => ?_), RepCs.one ?_ rfl⟩
          · obtain ⟨i, hi, rfl⟩ := hmem r hr
            exact (hR i hi).1
          · have := RepP.sl (S := fun b o => b < w.heap.size) (w := w) b off (P.cellsOf e) cap ((List.range len).map fun i => (R i).1) (fun i j => ((R i).2[j]?).getD undef) (by simpa using hl) (fun r hr => by
              obtain ⟨i, hi, rfl⟩ := hmem r hr
              exact hpj i hi) (fun i j hi hj => by
              simp at hi
              obtain ⟨v, hv⟩ := hcj i j hi hj
              exact cell_lt (((hR i hi).2.2.2 j hj).trans hv)) (fun i j hi hj => by
              simp at hi
              obtain ⟨v, hv⟩ := hcj i j hi hj
              rw [(hR i hi).2.2.2 j hj, hv]
              have hp : ∃ p, (R i).1[j]? = some p := ⟨_, List.getElem?_eq_getElem (by rw [hpj i hi]; exact hj)⟩
              obtain ⟨p, hp⟩ := hp
              exact ⟨rfl, ((hR i hi).2.1.2 j v p hv hp).2⟩) (fun i j r x hr hx => by
              obtain ⟨hi, rfl⟩ := hat i r hr
              have hj : j < P.cellsOf e := by rw [← hpj i hi]; exact (List.getElem?_eq_some_iff.1 hx).1
              obtain ⟨v, hv⟩ := hcj i j hi hj
              rw [hv]
              exact ((hR i hi).2.1.2 j v x hv hx).1)
            simpa using this
    · obtain ⟨xs, n, hn, rfl, hlen, hxl, hf⟩ := DataW.trod_struct hu h
      obtain rfl : fuel = n := by omega
      obtain ⟨pss, h1, h2, h3⟩ := open_fields (open_cells hC fuel) cs fs.toList 0 hfs (by rw [hlen]; exact htl) (fun f hf' => by
        obtain ⟨i, hi⟩ := List.mem_iff_getElem?.1 hf'
        have hi' : fs[i]? = some f := by simpa using hi
        have hlt : i < fs.size := (Array.getElem?_eq_some_iff.1 hi').1
        have hxi := List.getElem?_eq_getElem (l := xs) (i := i) (by omega)
        refine ⟨_, (hf i f hi').trans hxi, fun m hm => hwt m ?_⟩
        have hwl : (DataW.agg (xs.map (·.1))).weights P t = DataW.weightsEach P (fs.toList.map (·.type)) (xs.map (·.1)) := by
          simp only [DataW.weights, hu]
        show m ∈ (DataW.agg (xs.map (·.1))).weights P t
        rw [hwl]
        exact weightsEach_mem (i := i) (by rw [List.getElem?_map, hi]; rfl) (by rw [List.getElem?_map, hxi]; rfl) hm) (Nat.zero_le _)
      rw [List.drop_zero] at h3
      exact ⟨_, .struct pss hu (by simpa using h1) (fun i f p hf' hp => h2 i f p (by simpa using hf') hp), h3⟩
/-- A struct that is handed in. -/
theorem open_struct (hC : Closed P C) {t : TypeId} {fs : Array Field} (ht : C t) (hu : P.underlying t = some (.struct fs)) {r : Reach} {b0 : Nat} {v : Value} {d : DataW H} {p : List MemPlace} (hv : Value.okWide P w r b0 t v) (h : DataW.Trod enc P w 0 (fun _ => true) true t v d p) (hwt : ∀ m, m ∈ d.weights P t → m ≤ reachBytes) :
    ∃ ps, Ty P t ps ∧ RepP (fun b o => b < w.heap.size) w v (.agg ps) := by
  obtain ⟨cs, rfl, _⟩ := okWide_struct hu hv
  obtain ⟨fuel, hf⟩ := h
  obtain ⟨ps, h1, h2⟩ := open_cells hC fuel t _ _ ht hf hwt
  have hcs : (Value.agg cs).cells.toList = cs.toList := rfl
  rw [hcs] at h2
  refine ⟨ps, h1, .agg cs ps (by simpa using h2.1) (fun u hu => ?_) (fun i u x hx hp => (h2.2 i u x (by simpa using hx) hp).1)⟩
  obtain ⟨i, hi⟩ := List.mem_iff_getElem?.1 (Array.mem_toList_iff.2 hu)
  have hlt : i < ps.length := by rw [← h2.1]; exact (List.getElem?_eq_some_iff.1 hi).1
  exact (h2.2 i u _ hi (List.getElem?_eq_getElem hlt)).2
/-- A list that is handed in. -/
theorem open_list (hC : Closed P C) {t e : TypeId} (ht : C t) (hu : P.underlying t = some (.slice e)) {r : Reach} {b0 : Nat} {v : Value} {d : DataW H} {p : List MemPlace} (hv : Value.okWide P w r b0 t v) (h : DataW.Trod enc P w 0 (fun _ => true) true t v d p) (hwt : ∀ m, m ∈ d.weights P t → m ≤ reachBytes) :
    ∃ xs, xs.length * P.bytesOf e ≤ reachBytes ∧ (∀ r, r ∈ xs → Ty P e r) ∧ RepP (fun b o => b < w.heap.size) w v (.sl xs) := by
  have hcells : v.cells.toList = [v] := by
    unfold Value.okWide at hv
    rw [hu] at hv
    cases v <;> simp_all [Value.cells, Cell.okWide, Cell.ok]
  obtain ⟨fuel, hf⟩ := h
  obtain ⟨ps, h1, h2⟩ := open_cells hC fuel t _ _ ht hf hwt
  rw [hcells] at h2
  cases h1 with
  | sl xs hu' hl hx =>
    rw [hu] at hu'
    cases hu'
    exact ⟨xs, hl, hx, (h2.2 0 _ _ rfl rfl).1⟩
  | bool b hu' => rw [hu] at hu'; cases hu'
  | int b hu' => rw [hu] at hu'; cases hu'
  | str b hu' => rw [hu] at hu'; cases hu'
  | struct b hu' => rw [hu] at hu'; cases hu'
end
/-! ### reading the cells of a type -/
section
variable {P : Program} {t : TypeId} {ps : List PV}
theorem ty_bool (hu : P.underlying t = some .bool) (h : Ty P t ps) : ∃ b, ps = [.lit (.bool b)] := by
  cases h with
  | bool b h' => exact ⟨b, rfl⟩
  | int n h' => rw [hu] at h'; cases h'
  | str s h' => rw [hu] at h'; cases h'
  | sl xs h' => rw [hu] at h'; cases h'
  | struct pss h' => rw [hu] at h'; cases h'
theorem ty_int {k : IntKind} (hu : P.underlying t = some (.int k)) (h : Ty P t ps) : ∃ n, ps = [.lit (.int k n)] ∧ (Lit.int k n).wf = true := by
  cases h with
  | int n h' hw => rw [hu] at h'; cases h'; exact ⟨n, rfl, hw⟩
  | bool b h' => rw [hu] at h'; cases h'
  | str s h' => rw [hu] at h'; cases h'
  | sl xs h' => rw [hu] at h'; cases h'
  | struct pss h' => rw [hu] at h'; cases h'
theorem ty_str (hu : P.underlying t = some .string) (h : Ty P t ps) : ∃ s : ByteArray, ps = [.lit (.string s)] ∧ s.size ≤ reachBytes := by
  cases h with
  | str s h' hs => exact ⟨s, rfl, hs⟩
  | bool b h' => rw [hu] at h'; cases h'
  | int n h' => rw [hu] at h'; cases h'
  | sl xs h' => rw [hu] at h'; cases h'
  | struct pss h' => rw [hu] at h'; cases h'
theorem ty_sl {e : TypeId} (hu : P.underlying t = some (.slice e)) (h : Ty P t ps) : ∃ xs, ps = [.sl xs] ∧ xs.length * P.bytesOf e ≤ reachBytes ∧ ∀ r, r ∈ xs → Ty P e r := by
  cases h with
  | sl xs h' hl hx => rw [hu] at h'; cases h'; exact ⟨xs, rfl, hl, hx⟩
  | bool b h' => rw [hu] at h'; cases h'
  | int n h' => rw [hu] at h'; cases h'
  | str s h' => rw [hu] at h'; cases h'
  | struct pss h' => rw [hu] at h'; cases h'
theorem ty_struct {fs : Array Field} (hu : P.underlying t = some (.struct fs)) (h : Ty P t ps) : ∃ pss : List (List PV), ps = pss.flatten ∧ pss.length = fs.size ∧ ∀ (i : Nat) (f : Field) (p : List PV), fs[i]? = some f → pss[i]? = some p → Ty P f.type p := by
  cases h with
  | struct pss h' hl hx => rw [hu] at h'; cases h'; exact ⟨pss, rfl, hl, hx⟩
  | bool b h' => rw [hu] at h'; cases h'
  | int n h' => rw [hu] at h'; cases h'
  | str s h' => rw [hu] at h'; cases h'
  | sl xs h' => rw [hu] at h'; cases h'
end
theorem map_of {α : Type} {E : α → List PV} {Q : α → Prop} : ∀ {xs : List (List PV)}, (∀ r, r ∈ xs → ∃ a, r = E a ∧ Q a) → ∃ l : List α, xs = l.map E ∧ ∀ a, a ∈ l → Q a
  | [], _ => ⟨[], rfl, fun a h => by simp at h⟩
  | r :: xs, h => by
    obtain ⟨a, rfl, ha⟩ := h r (List.mem_cons_self ..)
    obtain ⟨l, rfl, hl⟩ := map_of (fun q hq => h q (List.mem_cons_of_mem _ hq))
    refine ⟨a :: l, rfl, fun b hb => ?_⟩
    rcases List.mem_cons.1 hb with rfl | hb
    · exact ha
    · exact hl b hb
end Go.Proofs.YtbjfmkmaghapgaaGreatDoor.B

set_option linter.unusedVariables false
set_option linter.unusedSimpArgs false
namespace Go.Proofs.YtbjfmkmaghapgaaGreatDoor.B
open Go.RowKit
def types : List TypeId := [3, 2, 4, 9, 39, 42, 40, 36, 32, 165, 23, 167, 24, 26, 65, 22, 44, 27, 29, 54]
def CT (t : TypeId) : Prop := t ∈ types
/-- In kind order: a number, a string, a list, a struct. -/
theorem closed_struct {t : TypeId} {fs : Array Field} (hu : Tryz.prog.underlying t = some (.struct fs)) (h1 : (fs.toList.all fun f => types.contains f.type) = true) (h2 : Tiles Tryz.prog fs.toList 0 (Tryz.prog.cellsOf t)) :
    ∃ fs, Tryz.prog.underlying t = some (.struct fs) ∧ (∀ f, f ∈ fs.toList → CT f.type) ∧ Tiles Tryz.prog fs.toList 0 (Tryz.prog.cellsOf t) :=
  ⟨fs, hu, fun f hf => by have := List.all_eq_true.1 h1 f hf; simpa [CT] using this, h2⟩
theorem closed_slice {t e : TypeId} (hu : Tryz.prog.underlying t = some (.slice e)) (h1 : types.contains e = true) (h2 : decide (0 < Tryz.prog.cellsOf e) = true) : ∃ e, Tryz.prog.underlying t = some (.slice e) ∧ CT e ∧ 0 < Tryz.prog.cellsOf e :=
  ⟨e, hu, by simpa [CT] using h1, of_decide_eq_true h2⟩
set_option maxRecDepth 100000 in
set_option maxHeartbeats 2000000 in
theorem closed : Closed Tryz.prog CT := by
  intro t ht
  unfold CT types at ht
  simp only [List.mem_cons, List.not_mem_nil, or_false] at ht
  rcases ht with rfl | rfl | rfl | rfl | rfl | rfl | rfl | rfl | rfl | rfl | rfl | rfl | rfl | rfl | rfl | rfl | rfl | rfl | rfl | rfl
  · exact .inr (.inl ⟨_, Tryz.underlying3⟩)
  · exact .inr (.inl ⟨_, Tryz.underlying2⟩)
  · exact .inl Tryz.underlying4
  · exact .inr (.inr (.inl Tryz.underlying9))
  · exact .inr (.inr (.inr (.inl (closed_slice Tryz.underlying39 (by kernel_rfl) (by kernel_rfl)))))
  · exact .inr (.inr (.inr (.inr (closed_struct Tryz.underlying42 (by kernel_rfl) ⟨by kernel_rfl, by kernel_rfl, by kernel_rfl, by kernel_rfl, by kernel_rfl, show (_ : Nat) = _ by kernel_rfl⟩))))
  · exact .inr (.inr (.inr (.inl (closed_slice Tryz.underlying40 (by kernel_rfl) (by kernel_rfl)))))
  · exact .inr (.inr (.inr (.inr (closed_struct Tryz.underlying36 (by kernel_rfl) ⟨by kernel_rfl, by kernel_rfl, by kernel_rfl, by kernel_rfl, by kernel_rfl, show (_ : Nat) = _ by kernel_rfl⟩))))
  · exact .inr (.inr (.inr (.inl (closed_slice Tryz.underlying32 (by kernel_rfl) (by kernel_rfl)))))
  · exact .inr (.inr (.inr (.inr (closed_struct Tryz.underlying165 (by kernel_rfl) ⟨by kernel_rfl, by kernel_rfl, show (_ : Nat) = _ by kernel_rfl⟩))))
  · exact .inr (.inr (.inr (.inl (closed_slice Tryz.underlying23 (by kernel_rfl) (by kernel_rfl)))))
  · exact .inr (.inr (.inr (.inr (closed_struct Tryz.underlying167 (by kernel_rfl) ⟨by kernel_rfl, by kernel_rfl, show (_ : Nat) = _ by kernel_rfl⟩))))
  · exact .inr (.inr (.inr (.inl (closed_slice Tryz.underlying24 (by kernel_rfl) (by kernel_rfl)))))
  · exact .inr (.inr (.inr (.inr (closed_struct Tryz.underlying26 (by kernel_rfl) ⟨by kernel_rfl, by kernel_rfl, by kernel_rfl, by kernel_rfl, by kernel_rfl, by kernel_rfl, by kernel_rfl, by kernel_rfl, by kernel_rfl, show (_ : Nat) = _ by kernel_rfl⟩))))
  · exact .inr (.inr (.inr (.inr (closed_struct Tryz.underlying65 (by kernel_rfl) ⟨by kernel_rfl, by kernel_rfl, by kernel_rfl, by kernel_rfl, show (_ : Nat) = _ by kernel_rfl⟩))))
  · exact .inr (.inr (.inr (.inl (closed_slice Tryz.underlying22 (by kernel_rfl) (by kernel_rfl)))))
  · exact .inr (.inr (.inr (.inr (closed_struct Tryz.underlying44 (by kernel_rfl) ⟨by kernel_rfl, by kernel_rfl, by kernel_rfl, by kernel_rfl, by kernel_rfl, show (_ : Nat) = _ by kernel_rfl⟩))))
  · exact .inr (.inr (.inr (.inl (closed_slice Tryz.underlying27 (by kernel_rfl) (by kernel_rfl)))))
  · exact .inr (.inr (.inr (.inr (closed_struct Tryz.underlying29 (by kernel_rfl) ⟨by kernel_rfl, by kernel_rfl, by kernel_rfl, by kernel_rfl, by kernel_rfl, by kernel_rfl, show (_ : Nat) = _ by kernel_rfl⟩))))
  · exact .inr (.inr (.inr (.inr (closed_struct Tryz.underlying54 (by kernel_rfl) ⟨by kernel_rfl, by kernel_rfl, by kernel_rfl, show (_ : Nat) = _ by kernel_rfl⟩))))
/-! ### Json -/
/-- As the reach bounds it. -/
inductive OkJ : J → Prop
  | mk (k n : Int) (t : ByteArray) (ks : List ByteArray) (is : List J) : t.size ≤ 140737488351232 → ks.length ≤ 140737488351232 → (∀ s, s ∈ ks → s.size ≤ 140737488351232) → is.length ≤ 140737488351232 → (∀ x, x ∈ is → OkJ x) → OkJ (.mk k n t ks is)
theorem reach_n : reachBytes = 140737488351232 := rfl
theorem len_reach {n b : Nat} (hb : 0 < b) (h : n * b ≤ reachBytes) : n ≤ 140737488351232 := Nat.le_trans (Nat.le_mul_of_pos_right _ hb) h
theorem ty_strs {ps : List PV} (h : Ty Tryz.prog 39 ps) : ∃ ks : List ByteArray, ps = [.sl (ks.map encS)] ∧ ks.length ≤ 140737488351232 ∧ ∀ s, s ∈ ks → s.size ≤ 140737488351232 := by
  obtain ⟨xs, rfl, hl, hx⟩ := ty_sl Tryz.underlying39 h
  obtain ⟨ks, rfl, hk⟩ := map_of (E := encS) (Q := fun s => s.size ≤ 140737488351232) (xs := xs) (fun r hr => by
    obtain ⟨s, rfl, hs⟩ := ty_str Tryz.underlying9 (hx r hr)
    exact ⟨s, rfl, hs⟩)
  exact ⟨ks, rfl, by simpa using len_reach (of_decide_eq_true (show decide (0 < Tryz.prog.bytesOf 9) = true by kernel_rfl)) hl, hk⟩
theorem ty_json : ∀ {t : TypeId} {ps : List PV}, Ty Tryz.prog t ps → (t = 42 → ∃ j, ps = encJ j ∧ OkJ j) ∧ (t = 40 → ∃ is : List J, ps = [.sl (is.map encJ)] ∧ is.length ≤ 140737488351232 ∧ ∀ x, x ∈ is → OkJ x) := by
  intro t ps h
  induction h with
  | bool b hu => exact ⟨fun e => (by subst e; rw [Tryz.underlying42] at hu; cases hu), fun e => (by subst e; rw [Tryz.underlying40] at hu; cases hu)⟩
  | int n hu => exact ⟨fun e => (by subst e; rw [Tryz.underlying42] at hu; cases hu), fun e => (by subst e; rw [Tryz.underlying40] at hu; cases hu)⟩
  | str s hu => exact ⟨fun e => (by subst e; rw [Tryz.underlying42] at hu; cases hu), fun e => (by subst e; rw [Tryz.underlying40] at hu; cases hu)⟩
  | sl xs hu hl hx ih =>
    refine ⟨fun e => (by subst e; rw [Tryz.underlying42] at hu; cases hu), fun e => ?_⟩
    subst e
    rw [Tryz.underlying40] at hu
    cases hu
    obtain ⟨is, rfl, hi⟩ := map_of (E := encJ) (Q := OkJ) (xs := xs) (fun r hr => (ih r hr).1 rfl)
    exact ⟨is, rfl, by simpa using len_reach (of_decide_eq_true (show decide (0 < Tryz.prog.bytesOf 42) = true by kernel_rfl)) hl, hi⟩
  | struct pss hu hl hx ih =>
    refine ⟨fun e => ?_, fun e => (by subst e; rw [Tryz.underlying40] at hu; cases hu)⟩
    subst e
    rw [Tryz.underlying42] at hu
    cases hu
    match pss, hl with
    | [p0, p1, p2, p3, p4], _ =>
      obtain ⟨k, rfl, _⟩ := ty_int Tryz.underlying3 (hx 0 _ p0 rfl rfl)
      obtain ⟨n, rfl, _⟩ := ty_int Tryz.underlying2 (hx 1 _ p1 rfl rfl)
      obtain ⟨s, rfl, hs⟩ := ty_str Tryz.underlying9 (hx 2 _ p2 rfl rfl)
      obtain ⟨ks, rfl, hk1, hk2⟩ := ty_strs (hx 3 _ p3 rfl rfl)
      obtain ⟨is, rfl, hi1, hi2⟩ := (ih 4 _ p4 rfl rfl).2 rfl
      exact ⟨.mk k n s ks is, by simp [encJ, encJs_map], .mk k n s ks is hs hk1 hk2 hi1 hi2⟩
end Go.Proofs.YtbjfmkmaghapgaaGreatDoor.B

set_option linter.unusedVariables false
set_option linter.unusedSimpArgs false
namespace Go.Proofs.YtbjfmkmaghapgaaGreatDoor.B
open Go.RowKit
/-! ### rules, entries, states -/
abbrev R47 : Nat := 140737488351232
theorem ty_rule {ps : List PV} (h : Ty Tryz.prog 36 ps) : ∃ r : Rl, ps = encR r ∧ r.entity.size ≤ 140737488351232 ∧ r.reason.size ≤ 140737488351232 ∧ r.room.size ≤ 140737488351232 ∧ r.key.size ≤ 140737488351232 := by
  obtain ⟨pss, rfl, hl, hx⟩ := ty_struct Tryz.underlying36 h
  match pss, hl with
  | [p0, p1, p2, p3, p4], _ =>
    obtain ⟨k, rfl, _⟩ := ty_int Tryz.underlying3 (hx 0 _ p0 rfl rfl)
    obtain ⟨s1, rfl, h1⟩ := ty_str Tryz.underlying9 (hx 1 _ p1 rfl rfl)
    obtain ⟨s2, rfl, h2⟩ := ty_str Tryz.underlying9 (hx 2 _ p2 rfl rfl)
    obtain ⟨s3, rfl, h3⟩ := ty_str Tryz.underlying9 (hx 3 _ p3 rfl rfl)
    obtain ⟨s4, rfl, h4⟩ := ty_str Tryz.underlying9 (hx 4 _ p4 rfl rfl)
    exact ⟨⟨k, s1, s2, s3, s4⟩, rfl, h1, h2, h3, h4⟩
theorem ty_ruleBody {ps : List PV} (h : Ty Tryz.prog 54 ps) : ∃ r : RB, ps = encRB r ∧ r.entity.size ≤ 140737488351232 ∧ r.recommendation.size ≤ 140737488351232 ∧ r.reason.size ≤ 140737488351232 := by
  obtain ⟨pss, rfl, hl, hx⟩ := ty_struct Tryz.underlying54 h
  match pss, hl with
  | [p0, p1, p2], _ =>
    obtain ⟨s0, rfl, h0⟩ := ty_str Tryz.underlying9 (hx 0 _ p0 rfl rfl)
    obtain ⟨s1, rfl, h1⟩ := ty_str Tryz.underlying9 (hx 1 _ p1 rfl rfl)
    obtain ⟨s2, rfl, h2⟩ := ty_str Tryz.underlying9 (hx 2 _ p2 rfl rfl)
    exact ⟨⟨s0, s1, s2⟩, rfl, h0, h1, h2⟩
theorem ty_entry {ps : List PV} (h : Ty Tryz.prog 44 ps) : ∃ e : En, ps = encEn e ∧ e.typ.size ≤ 140737488351232 ∧ e.key.size ≤ 140737488351232 ∧ e.id.size ≤ 140737488351232 ∧ e.by_.size ≤ 140737488351232 ∧ OkJ e.body := by
  obtain ⟨pss, rfl, hl, hx⟩ := ty_struct Tryz.underlying44 h
  match pss, hl with
  | [p0, p1, p2, p3, p4], _ =>
    obtain ⟨s0, rfl, h0⟩ := ty_str Tryz.underlying9 (hx 0 _ p0 rfl rfl)
    obtain ⟨s1, rfl, h1⟩ := ty_str Tryz.underlying9 (hx 1 _ p1 rfl rfl)
    obtain ⟨s2, rfl, h2⟩ := ty_str Tryz.underlying9 (hx 2 _ p2 rfl rfl)
    obtain ⟨s3, rfl, h3⟩ := ty_str Tryz.underlying9 (hx 3 _ p3 rfl rfl)
    obtain ⟨j, rfl, hj⟩ := (ty_json (hx 4 _ p4 rfl rfl)).1 rfl
    exact ⟨⟨s0, s1, s2, s3, j⟩, by simp [encEn], h0, h1, h2, h3, hj⟩
theorem ty_rules {xs : List (List PV)} (h : ∀ r, r ∈ xs → Ty Tryz.prog 36 r) : ∃ l : List Rl, xs = l.map encR ∧ ∀ r, r ∈ l → r.entity.size ≤ 140737488351232 ∧ r.reason.size ≤ 140737488351232 ∧ r.room.size ≤ 140737488351232 ∧ r.key.size ≤ 140737488351232 :=
  map_of (fun r hr => ty_rule (h r hr))
structure OkEn (e : En) : Prop where
  typ : e.typ.size ≤ 140737488351232
  key : e.key.size ≤ 140737488351232
  id : e.id.size ≤ 140737488351232
  by_ : e.by_.size ≤ 140737488351232
  body : OkJ e.body
theorem ty_entries {ps : List PV} (h : Ty Tryz.prog 27 ps) : ∃ l : List En, ps = [.sl (l.map encEn)] ∧ l.length ≤ 140737488351232 ∧ ∀ e, e ∈ l → OkEn e := by
  obtain ⟨xs, rfl, hl, hx⟩ := ty_sl Tryz.underlying27 h
  obtain ⟨l, rfl, hk⟩ := map_of (E := encEn) (Q := OkEn) (xs := xs) (fun r hr => by
    obtain ⟨e, rfl, h1, h2, h3, h4, h5⟩ := ty_entry (hx r hr)
    exact ⟨e, rfl, h1, h2, h3, h4, h5⟩)
  exact ⟨l, rfl, by simpa using len_reach (of_decide_eq_true (show decide (0 < Tryz.prog.bytesOf 44) = true by kernel_rfl)) hl, hk⟩
/-- A member of a room. -/
structure Mem where
  user : ByteArray
  membership : Int
  by_ : ByteArray
  id : ByteArray
def encMem (m : Mem) : List PV := [.lit (.string m.user), .lit (.int .i64 m.membership), .lit (.string m.by_), .lit (.string m.id)]
structure OkMem (m : Mem) : Prop where
  user : m.user.size ≤ 140737488351232
  by_ : m.by_.size ≤ 140737488351232
  id : m.id.size ≤ 140737488351232
theorem ty_members {ps : List PV} (h : Ty Tryz.prog 22 ps) : ∃ l : List Mem, ps = [.sl (l.map encMem)] ∧ l.length ≤ 140737488351232 ∧ ∀ e, e ∈ l → OkMem e := by
  obtain ⟨xs, rfl, hl, hx⟩ := ty_sl Tryz.underlying22 h
  obtain ⟨l, rfl, hk⟩ := map_of (E := encMem) (Q := OkMem) (xs := xs) (fun r hr => by
    obtain ⟨pss, rfl, hl, hx⟩ := ty_struct Tryz.underlying65 (hx r hr)
    match pss, hl with
    | [p0, p1, p2, p3], _ =>
      obtain ⟨s0, rfl, h0⟩ := ty_str Tryz.underlying9 (hx 0 _ p0 rfl rfl)
      obtain ⟨n, rfl, _⟩ := ty_int Tryz.underlying3 (hx 1 _ p1 rfl rfl)
      obtain ⟨s2, rfl, h2⟩ := ty_str Tryz.underlying9 (hx 2 _ p2 rfl rfl)
      obtain ⟨s3, rfl, h3⟩ := ty_str Tryz.underlying9 (hx 3 _ p3 rfl rfl)
      exact ⟨⟨s0, n, s2, s3⟩, rfl, h0, h2, h3⟩)
  exact ⟨l, rfl, by simpa using len_reach (of_decide_eq_true (show decide (0 < Tryz.prog.bytesOf 65) = true by kernel_rfl)) hl, hk⟩
theorem ty_pairs23 {ps : List PV} (h : Ty Tryz.prog 23 ps) : ∃ l : List (ByteArray × Int), ps = [.sl (l.map encE)] ∧ l.length ≤ 140737488351232 ∧ ∀ e, e ∈ l → e.1.size ≤ 140737488351232 := by
  obtain ⟨xs, rfl, hl, hx⟩ := ty_sl Tryz.underlying23 h
  obtain ⟨l, rfl, hk⟩ := map_of (E := encE) (Q := fun e => e.1.size ≤ 140737488351232) (xs := xs) (fun r hr => by
    obtain ⟨pss, rfl, hl, hx⟩ := ty_struct Tryz.underlying165 (hx r hr)
    match pss, hl with
    | [p0, p1], _ =>
      obtain ⟨s0, rfl, h0⟩ := ty_str Tryz.underlying9 (hx 0 _ p0 rfl rfl)
      obtain ⟨n, rfl, _⟩ := ty_int Tryz.underlying2 (hx 1 _ p1 rfl rfl)
      exact ⟨(s0, n), rfl, h0⟩)
  exact ⟨l, rfl, by simpa using len_reach (of_decide_eq_true (show decide (0 < Tryz.prog.bytesOf 165) = true by kernel_rfl)) hl, hk⟩
theorem ty_pairs24 {ps : List PV} (h : Ty Tryz.prog 24 ps) : ∃ l : List (ByteArray × Int), ps = [.sl (l.map encE)] ∧ l.length ≤ 140737488351232 ∧ ∀ e, e ∈ l → e.1.size ≤ 140737488351232 := by
  obtain ⟨xs, rfl, hl, hx⟩ := ty_sl Tryz.underlying24 h
  obtain ⟨l, rfl, hk⟩ := map_of (E := encE) (Q := fun e => e.1.size ≤ 140737488351232) (xs := xs) (fun r hr => by
    obtain ⟨pss, rfl, hl, hx⟩ := ty_struct Tryz.underlying167 (hx r hr)
    match pss, hl with
    | [p0, p1], _ =>
      obtain ⟨s0, rfl, h0⟩ := ty_str Tryz.underlying9 (hx 0 _ p0 rfl rfl)
      obtain ⟨n, rfl, _⟩ := ty_int Tryz.underlying2 (hx 1 _ p1 rfl rfl)
      exact ⟨(s0, n), rfl, h0⟩)
  exact ⟨l, rfl, by simpa using len_reach (of_decide_eq_true (show decide (0 < Tryz.prog.bytesOf 167) = true by kernel_rfl)) hl, hk⟩
/-- Levels, with bounds. -/
theorem ty_levels {ps : List PV} (h : Ty Tryz.prog 26 ps) : ∃ (l0 l1 : List (ByteArray × Int)) (a2 a3 a4 a5 a6 a7 a8 : Int), PV.agg ps = encLv (l0.map encE) (l1.map encE) a2 a3 a4 a5 a6 a7 a8 ∧ l0.length ≤ 140737488351232 ∧ l1.length ≤ 140737488351232 ∧ (∀ e, e ∈ l0 → e.1.size ≤ 140737488351232) ∧ ∀ e, e ∈ l1 → e.1.size ≤ 140737488351232 := by
  obtain ⟨pss, rfl, hl, hx⟩ := ty_struct Tryz.underlying26 h
  match pss, hl with
  | [p0, p1, p2, p3, p4, p5, p6, p7, p8], _ =>
    obtain ⟨l0, rfl, h0, g0⟩ := ty_pairs23 (hx 0 _ p0 rfl rfl)
    obtain ⟨l1, rfl, h1, g1⟩ := ty_pairs24 (hx 1 _ p1 rfl rfl)
    obtain ⟨a2, rfl, _⟩ := ty_int Tryz.underlying2 (hx 2 _ p2 rfl rfl)
    obtain ⟨a3, rfl, _⟩ := ty_int Tryz.underlying2 (hx 3 _ p3 rfl rfl)
    obtain ⟨a4, rfl, _⟩ := ty_int Tryz.underlying2 (hx 4 _ p4 rfl rfl)
    obtain ⟨a5, rfl, _⟩ := ty_int Tryz.underlying2 (hx 5 _ p5 rfl rfl)
    obtain ⟨a6, rfl, _⟩ := ty_int Tryz.underlying2 (hx 6 _ p6 rfl rfl)
    obtain ⟨a7, rfl, _⟩ := ty_int Tryz.underlying2 (hx 7 _ p7 rfl rfl)
    obtain ⟨a8, rfl, _⟩ := ty_int Tryz.underlying2 (hx 8 _ p8 rfl rfl)
    exact ⟨l0, l1, a2, a3, a4, a5, a6, a7, a8, rfl, h0, h1, g0, g1⟩
/-- A state of a room. -/
structure Stt where
  creator : ByteArray
  createID : ByteArray
  members : List Mem
  users : List (ByteArray × Int)
  events : List (ByteArray × Int)
  n1 : Int
  n2 : Int
  n3 : Int
  n4 : Int
  n5 : Int
  n6 : Int
  n7 : Int
  levelsID : ByteArray
  entries : List En
def encStt (s : Stt) : List PV := [.lit (.string s.creator), .lit (.string s.createID), .sl (s.members.map encMem), .sl (s.users.map encE), .sl (s.events.map encE), .lit (.int .i64 s.n1), .lit (.int .i64 s.n2), .lit (.int .i64 s.n3), .lit (.int .i64 s.n4), .lit (.int .i64 s.n5), .lit (.int .i64 s.n6), .lit (.int .i64 s.n7), .lit (.string s.levelsID), .sl (s.entries.map encEn)]
structure OkStt (s : Stt) : Prop where
  creator : s.creator.size ≤ 140737488351232
  createID : s.createID.size ≤ 140737488351232
  levelsID : s.levelsID.size ≤ 140737488351232
  members : s.members.length ≤ 140737488351232 ∧ ∀ m, m ∈ s.members → OkMem m
  users : s.users.length ≤ 140737488351232
  events : s.events.length ≤ 140737488351232
  entries : s.entries.length ≤ 140737488351232 ∧ ∀ e, e ∈ s.entries → OkEn e
theorem ty_state {ps : List PV} (h : Ty Tryz.prog 29 ps) : ∃ s : Stt, ps = encStt s ∧ OkStt s := by
  obtain ⟨pss, rfl, hl, hx⟩ := ty_struct Tryz.underlying29 h
  match pss, hl with
  | [p0, p1, p2, p3, p4, p5], _ =>
    obtain ⟨s0, rfl, h0⟩ := ty_str Tryz.underlying9 (hx 0 _ p0 rfl rfl)
    obtain ⟨s1, rfl, h1⟩ := ty_str Tryz.underlying9 (hx 1 _ p1 rfl rfl)
    obtain ⟨ms, rfl, hm⟩ := ty_members (hx 2 _ p2 rfl rfl)
    obtain ⟨l0, l1, a2, a3, a4, a5, a6, a7, a8, e, g0, g1, _⟩ := ty_levels (hx 3 _ p3 rfl rfl)
    cases e
    obtain ⟨s4, rfl, h4⟩ := ty_str Tryz.underlying9 (hx 4 _ p4 rfl rfl)
    obtain ⟨es, rfl, he⟩ := ty_entries (hx 5 _ p5 rfl rfl)
    exact ⟨⟨s0, s1, ms, l0, l1, a2, a3, a4, a5, a6, a7, a8, s4, es⟩, rfl, h0, h1, h4, hm, g0, g1, he⟩
end Go.Proofs.YtbjfmkmaghapgaaGreatDoor.B

set_option linter.unusedVariables false
set_option linter.unusedSimpArgs false
namespace Go.Proofs.YtbjfmkmaghapgaaGreatDoor.B
open Go.RowKit
mutual
/-- How many values, as far as most. -/
def nodesJ : J → Int → Int
  | .mk _ _ _ ks is, most => nodesL is most 1 + ks.length
def nodesL : List J → Int → Int → Int
  | [], _, n => n
  | j :: r, most, n => if n ≤ most then nodesL r most (n + nodesJ j (most - n)) else n
end
/-- So far. -/
structure NodeAt (is : List J) (most i n : Int) : Prop where
  lo : 0 ≤ i
  hi : i ≤ is.length
  pos : 1 ≤ n
  top : n ≤ 1000000000000000000
  out : nodesL is most 1 = nodesL (is.drop i.toNat) most n
theorem nodesL_pos : ∀ (is : List J) (most n : Int), (∀ x, x ∈ is → ∀ m, 1 ≤ nodesJ x m) → 1 ≤ n → 1 ≤ nodesL is most n
  | [], _, n, _, h => h
  | j :: r, most, n, hx, h => by
    unfold nodesL
    split
    · exact nodesL_pos r most _ (fun x hx' m => hx x (List.mem_cons_of_mem _ hx') m) (by have := hx j (List.mem_cons_self ..) (most - n); omega)
    · exact h
theorem nodesJ_pos : ∀ (sz : Nat) (x : J), x.size ≤ sz → ∀ m, 1 ≤ nodesJ x m
  | 0, x, h => by cases x; simp [J.size] at h
  | sz + 1, .mk k n t ks is, h => fun m => by
    unfold nodesJ
    have := nodesL_pos is m 1 (fun x hx m => nodesJ_pos sz x (by have := size_mem hx; simp only [J.size] at h; omega) m) (by omega)
    omega
theorem nodesL_le : ∀ (is : List J) (m n : Int), (∀ x, x ∈ is → ∀ m, 0 ≤ m → nodesJ x m ≤ (m + 1) * 140737488351233) → (∀ x, x ∈ is → ∀ m, 1 ≤ nodesJ x m) → 0 ≤ m → 1 ≤ n → nodesL is m n + 140737488351232 ≤ n + 140737488351232 ∨ nodesL is m n + 140737488351232 ≤ (m + 1) * 140737488351233
  | [], m, n, _, _, _, _ => .inl (Int.le_refl _)
  | j :: r, m, n, hx, hp, hm, hn => by
    unfold nodesL
    split
    · rename_i hle
      have h1 := hx j (List.mem_cons_self ..) (m - n) (by omega)
      have h2 := hp j (List.mem_cons_self ..) (m - n)
      rcases nodesL_le r m (n + nodesJ j (m - n)) (fun x hx' => hx x (List.mem_cons_of_mem _ hx')) (fun x hx' => hp x (List.mem_cons_of_mem _ hx')) hm (by omega) with h | h
      · right; omega
      · right; exact h
    · exact .inl (Int.le_refl _)
theorem OkJ.parts {k n : Int} {t : ByteArray} {ks : List ByteArray} {is : List J} (h : OkJ (.mk k n t ks is)) : t.size ≤ 140737488351232 ∧ ks.length ≤ 140737488351232 ∧ (∀ s, s ∈ ks → s.size ≤ 140737488351232) ∧ is.length ≤ 140737488351232 ∧ ∀ x, x ∈ is → OkJ x := by
  cases h with
  | mk _ _ _ _ _ h1 h2 h3 h4 h5 => exact ⟨h1, h2, h3, h4, h5⟩
theorem nodesJ_le : ∀ (sz : Nat) (x : J), x.size ≤ sz → OkJ x → ∀ m, 0 ≤ m → nodesJ x m ≤ (m + 1) * 140737488351233
  | 0, x, h, _ => by cases x; simp [J.size] at h
  | sz + 1, .mk k n t ks is, h, hok => fun m hm => by
    obtain ⟨_, h2, _, _, h5⟩ := hok.parts
    unfold nodesJ
    rcases nodesL_le is m 1 (fun x hx m hm => nodesJ_le sz x (by have := size_mem hx; simp only [J.size] at h; omega) (h5 x hx) m hm) (fun x hx m => nodesJ_pos x.size x (Nat.le_refl _) m) hm (by omega) with q | q <;> omega
theorem NodeAt.step {is : List J} {most i n : Int} (h : NodeAt is most i n) {x : J} (hx : is[i.toNat]? = some x) (hn : n ≤ most) : nodesL is most 1 = nodesL (is.drop (i.toNat + 1)) most (n + nodesJ x (most - n)) := by
  have hlt := (List.getElem?_eq_some_iff.1 hx).1
  have e : is[i.toNat] = x := by rw [List.getElem?_eq_getElem hlt] at hx; simpa using hx
  rw [h.out, List.drop_eq_getElem_cons hlt, e]
  show (if n ≤ most then _ else n) = _
  rw [if_pos hn]
set_option maxRecDepth 100000 in
set_option maxHeartbeats 4000000 in
theorem nodes_ac {G : World → Prop} (hst : Stable G) : ∀ (sz : Nat) (x : J) (k n : Int) (t : ByteArray) (KX IX : List (List PV)), x.size ≤ sz → OkJ x → JRow x k n t KX IX → ∀ (most d : Int), 0 ≤ most → most ≤ 1000 → Is d (fun _ => nodesJ x most) →
    ACalls G Tryz.prog 37 [jp k n t KX IX, .lit (.int .i64 most)] (.lit (.int .i64 d)) none
  | 0, x, k, n, t, KX, IX, h, _, _, _, d, _, _, _ => by cases x; simp [J.size] at h
  | sz + 1, x, k, n, t, KX, IX, hsz, hok, hJ, most, d, hm0, hm1, hd => by
    obtain ⟨ks, is, rfl, hK, hI⟩ := hJ
    have hIl : IX.length = is.length := by rw [← hI]; simp
    have hKl : KX.length = ks.length := by rw [← hK]; simp
    obtain ⟨_, hk2, _, hi4, hi5⟩ := hok.parts
    have hs1 : sizes is ≤ sz := by simp only [J.size] at hsz; omega
    have ih := fun (x : J) (hx : x ∈ is) k n t KX IX (hJ : JRow x k n t KX IX) most d h0 h1 hd => nodes_ac hst sz x k n t KX IX (by have := size_mem hx; omega) (hi5 x hx) hJ most d h0 h1 hd
    refine acalls_fn hst mixed tau_ok Tryz.func37 (by kernel_rfl) (by kernel_rfl) (by kernel_rfl) ?_
    intro Q hQ
    cbv
    refine Or.inr ⟨[1, 2], [200002], Int × Int, fun p => [(.t 6, ⟨.pv (.lit (.int .i64 p.1)), none, none⟩), (.t 5, ⟨.pv (.lit (.int .i64 p.2)), none, none⟩)], fun p => NodeAt is most p.1 p.2, fun p => IX.length - p.1.toNat, (0, 1), (show NodeAt is most 0 1 from ⟨by omega, by omega, by omega, by omega, by simp⟩), ?_, ?_⟩
    · cbv
      simp
    intro ⟨i, c⟩ hp
    have hp : NodeAt is most i c := hp
    cbv
    intro m1 h1
    cbv
    intro b1 h2
    cbv
    cases b1
    rotate_left
    all_goals cbv
    intro b2 h3
    cbv
    cases b2
    rotate_left
    · cbv
      refine ⟨h1.atL hp.lo h2.yes, ?_⟩
      intro r hr
      obtain ⟨x, hx, rfl⟩ := hr.row hI
      obtain ⟨k', n', t', KX', IX', hJ', he'⟩ := JRow.of x
      rw [he']
      cbv
      intro m2 h4
      cbv
      have q1 := h3.yes
      have q2 := hp.pos
      have q3 := h4.i64 (by omega) (by omega)
      obtain ⟨d', hd'⟩ : ∃ d', Is d' (fun _ => nodesJ x (most - c)) := ⟨_, ⟨rfl⟩⟩
      have hd2 : Is d' (fun _ => nodesJ x m2) := ⟨by rw [hd'.out, q3]⟩
      refine Or.inl ⟨_, _, hQ _ _ _ _ (ih x (List.mem_of_getElem? hx) k' n' t' KX' IX' hJ' m2 d' (by omega) (by omega) hd2), ?_⟩
      cbv
      intro c2 h5
      cbv
      intro i2 h6
      cbv
      have q4 := h1.len
      have q5 := h2.yes
      have q6 := hp.lo
      have hle := nodesJ_le x.size x (Nat.le_refl _) (hi5 x (List.mem_of_getElem? hx)) (most - c) (by have := h3.yes; omega)
      have hpo := nodesJ_pos x.size x (Nat.le_refl _) (most - c)
      have q7 := hd'.out
      have q1 := h3.yes
      have q2 := hp.pos
      have q8 := h5.i64 (by omega) (by omega)
      have q9 := h6.add1 (by omega) (by omega)
      have hst' := hp.step hx h3.yes
      refine ⟨(i2, c2), ?_, ?_, ?_⟩
      · refine ⟨by omega, by omega, by omega, by omega, ?_⟩
        rw [hst', q9, q8, q7, show (i + 1).toNat = i.toNat + 1 by omega]
      · show IX.length - i2.toNat < IX.length - i.toNat
        omega
      · cbv
        simp
    have hout : nodesL is most 1 = c := by
      have e1 := h1.len
      have e2 := h2.no
      have e3 := hp.out
      rw [List.drop_of_length_le (by omega)] at e3
      exact e3
    clear h1 h2
    rotate_left
    have hout : nodesL is most 1 = c := by
      have e1 := h3.no
      have e3 := hp.out
      rw [e3]
      cases hq : is.drop i.toNat with
      | nil => rfl
      | cons a r =>
        show (if c ≤ most then _ else c) = c
        rw [if_neg e1]
    clear h3
    cbv
    all_goals
      intro m3 h7
      cbv
      intro m4 h8
      cbv
      refine litI ?_
      have f1 := h7.len
      have f2 := hp.pos
      have f3 := hp.top
      have f4 := h8.i64 (by omega) (by omega)
      rw [hd.out]
      unfold nodesJ
      rw [hout, f4, f1, hKl]
/-! ### heavy -/
def lens : List ByteArray → Nat
  | [] => 0
  | s :: r => s.size + lens r
mutual
/-- Are the texts of a value, of it or of one within, longer than most? -/
def heavyJ : J → Int → Bool
  | .mk _ _ t ks is, most => decide (most < ((t.size + lens ks : Nat) : Int)) || heavyL is most
def heavyL : List J → Int → Bool
  | [], _ => false
  | j :: r, most => heavyJ j most || heavyL r most
end
/-- Few keys each. -/
inductive Nar : J → Prop
  | mk (k n : Int) (t : ByteArray) (ks : List ByteArray) (is : List J) : ks.length ≤ 1000 → (∀ x, x ∈ is → Nar x) → Nar (.mk k n t ks is)
theorem Nar.parts {k n : Int} {t : ByteArray} {ks : List ByteArray} {is : List J} (h : Nar (.mk k n t ks is)) : ks.length ≤ 1000 ∧ ∀ x, x ∈ is → Nar x := by
  cases h with
  | mk _ _ _ _ _ h1 h2 => exact ⟨h1, h2⟩
theorem lens_append (a b : List ByteArray) : lens (a ++ b) = lens a + lens b := by
  induction a with
  | nil => simp [lens]
  | cons x a ih => simp [lens, ih]; omega
theorem lens_le : ∀ (ks : List ByteArray), (∀ s, s ∈ ks → s.size ≤ 140737488351232) → lens ks ≤ ks.length * 140737488351232
  | [], _ => by simp [lens]
  | s :: r, h => by
    have h1 := h s (List.mem_cons_self ..)
    have h2 := lens_le r (fun x hx => h x (List.mem_cons_of_mem _ hx))
    simp only [lens, List.length_cons]
    omega
theorem lens_take_le (ks : List ByteArray) (k : Nat) : lens (ks.take k) ≤ lens ks := by
  have := lens_append (ks.take k) (ks.drop k)
  rw [List.take_append_drop] at this
  omega
/-- So far. -/
structure LenAt (t : ByteArray) (ks : List ByteArray) (i n : Int) : Prop where
  lo : 0 ≤ i
  hi : i ≤ ks.length
  out : n = ((t.size + lens (ks.take i.toNat) : Nat) : Int)
structure NotHv (is : List J) (most i : Int) : Prop where
  lo : 0 ≤ i
  hi : i ≤ is.length
  out : heavyL is most = heavyL (is.drop i.toNat) most
theorem NotHv.step {is : List J} {most i : Int} (h : NotHv is most i) {x : J} (hx : is[i.toNat]? = some x) : heavyL is most = (heavyJ x most || heavyL (is.drop (i.toNat + 1)) most) := by
  have hlt := (List.getElem?_eq_some_iff.1 hx).1
  have e : is[i.toNat] = x := by rw [List.getElem?_eq_getElem hlt] at hx; simpa using hx
  rw [h.out, List.drop_eq_getElem_cons hlt, e]
  rfl
set_option maxRecDepth 100000 in
set_option maxHeartbeats 4000000 in
theorem heavy_ac {G : World → Prop} (hst : Stable G) : ∀ (sz : Nat) (x : J) (k n : Int) (t : ByteArray) (KX IX : List (List PV)), x.size ≤ sz → OkJ x → Nar x → JRow x k n t KX IX → ∀ (most : Int) (c : Bool), Is c (fun _ => heavyJ x most) →
    ACalls G Tryz.prog 38 [jp k n t KX IX, .lit (.int .i64 most)] (.lit (.bool c)) none
  | 0, x, k, n, t, KX, IX, h, _, _, _, _, c, _ => by cases x; simp [J.size] at h
  | sz + 1, x, k, n, t, KX, IX, hsz, hok, hnar, hJ, most, c, hc => by
    obtain ⟨ks, is, rfl, hK, hI⟩ := hJ
    have hIl : IX.length = is.length := by rw [← hI]; simp
    have hKl : KX.length = ks.length := by rw [← hK]; simp
    obtain ⟨ht, hk2, hk3, hi4, hi5⟩ := hok.parts
    obtain ⟨hn1, hn2⟩ := hnar.parts
    have hs1 : sizes is ≤ sz := by simp only [J.size] at hsz; omega
    have hlk := lens_le ks hk3
    have ih := fun (x : J) (hx : x ∈ is) k n t KX IX (hJ : JRow x k n t KX IX) most c hc => heavy_ac hst sz x k n t KX IX (by have := size_mem hx; omega) (hi5 x hx) (hn2 x hx) hJ most c hc
    refine acalls_fn hst mixed tau_ok Tryz.func38 (by kernel_rfl) (by kernel_rfl) (by kernel_rfl) ?_
    intro Q hQ
    cbv
    intro m0 g0
    cbv
    refine Or.inr ⟨[1, 2], [200002], Int × Int, fun p => [(.t 6, ⟨.pv (.lit (.int .i64 p.1)), none, none⟩), (.t 5, ⟨.pv (.lit (.int .i64 p.2)), none, none⟩)], fun p => LenAt t ks p.1 p.2, fun p => KX.length - p.1.toNat, (0, m0), (show LenAt t ks 0 m0 from ⟨by omega, by omega, by have := g0.len; simp [lens]; exact this⟩), ?_, ?_⟩
    · cbv
      simp
    intro ⟨i, a⟩ hp
    have hp : LenAt t ks i a := hp
    cbv
    intro m1 h1
    cbv
    intro b1 h2
    cbv
    cases b1
    rotate_left
    · cbv
      refine ⟨h1.atL hp.lo h2.yes, ?_⟩
      intro r hr
      obtain ⟨s, hs, rfl⟩ := hr.row hK
      cbv
      intro m2 h3
      cbv
      intro m3 h4
      cbv
      intro m4 h5
      cbv
      have q1 := h1.len
      have q2 := h2.yes
      have q3 := hp.lo
      have q4 := hp.out
      have q5 := h3.len
      have q6 := lens_take_le ks i.toNat
      have q6' := lens_take_le ks (i.toNat + 1)
      have q7 : lens (ks.take (i.toNat + 1)) = lens (ks.take i.toNat) + s.size := by
        rw [List.take_add_one, hs, lens_append]
        simp [lens]
      have q8 := h4.i64 (by omega) (by omega)
      have q9 := h5.add1 (by omega) (by omega)
      refine ⟨(m4, m3), ?_, ?_, ?_⟩
      · refine ⟨by omega, by omega, ?_⟩
        rw [show m4.toNat = i.toNat + 1 by omega, q7]
        omega
      · show KX.length - m4.toNat < KX.length - i.toNat
        omega
      · cbv
        simp
    have hsum : a = ((t.size + lens ks : Nat) : Int) := by
      have e1 := h1.len
      have e2 := h2.no
      have e3 := hp.out
      rw [List.take_of_length_le (by omega)] at e3
      exact e3
    have hH : heavyJ (.mk k n t ks is) most = (decide (most < ((t.size + lens ks : Nat) : Int)) || heavyL is most) := rfl
    rw [← hsum] at hH
    cbv
    intro b3 h6
    cbv
    cases b3
    rotate_left
    · cbv
      refine litB ?_
      rw [hc.out, hH, decide_eq_true h6.yes]
      rfl
    have hH2 : heavyJ (.mk k n t ks is) most = heavyL is most := by rw [hH, decide_eq_false h6.no]; rfl
    cbv
    refine Or.inr ⟨[1, 2, 5, 6], [200002], Int, fun i => [(.t 7, ⟨.pv (.lit (.int .i64 i)), none, none⟩)], NotHv is most, fun i => IX.length - i.toNat, 0, (show NotHv is most 0 from ⟨by omega, by omega, by simp⟩), ?_, ?_⟩
    · cbv
      simp
    intro j hj
    have hj : NotHv is most j := hj
    cbv
    intro m5 g5
    cbv
    intro b4 g6
    cbv
    cases b4
    · cbv
      refine litB ?_
      have e1 := g5.len
      have e2 := g6.no
      have e3 := hj.out
      rw [List.drop_of_length_le (by omega)] at e3
      rw [hc.out, hH2, e3]
      rfl
    · cbv
      refine ⟨g5.atL hj.lo g6.yes, ?_⟩
      intro r hr
      obtain ⟨x, hx, rfl⟩ := hr.row hI
      obtain ⟨k', n', t', KX', IX', hJ', he'⟩ := JRow.of x
      rw [he']
      cbv
      obtain ⟨c', hc'⟩ : ∃ c', Is c' (fun _ => heavyJ x most) := ⟨_, ⟨rfl⟩⟩
      refine Or.inl ⟨_, _, hQ _ _ _ _ (ih x (List.mem_of_getElem? hx) k' n' t' KX' IX' hJ' most c' hc'), ?_⟩
      cbv
      cases c'
      · cbv
        intro j2 g7
        cbv
        have e1 := g5.len
        have e2 := g6.yes
        have e3 := hj.lo
        have e4 := g7.add1 (by omega) (by omega)
        refine ⟨j2, ?_, ?_, ?_⟩
        · refine ⟨by omega, by omega, ?_⟩
          rw [hj.step hx, ← hc'.out, show j2.toNat = j.toNat + 1 by omega]
          rfl
        · show IX.length - j2.toNat < IX.length - j.toNat
          omega
        · cbv
          simp
      · cbv
        refine litB ?_
        rw [hc.out, hH2, hj.step hx, ← hc'.out]
        rfl
/-! ### LightBody -/
theorem nodesL_full {m : Int} (hm : m ≤ 1000) : ∀ (is : List J), (∀ x, x ∈ is → ∀ m, m ≤ 1000 → nodesJ x m ≤ m → nodesJ x m = x.size ∧ Nar x) → (∀ x, x ∈ is → ∀ m, 1 ≤ nodesJ x m) → ∀ n, 1 ≤ n → nodesL is m n ≤ m → nodesL is m n = n + sizes is ∧ ∀ x, x ∈ is → Nar x
  | [], _, _, n, _, _ => by simp [nodesL, sizes]
  | j :: r, ih, hp, n, hn, h => by
    have e : nodesL (j :: r) m n = if n ≤ m then nodesL r m (n + nodesJ j (m - n)) else n := rfl
    rw [e] at h ⊢
    by_cases hle : n ≤ m
    · rw [if_pos hle] at h ⊢
      have hpj := hp j (List.mem_cons_self ..) (m - n)
      obtain ⟨h1, h2⟩ := nodesL_full hm r (fun x hx => ih x (List.mem_cons_of_mem _ hx)) (fun x hx => hp x (List.mem_cons_of_mem _ hx)) (n + nodesJ j (m - n)) (by omega) h
      obtain ⟨h3, h4⟩ := ih j (List.mem_cons_self ..) (m - n) (by omega) (by omega)
      refine ⟨by rw [h1, h3]; simp only [sizes]; omega, fun x hx => ?_⟩
      rcases List.mem_cons.1 hx with rfl | hx
      · exact h4
      · exact h2 x hx
    · rw [if_neg hle] at h
      exact absurd h hle
theorem nodes_full : ∀ (sz : Nat) (x : J), x.size ≤ sz → ∀ m, m ≤ 1000 → nodesJ x m ≤ m → nodesJ x m = x.size ∧ Nar x
  | 0, x, h => by cases x; simp [J.size] at h
  | sz + 1, .mk k n t ks is, h => fun m hm hx => by
    have e : nodesJ (.mk k n t ks is) m = nodesL is m 1 + ks.length := rfl
    rw [e] at hx ⊢
    obtain ⟨h1, h2⟩ := nodesL_full hm is (fun x hx => nodes_full sz x (by have := size_mem hx; simp only [J.size] at h; omega)) (fun x hx m => nodesJ_pos x.size x (Nat.le_refl _) m) 1 (by omega) (by omega)
    refine ⟨by rw [h1]; simp only [J.size]; omega, .mk k n t ks is (by omega) h2⟩
def lightB (x : J) : Bool := decide (nodesJ x 130 ≤ 130) && !heavyJ x 1000
theorem light_size {x : J} (h : lightB x = true) : x.size ≤ 130 ∧ Nar x := by
  unfold lightB at h
  rw [Bool.and_eq_true] at h
  have h1 := of_decide_eq_true h.1
  obtain ⟨h2, h3⟩ := nodes_full x.size x (Nat.le_refl _) 130 (by omega) h1
  exact ⟨by omega, h3⟩
theorem okBs_of : ∀ {l : List J}, (∀ x, x ∈ l → okB x = true) → okBs l = true
  | [], _ => rfl
  | j :: r, h => by
    show (okB j && okBs r) = true
    rw [h j (List.mem_cons_self ..), okBs_of (fun x hx => h x (List.mem_cons_of_mem _ hx))]
    rfl
theorem OkJ.okB {x : J} (h : OkJ x) : okB x = true := by
  induction h with
  | mk k n t ks is h1 h2 h3 h4 h5 ih =>
    show (decide (t.size ≤ 9223372036854775807) && ks.all (fun k => decide (k.size ≤ 9223372036854775807)) && okBs is) = true
    rw [decide_eq_true (by omega), okBs_of ih, List.all_eq_true.2 (fun s hs => decide_eq_true (by have := h3 s hs; omega))]
    rfl
set_option maxRecDepth 100000 in
set_option maxHeartbeats 4000000 in
theorem lightBody_ac {G : World → Prop} (hst : Stable G) (x : J) (k n : Int) (t : ByteArray) (KX IX : List (List PV)) (hok : OkJ x) (hJ : JRow x k n t KX IX) (c : Bool) (hc : Is c (fun _ => lightB x)) :
    ACalls G Tryz.prog 12 [jp k n t KX IX] (.lit (.bool c)) none := by
  refine acalls_fn hst mixed tau_ok Tryz.func12 (by kernel_rfl) (by kernel_rfl) (by kernel_rfl) ?_
  intro Q hQ
  cbv
  obtain ⟨d, hd⟩ : ∃ d, Is d (fun _ => nodesJ x 130) := ⟨_, ⟨rfl⟩⟩
  refine Or.inl ⟨_, _, hQ _ _ _ _ (nodes_ac hst x.size x k n t KX IX (Nat.le_refl _) hok hJ 130 d (by omega) (by omega) hd), ?_⟩
  cbv
  intro b1 h1
  cbv
  cases b1
  · cbv
    refine litB ?_
    have e1 := h1.no
    rw [hc.out]
    unfold lightB
    rw [decide_eq_false (by rw [← hd.out]; exact e1)]
    rfl
  · cbv
    have e1 := h1.yes
    have e2 := hd.out
    obtain ⟨v, hv⟩ : ∃ v, Is v (fun _ => heavyJ x 1000) := ⟨_, ⟨rfl⟩⟩
    refine Or.inl ⟨_, _, hQ _ _ _ _ (heavy_ac hst x.size x k n t KX IX (Nat.le_refl _) hok (nodes_full x.size x (Nat.le_refl _) 130 (by omega) (by omega)).2 hJ 1000 v hv), ?_⟩
    cbv
    intro b2 h2
    cbv
    refine litB ?_
    rw [hc.out, h2.out, hv.out]
    unfold lightB
    rw [decide_eq_true (by have := h1.yes; have := hd.out; omega)]
    rfl
end Go.Proofs.YtbjfmkmaghapgaaGreatDoor.B

set_option linter.unusedVariables false
set_option linter.unusedSimpArgs false
namespace Go.Proofs.YtbjfmkmaghapgaaGreatDoor.B
open Go.RowKit
structure LightE (e : En) : Prop where
  sum : e.typ.size + e.key.size + e.id.size + e.by_.size ≤ 1200
  body : lightB e.body = true
structure LightS (s : Stt) : Prop where
  members : s.members.length ≤ 40
  entries : s.entries.length ≤ 30
  users : s.users.length ≤ 30
  events : s.events.length ≤ 30
  texts : s.creator.size + s.createID.size + s.levelsID.size ≤ 900
  mem : ∀ m, m ∈ s.members → m.user.size + m.by_.size + m.id.size ≤ 900
  ent : ∀ e, e ∈ s.entries → LightE e
structure EqN (a : Int) (n : Nat) : Prop where
  e : a = n
/-- All so far. -/
structure AllTo {α : Type} (p : α → Prop) (l : List α) (i : Int) : Prop where
  lo : 0 ≤ i
  hi : i ≤ l.length
  all : ∀ (j : Nat) x, (j : Int) < i → l[j]? = some x → p x
theorem AllTo.zero {α : Type} {p : α → Prop} {l : List α} : AllTo p l 0 := ⟨by omega, by omega, fun j x h => by omega⟩
theorem AllTo.next {α : Type} {p : α → Prop} {l : List α} {i : Int} (h : AllTo p l i) {x : α} (hx : l[i.toNat]? = some x) (hp : p x) : AllTo p l (i + 1) := by
  have h0 := h.lo
  have hlt := (List.getElem?_eq_some_iff.1 hx).1
  refine ⟨by omega, by omega, fun j y hj hy => ?_⟩
  by_cases e : (j : Int) < i
  · exact h.all j y e hy
  · obtain rfl : j = i.toNat := by omega
    rw [hx] at hy
    cases hy
    exact hp
theorem AllTo.full {α : Type} {p : α → Prop} {l : List α} {i : Int} (h : AllTo p l i) (hi : ¬ i < l.length) : ∀ x, x ∈ l → p x := fun x hx => by
  obtain ⟨j, hj⟩ := List.mem_iff_getElem?.1 hx
  exact h.all j x (by have := (List.getElem?_eq_some_iff.1 hj).1; omega) hj
set_option maxRecDepth 100000 in
set_option maxHeartbeats 4000000 in
theorem lightState_ac {G : World → Prop} (hst : Stable G) (s : Stt) (hok : OkStt s) (MX UX VX EX : List (List PV)) (hM : s.members.map encMem = MX) (hU : s.users.map encE = UX) (hV : s.events.map encE = VX) (hE : s.entries.map encEn = EX) (c : Bool) (hc : c = true ↔ LightS s) :
    ACalls G Tryz.prog 7 [.agg [.lit (.string s.creator), .lit (.string s.createID), .sl MX, .sl UX, .sl VX, .lit (.int .i64 s.n1), .lit (.int .i64 s.n2), .lit (.int .i64 s.n3), .lit (.int .i64 s.n4), .lit (.int .i64 s.n5), .lit (.int .i64 s.n6), .lit (.int .i64 s.n7), .lit (.string s.levelsID), .sl EX]] (.lit (.bool c)) none := by
  have hMl : MX.length = s.members.length := by rw [← hM]; simp
  have hUl : UX.length = s.users.length := by rw [← hU]; simp
  have hVl : VX.length = s.events.length := by rw [← hV]; simp
  have hEl : EX.length = s.entries.length := by rw [← hE]; simp
  have no : ¬ LightS s → false = c := fun h => by cases c with
    | false => rfl
    | true => exact absurd (hc.1 rfl) h
  obtain ⟨s1, s2, ms, us, vs, n1, n2, n3, n4, n5, n6, n7, s3, es⟩ := s
  obtain ⟨k1, k2, k3, km, ku, kv, ke⟩ := hok
  refine acalls_fn hst mixed tau_ok Tryz.func7 (by kernel_rfl) (by kernel_rfl) (by kernel_rfl) ?_
  intro Q hQ
  cbv
  intro m1 g1
  cbv
  intro b1 h1
  cbv
  cases b1
  rotate_left
  · cbv
    refine litB ?_
    exact no (fun q => by have := h1.yes; have := g1.len; have := q.members; have e : MX.length = ms.length := hMl; simp only at this; omega)
  cbv
  intro m2 g2
  cbv
  intro b2 h2
  cbv
  cases b2
  rotate_left
  · cbv
    refine litB ?_
    exact no (fun q => by have := h2.yes; have := g2.len; have := q.entries; have e : EX.length = es.length := hEl; simp only at this; omega)
  cbv
  intro m3 g3
  cbv
  intro b3 h3
  cbv
  cases b3
  rotate_left
  · cbv
    refine litB ?_
    exact no (fun q => by have := h3.yes; have := g3.len; have := q.users; have e : UX.length = us.length := hUl; simp only at this; omega)
  cbv
  intro m4 g4
  cbv
  intro b4 h4
  cbv
  cases b4
  rotate_left
  · cbv
    refine litB ?_
    exact no (fun q => by have := h4.yes; have := g4.len; have := q.events; have e : VX.length = vs.length := hVl; simp only at this; omega)
  cbv
  intro a1 f1
  cbv
  intro a2 f2
  cbv
  intro a3 f3
  cbv
  intro a4 f4
  cbv
  intro a5 f5
  cbv
  intro b5 h5
  cbv
  have k1' : s1.size ≤ 140737488351232 := k1
  have k2' : s2.size ≤ 140737488351232 := k2
  have k3' : s3.size ≤ 140737488351232 := k3
  have hsum : a5 = ((s1.size + s2.size + s3.size : Nat) : Int) := by
    have e1 := f1.len
    have e2 := f2.len
    have e4 := f4.len
    have e3 := f3.i64 (by omega) (by omega)
    have e5 := f5.i64 (by omega) (by omega)
    omega
  cases b5
  rotate_left
  · cbv
    refine litB ?_
    exact no (fun q => by have e1 := h5.yes; have e2 : s1.size + s2.size + s3.size ≤ 900 := q.texts; have e3 := f1.len; have e4 := f2.len; have e5 := f4.len; have e6 := f3.i64 (by omega) (by omega); have e7 := f5.i64 (by omega) (by omega); omega)
  have htx : s1.size + s2.size + s3.size ≤ 900 := by have := h5.no; omega
  clear hsum f1 f2 f3 f4 f5 h5
  cbv
  refine Or.inr ⟨[1], [560001], Int, fun i => [(.t 3, ⟨.pv (.lit (.int .i64 i)), none, none⟩)], AllTo (fun m : Mem => m.user.size + m.by_.size + m.id.size ≤ 900) ms, fun i => MX.length - i.toNat, 0, AllTo.zero, ?_, ?_⟩
  · cbv
    simp
  intro i hi
  have hi : AllTo (fun m : Mem => m.user.size + m.by_.size + m.id.size ≤ 900) ms i := hi
  cbv
  intro m6 g6
  cbv
  intro b6 h6
  cbv
  cases b6
  rotate_left
  · cbv
    refine ⟨g6.atL hi.lo h6.yes, ?_⟩
    intro r1 hr1
    obtain ⟨x, hx, rfl⟩ := hr1.row hM
    obtain ⟨y1, y2, y3, y4⟩ := x
    cbv
    intro a1 f1
    cbv
    have again : ∀ {z : Mem}, ms[i.toNat]? = some z → z = ⟨y1, y2, y3, y4⟩ := fun {z} hz => by rw [hx] at hz; cases hz; rfl
    refine ⟨g6.atL hi.lo h6.yes, ?_⟩
    intro r2 hr2
    obtain ⟨x2, hx2, rfl⟩ := hr2.row hM
    obtain rfl := again hx2
    cbv
    intro a2 f2
    cbv
    intro a3 f3
    cbv
    refine ⟨g6.atL hi.lo h6.yes, ?_⟩
    intro r3 hr3
    obtain ⟨x3, hx3, rfl⟩ := hr3.row hM
    obtain rfl := again hx3
    cbv
    intro a4 f4
    cbv
    intro a5 f5
    cbv
    intro b7 h7
    cbv
    have hmx := List.mem_of_getElem? hx
    have w1 : y1.size ≤ 140737488351232 := (km.2 _ hmx).user
    have w3 : y3.size ≤ 140737488351232 := (km.2 _ hmx).by_
    have w4 : y4.size ≤ 140737488351232 := (km.2 _ hmx).id
    have hsum : a5 = ((y1.size + y3.size + y4.size : Nat) : Int) := by
      have e1 := f1.len
      have e2 := f2.len
      have e4 := f4.len
      have e3 := f3.i64 (by omega) (by omega)
      have e5 := f5.i64 (by omega) (by omega)
      omega
    cases b7
    · have hle : y1.size + y3.size + y4.size ≤ 900 := by have := h7.no; omega
      cbv
      intro i2 hi2
      cbv
      have e1 := g6.len
      have e2 := h6.yes
      have e3 := hi.lo
      have e4 := km.1
      have e5 := hi2.i64 (by omega) (by have : MX.length = ms.length := hMl; have : ms.length ≤ 140737488351232 := km.1; omega)
      refine ⟨i2, ?_, ?_, ?_⟩
      · rw [e5]
        exact hi.next hx hle
      · show MX.length - i2.toNat < MX.length - i.toNat
        omega
      · cbv
        simp
    · cbv
      refine litB ?_
      exact no (fun q => by have e1 : y1.size + y3.size + y4.size ≤ 900 := q.mem _ hmx; have e2 := h7.yes; have e3 := f1.len; have e4 := f2.len; have e5 := f4.len; have e6 := f3.i64 (by omega) (by omega); have e7 := f5.i64 (by omega) (by omega); omega)
  have hmem := hi.full (by have e1 := h6.no; have e2 := g6.len; have e3 : MX.length = ms.length := hMl; omega)
  clear hi g6 h6
  cbv
  refine Or.inr ⟨[1], [560001], Int, fun i => [(.t 4, ⟨.pv (.lit (.int .i64 i)), none, none⟩)], AllTo LightE es, fun i => EX.length - i.toNat, 0, AllTo.zero, ?_, ?_⟩
  · cbv
    simp
  intro j hj
  have hj : AllTo LightE es j := hj
  cbv
  intro m7 g7
  cbv
  intro b8 h8
  cbv
  cases b8
  · cbv
    refine litB ?_
    have hent := hj.full (by have e1 := h8.no; have e2 := g7.len; have e3 : EX.length = es.length := hEl; omega)
    have e1 := h1.no
    have e2 := g1.len
    have e3 := h2.no
    have e4 := g2.len
    have e5 := h3.no
    have e6 := g3.len
    have e7 := h4.no
    have e8 := g4.len
    have q1 : MX.length = ms.length := hMl
    have q2 : UX.length = us.length := hUl
    have q3 : VX.length = vs.length := hVl
    have q4 : EX.length = es.length := hEl
    exact (hc.2 ⟨(show ms.length ≤ 40 by omega), (show es.length ≤ 30 by omega), (show us.length ≤ 30 by omega), (show vs.length ≤ 30 by omega), htx, hmem, hent⟩).symm
  · cbv
    refine ⟨g7.atL hj.lo h8.yes, ?_⟩
    intro r1 hr1
    obtain ⟨x, hx, rfl⟩ := hr1.row hE
    obtain ⟨t1, t2, t3, t4, bd⟩ := x
    obtain ⟨k', n', t', KX', IX', hJ', he'⟩ := JRow.of bd
    unfold encEn
    rw [he']
    cbv
    intro a1 f1
    cbv
    intro a2 f2
    cbv
    intro a3 f3
    cbv
    intro a4 f4
    cbv
    intro a5 f5
    cbv
    intro a6 f6
    cbv
    intro a7 f7
    cbv
    intro b9 h9
    cbv
    have hmx := List.mem_of_getElem? hx
    have hoe := ke.2 _ hmx
    have w1 : t1.size ≤ 140737488351232 := hoe.typ
    have w2 : t2.size ≤ 140737488351232 := hoe.key
    have w3 : t3.size ≤ 140737488351232 := hoe.id
    have w4 : t4.size ≤ 140737488351232 := hoe.by_
    have hsum : a7 = ((t1.size + t2.size + t3.size + t4.size : Nat) : Int) := by
      have e1 := f1.len
      have e2 := f2.len
      have e4 := f4.len
      have e6 := f6.len
      have e3 := f3.i64 (by omega) (by omega)
      have e5 := f5.i64 (by omega) (by omega)
      have e7 := f7.i64 (by omega) (by omega)
      omega
    have hS : EqN a7 (t1.size + t2.size + t3.size + t4.size) := ⟨hsum⟩
    clear hsum f1 f2 f3 f4 f5 f6 f7
    cases b9
    rotate_left
    · cbv
      refine litB ?_
      exact no (fun q => by have e1 : t1.size + t2.size + t3.size + t4.size ≤ 1200 := (q.ent _ hmx).sum; have e2 := h9.yes; have e3 := hS.e; omega)
    cbv
    obtain ⟨v, hv⟩ : ∃ v, Is v (fun _ => lightB bd) := ⟨_, ⟨rfl⟩⟩
    refine Or.inl ⟨_, _, hQ _ _ _ _ (lightBody_ac hst bd k' n' t' KX' IX' hoe.body hJ' v hv), ?_⟩
    cbv
    intro b10 h10
    cbv
    cases b10
    rotate_left
    · cbv
      refine litB ?_
      exact no (fun q => by have e1 : lightB bd = true := (q.ent _ hmx).body; have e2 := hv.out; have e3 := h10.out; rw [e2, e1] at e3; cases e3)
    cbv
    intro j2 hj2
    cbv
    have e1 := g7.len
    have e2 := h8.yes
    have e3 := hj.lo
    have q4 : EX.length = es.length := hEl
    have e4 : es.length ≤ 140737488351232 := ke.1
    have e5 := hj2.i64 (by omega) (by omega)
    refine ⟨j2, ?_, ?_, ?_⟩
    · rw [e5]
      refine hj.next hx ⟨by have := h9.no; have := hS.e; show t1.size + t2.size + t3.size + t4.size ≤ 1200; omega, ?_⟩
      have e6 := h10.out
      have e7 := hv.out
      show lightB bd = true
      rw [← e7]
      cases v <;> first | rfl | cases e6
    · show EX.length - j2.toNat < EX.length - j.toNat
      omega
    · cbv
      simp
end Go.Proofs.YtbjfmkmaghapgaaGreatDoor.B
