/-
Closed runs: slices, maps, addresses, parts. Condition: none.
-/
import Derived.Test.YtohcohbbmjhnfaaGreatDoorXD
import Derived.Laws.MakeOwn
import Derived.IntWalk
set_option linter.unusedVariables false
set_option linter.unusedSectionVars false
set_option linter.unusedSimpArgs false
namespace Go.Proofs.YtohcohbbmjhnfaaGreatDoor.X
open Go Go.RowKit
noncomputable section
variable [Tabs]
section
variable {P : Program} {B : Nat} {β : Ren} {h : Heap} {nx : Nat} {w : World}
def xint : XV → Option Int
  | .int _ n => some n
  | _ => none
theorem xint_ok {x : XV} {n : Int} {v : Value} (hx : xint x = some n) (hv : VR β x v) : ∃ k, v = .int k n ∧ ∀ w : World, (asIntOf v).run P w = .ok (k, n) w := by
  unfold xint at hx
  split at hx
  · cases hx
    have hv' := hv
    rw [VR] at hv'
    subst hv'
    exact ⟨_, rfl, fun w => rfl⟩
  · cases hx
/-- A number that is none below 0. -/
def xnat (x : XV) : Option Nat :=
  match x with
  | .int _ (.ofNat n) => some n
  | _ => none
theorem xnat_ok {x : XV} {n : Nat} {v : Value} (hx : xnat x = some n) (hv : VR β x v) : ∃ k, v = .int k (n : Int) := by
  unfold xnat at hx
  split at hx
  · cases hx
    rw [VR] at hv
    exact ⟨_, hv⟩
  · cases hx
/-! ### make -/
def xmakeSlice (P : Program) (id : Nat) (t : TypeId) (x y : XV) : Option (XV × AO) :=
  match P.underlying t, xnat x, xnat y with
  | some (.slice e), some l, some c => match P.info? e, szOf P e, zcells P e with
    | some i, some n, some zs => match Nat.ble l c, Nat.ble c 100000, Nat.ble i.bytes 100000, Nat.beq n zs.length, Nat.beq n 0 with
      | true, true, true, true, false => match Nat.beq (reps zs c).length (Nat.mul c n) with
        | true => some (.sl id 0 l c n true, newX (reps zs c) e true)
        | false => none
      | _, _, _, _, _ => none
    | _, _, _ => none
  | _, _, _ => none
theorem xmakeSlice_ok {t : TypeId} {id : Nat} {x y z : XV} {u v : Value} {ob : AO} (hu : VR β x u) (hv : VR β y v) (hx : xmakeSlice P id t x y = some (z, ob)) : RunA P w β id (Instr.makeSlice t u v) z ob := by
  unfold xmakeSlice at hx
  split at hx
  · rename_i e l c hun hl hc
    obtain ⟨k1, rfl⟩ := xnat_ok hl hu
    obtain ⟨k2, rfl⟩ := xnat_ok hc hv
    split at hx
    · rename_i i n zs hi hn hz
      obtain ⟨i', z0, hi', z1, z2, z3⟩ := zcells_info hz
      rw [hi] at hi'
      cases hi'
      split at hx
      · rename_i e1 e2 e3 e4 e5
        have e1 := Nat.le_of_ble_eq_true e1
        have e2 := Nat.le_of_ble_eq_true e2
        have e3 := Nat.le_of_ble_eq_true e3
        have e4 := beq_t e4
        have e5 := beq_f e5
        have hzl : z0.cells.size = n := by have := (z2 β).length; rw [e4, ← this]; simp
        have hin : i.size = n := by unfold szOf at hn; rw [hi] at hn; cases hn; rfl
        split at hx
        · rename_i e6
          cases hx
          have hb : (i.bytes : Int) * (c : Int) ≤ 281474976710656 := by
            have : i.bytes * c ≤ 100000 * 100000 := Nat.mul_le_mul e3 e2
            have : ((i.bytes * c : Nat) : Int) ≤ 281474976710656 := by omega
            rwa [Int.natCast_mul] at this
          have hrun := run_make (P := P) w t e i z0 hun hi z1 k1 k2 (l : Int) (c : Int) (by omega) (by omega) hb (by omega)
          simp only [Int.toNat_natCast, hin] at hrun
          refine alloc_ok hrun ?_ (allOne_reps z3 _) (fun β' bi p1 p0 p2 p3 => ⟨bi, p1, 0, c, by rw [p0], Nat.le_refl _, e1, fun _ => rfl, fun _ => ⟨by rw [p2], by rw [p3, size_madeCells]; omega⟩⟩)
          exact hzl ▸ reps_rel (z2 β) c
        · cases hx
      · cases hx
    · cases hx
  · cases hx
def xmakeMap (P : Program) (id : Nat) (t : TypeId) (r : Option XV) : Option (XV × AO) :=
  match r with
  | none => some (.map id, .map [] 0)
  | some x => match P.underlying t, xint x with
    | some (.map _ _), some _ => some (.map id, .map [] 0)
    | _, _ => none
theorem newObj_ok {id : Nat} {x : XV} {o : Obj} {ob : AO} {mk : Nat → Value} (hx : ∀ β' bi, β' id = some bi → VR β' x (mk bi.rb)) (hb : ∀ β' (w' : World) bi, Ext β β' → w'.heap[bi.rb]? = some o → BR β' w' bi ob) :
    RunA P w β id (do pure (mk (← newObj o))) x ob :=
  ⟨mk w.heap.size, { w with heap := w.heap.push o }, by simp, ⟨⟨w.heap.size, 0, 0⟩, rfl, fun k hk => push_ne w _ hk, by simp, push_below w _, fun β' hext hid => ⟨hb β' _ _ hext (push_at w o), hx β' _ hid⟩⟩⟩
theorem xmakeMap_ok {t : TypeId} {id : Nat} {r : Option XV} {u : Option Value} {y : XV} {ob : AO} (hu : match r, u with | none, none => True | some x, some v => VR β x v | _, _ => False) (hx : xmakeMap P id t r = some (y, ob)) : RunA P w β id (Instr.makeMap t u) y ob := by
  have key : RunA P w β id (do pure (Value.map (some (← newObj (.map #[] 0))))) (.map id) (.map [] 0) :=
    newObj_ok (fun β' bi q => ⟨bi, q, rfl⟩) (fun β' w' bi _ q => ⟨#[], q, rfl⟩)
  unfold xmakeMap at hx
  split at hx
  · cases hx
    cases u with
    | some v => exact hu.elim
    | none => exact key
  · rename_i x
    split at hx
    · rename_i hun hn
      cases hx
      cases u with
      | none => exact hu.elim
      | some v =>
        obtain ⟨k, rfl, _⟩ := xint_ok (P := P) hn hu
        obtain ⟨v, w', k1, k2⟩ := key
        refine ⟨v, w', ?_, k2⟩
        rw [← k1]
        simp [Instr.makeMap, run_und hun, asInt, asIntOf]
    · cases hx
/-! ### slices of slices -/
/-- The bounds of a slice expression, within a length and a capacity. -/
def bnds (len cap : Nat) (lo hi mx : Option XV) : Option (Nat × Nat × Nat) :=
  match (match mx with
    | none => some cap
    | some m => match xnat m with
      | some m => match Nat.ble m cap with
        | true => some m
        | false => none
      | none => none) with
  | none => none
  | some m => match (match hi with
      | none => match mx with
        | none => some len
        | some _ => none
      | some h => match xnat h with
        | some h => match Nat.ble h m with
          | true => some h
          | false => none
        | none => none) with
    | none => none
    | some h => match (match lo with
        | none => some 0
        | some l => match xnat l with
          | some l => match Nat.ble l h with
            | true => some l
            | false => none
          | none => none) with
      | none => none
      | some l => some (l, h, m)
def OptR (β : Ren) : Option XV → Option Value → Prop
  | none, none => True
  | some x, some v => VR β x v
  | _, _ => False
theorem run_bound {y : Nat} {code : BoundsCode} {x : XV} {v : Value} {n : Nat} (hv : VR β x v) (hx : xnat x = some n) (hle : n ≤ y) (w : World) : (Instr.sliceBound v y code).run P w = .ok n w := by
  obtain ⟨k, rfl⟩ := xnat_ok hx hv
  have c : (0 : Int) ≤ (n : Int) ∧ (n : Int) ≤ (y : Int) := by omega
  simp [Instr.sliceBound, asIntOf, c, hle]
theorem bnds_ok {isS : Bool} {len cap cap' : Nat} {lo hi mx : Option XV} {lo' hi' mx' : Option Value} {l hh m : Nat} (h1 : OptR β lo lo') (h2 : OptR β hi hi') (h3 : OptR β mx mx') (hb : bnds len cap lo hi mx = some (l, hh, m)) (hcap : cap ≤ cap') (hlen : len ≤ cap) (w : World) :
    ∃ m', (Instr.sliceBounds isS len cap' lo' hi' mx').run P w = .ok (l, hh, m') w ∧ l ≤ hh ∧ hh ≤ m ∧ m ≤ m' ∧ (mx = none → m = cap ∧ m' = cap') ∧ (mx ≠ none → m' = m ∧ m ≤ cap) := by
  unfold bnds at hb
  split at hb
  · cases hb
  · rename_i m0 hm
    split at hb
    · cases hb
    · rename_i h0 hh0
      split at hb
      · cases hb
      · rename_i l0 hl0
        cases hb
        have hlow : (lo' = none ∧ l = 0) ∨ ∃ v, lo' = some v ∧ l ≤ hh ∧ ∀ code, (Instr.sliceBound v hh code).run P w = .ok l w := by
          cases lo with
          | none => cases lo' with
            | none => cases hl0; exact .inl ⟨rfl, rfl⟩
            | some v => exact h1.elim
          | some x => cases lo' with
            | none => exact h1.elim
            | some v =>
              simp only at hl0
              split at hl0
              · rename_i n hn
                split at hl0
                · rename_i hle
                  cases hl0
                  have hle := Nat.le_of_ble_eq_true hle
                  exact .inr ⟨v, rfl, hle, fun _ => run_bound h1 hn hle w⟩
                · cases hl0
              · cases hl0
        have hlle : l ≤ hh := by
          rcases hlow with ⟨_, rfl⟩ | ⟨_, _, q, _⟩
          · exact Nat.zero_le _
          · exact q
        cases mx with
        | none =>
          cases hm
          cases mx' with
          | some v => exact h3.elim
          | none =>
            have hhi : (hi' = none ∧ hh = len) ∨ ∃ v, hi' = some v ∧ hh ≤ cap ∧ ∀ code, (Instr.sliceBound v cap' code).run P w = .ok hh w := by
              cases hi with
              | none => cases hi' with
                | none => cases hh0; exact .inl ⟨rfl, rfl⟩
                | some v => exact h2.elim
              | some x => cases hi' with
                | none => exact h2.elim
                | some v =>
                  simp only at hh0
                  split at hh0
                  · rename_i n hn
                    split at hh0
                    · rename_i hle
                      cases hh0
                      have hle := Nat.le_of_ble_eq_true hle
                      exact .inr ⟨v, rfl, hle, fun _ => run_bound h2 hn (by omega) w⟩
                    · cases hh0
                  · cases hh0
            have hhc : hh ≤ cap := by
              rcases hhi with ⟨_, rfl⟩ | ⟨_, _, q, _⟩
              · exact hlen
              · exact q
            refine ⟨cap', ?_, hlle, hhc, hcap, fun _ => ⟨rfl, rfl⟩, fun q => absurd rfl q⟩
            rcases hhi with ⟨rfl, rfl⟩ | ⟨v, rfl, _, q⟩ <;> rcases hlow with ⟨rfl, rfl⟩ | ⟨u, rfl, _, q'⟩
            · simp [Instr.sliceBounds]
            · simp [Instr.sliceBounds, q']
            · simp [Instr.sliceBounds, q]
            · simp [Instr.sliceBounds, q, q']
        | some x =>
          cases mx' with
          | none => exact h3.elim
          | some vm =>
            simp only at hm
            split at hm
            · rename_i mn hmn
              split at hm
              · rename_i hle
                cases hm
                have hle := Nat.le_of_ble_eq_true hle
                have hmr : ∀ code, (Instr.sliceBound vm cap' code).run P w = .ok m w := fun code => run_bound h3 hmn (by omega) w
                cases hi with
                | none => cases hh0
                | some x => cases hi' with
                  | none => exact h2.elim
                  | some v =>
                    simp only at hh0
                    split at hh0
                    · rename_i n hn
                      split at hh0
                      · rename_i hle2
                        cases hh0
                        have hle2 := Nat.le_of_ble_eq_true hle2
                        have q : ∀ code, (Instr.sliceBound v m code).run P w = .ok hh w := fun _ => run_bound h2 hn hle2 w
                        refine ⟨m, ?_, hlle, hle2, Nat.le_refl _, (fun q => by cases q), fun _ => ⟨rfl, hle⟩⟩
                        rcases hlow with ⟨rfl, rfl⟩ | ⟨u, rfl, _, q'⟩
                        · simp [Instr.sliceBounds, hmr, q]
                        · simp [Instr.sliceBounds, hmr, q, q']
                      · cases hh0
                    · cases hh0
              · cases hm
            · cases hm
def cutS (l n i j : Nat) : Nat := Nat.mod (Nat.div n (Nat.pow 256 (Nat.sub l j))) (Nat.pow 256 (Nat.sub j i))
theorem StrR.cut {s : ByteArray} {l n i j : Nat} (h : StrR s l n) (hij : i ≤ j) (hj : j ≤ l) : StrR (s.extract i j) (Nat.sub j i) (cutS l n i j) := by
  have hd : (s.extract i j).data.toList = (s.data.toList.take j).drop i := by
    rw [ByteArray.data_extract, Array.toList_extract, List.extract_eq_take_drop, List.drop_take]
  refine ⟨?_, ?_⟩
  · rw [ByteArray.size_extract, h.l]
    show min j l - i = j - i
    omega
  · rw [hd, sn_drop, sn_take, h.n, h.len]
    show n / 256 ^ (l - j) % _ = n / 256 ^ (l - j) % 256 ^ (j - i)
    rw [List.length_take, h.len, Nat.min_eq_left hj]
def xslice (P : Program) (h : Heap) (t : TypeId) (x : XV) (lo hi mx : Option XV) : Option XV :=
  match P.underlying t, x with
  | some .string, .str l n => match mx, bnds l l lo hi none with
    | none, some (i, j, _) => some (.str (Nat.sub j i) (cutS l n i j))
    | _, _ => none
  | some (.slice e), .sl b o len cap k ex => match szOf P e, bnds len cap lo hi mx with
    | some n, some (i, j, m) => match Nat.beq n k with
      | true => some (.sl b (Nat.add o (Nat.mul i k)) (Nat.sub j i) (Nat.sub m i) k (match mx with | none => ex | some _ => true))
      | false => none
    | _, _ => none
  | some (.slice e), .nils => match szOf P e, bnds 0 0 lo hi mx with
    | some _, some _ => some .nils
    | _, _ => none
  | some (.array len e), .ptr b o => match szOf P e, bnds len len lo hi mx, h.get b with
    | some k, some (i, j, m), some (.cells _ n _ _ _) => match Nat.ble (Nat.add o (Nat.mul len k)) n with
      | true => some (.sl b (Nat.add o (Nat.mul i k)) (Nat.sub j i) (Nat.sub m i) k true)
      | false => none
    | _, _, _ => none
  | _, _ => none
theorem xslice_ok (hr : HR B β h nx w) {t : TypeId} {x y : XV} {v : Value} {lo hi mx : Option XV} {lo' hi' mx' : Option Value} (hv : VR β x v) (h1 : OptR β lo lo') (h2 : OptR β hi hi') (h3 : OptR β mx mx') (hx : xslice P h t x lo hi mx = some y) :
    RunV P w β (Instr.sliceAt t v lo' hi' mx') y := by
  unfold xslice at hx
  split at hx
  · rename_i l n hun
    obtain ⟨s, rfl, hs⟩ := hv
    split at hx
    · rename_i i j m hb
      cases hx
      cases mx' with
      | some _ => exact h3.elim
      | none =>
        obtain ⟨m', q1, q2, q3, q4, q5, _⟩ := bnds_ok (P := P) (isS := false) h1 h2 (mx := none) (mx' := none) trivial hb (Nat.le_refl _) (Nat.le_refl _) w
        obtain ⟨rfl, rfl⟩ := q5 rfl
        refine ⟨.string (s.extract i j), ?_, _, rfl, hs.cut q2 q3⟩
        simp only [Instr.sliceAt, Instr.slice, run_und hun, Sem.run_bind, Result.andThen_ok, Option.isSome_none, Bool.false_eq_true, if_false, Sem.run_pure, hs.l, q1]
    · cases hx
  · rename_i e b o len cap k ex hun
    obtain ⟨bi, hbi, x, c, rfl, c1, c2, c3, c4⟩ := hv
    split at hx
    · rename_i n i j m hn hb
      split at hx
      · rename_i ek
        have ek := beq_t ek
        subst ek
        cases hx
        obtain ⟨m', q1, q2, q3, q4, q5, q6⟩ := bnds_ok (P := P) (isS := true) h1 h2 h3 hb c1 c2 w
        have hm' : m' ≤ c := by
          cases mx with
          | none => rw [(q5 rfl).2]; exact Nat.le_refl _
          | some _ => rw [(q6 (by simp)).1]; exact Nat.le_trans (q6 (by simp)).2 c1
        refine ⟨.slice (if m' = i then some ⟨bi.rb, x, none⟩ else some (Addr.add ⟨bi.rb, x, none⟩ (i * n))) (j - i) (m' - i), ?_, bi, hbi, (if m' = i then x else x + i * n), m' - i, ?_, ?_, ?_, ?_, fun hc => ?_⟩
        · simp only [Instr.sliceAt, Instr.slice, run_und hun, Sem.run_bind, Result.andThen_ok, q1, run_size hn, Sem.run_pure, Option.map_some]
        · by_cases em : m' = i
          · rw [if_pos em, if_pos em]; rfl
          · rw [if_neg em, if_neg em, add_none]; rfl
        · show m - i ≤ m' - i
          omega
        · show j - i ≤ m - i
          omega
        · intro he
          cases mx with
          | none =>
            obtain ⟨rfl, rfl⟩ := q5 rfl
            have := c3 he
            show _ = m - i
            rw [this]
          | some _ =>
            show m' - i = m - i
            rw [(q6 (by simp)).1]
        · have em : m' ≠ i := by omega
          rw [if_neg em]
          obtain ⟨d1, d2⟩ := c4 (by omega)
          refine ⟨by rw [d1]; show _ = bi.base + (o + i * n); omega, ?_⟩
          have hle : i * n + (m' - i) * n ≤ c * n := by
            rw [← Nat.add_mul]
            exact Nat.mul_le_mul_right _ (by omega)
          omega
      · cases hx
    · cases hx
  · rename_i e hun
    rw [VR] at hv
    subst hv
    split at hx
    · rename_i n q hn hb
      obtain ⟨i, j, m⟩ := q
      cases hx
      obtain ⟨m', q1, q2, q3, q4, q5, q6⟩ := bnds_ok (P := P) (isS := true) h1 h2 h3 hb (Nat.le_refl _) (Nat.le_refl _) w
      have hm : m = 0 ∧ m' = 0 := by
        cases mx with
        | none => exact q5 rfl
        | some _ => have := q6 (by simp); omega
      refine ⟨.slice none 0 0, ?_, rfl⟩
      have e1 : j - i = 0 := by omega
      have e2 : m' - i = 0 := by omega
      simp only [Instr.sliceAt, Instr.slice, run_und hun, Sem.run_bind, Result.andThen_ok, q1, run_size hn, Sem.run_pure, Option.map_none, e1, e2, ite_self]
    · cases hx
  · rename_i len e b o hun
    obtain ⟨bi, hbi, rfl⟩ := hv
    split at hx
    · rename_i k i j m tt n ee ww xx hn hb hg
      split at hx
      · rename_i hle
        have hle : o + len * k ≤ n := Nat.le_of_ble_eq_true hle
        cases hx
        obtain ⟨m', q1, q2, q3, q4, q5, q6⟩ := bnds_ok (P := P) (isS := false) h1 h2 h3 hb (Nat.le_refl _) (Nat.le_refl _) w
        have hmm : m' = m ∧ m ≤ len := by
          cases mx with
          | none => have := q5 rfl; omega
          | some _ => have := q6 (by simp); omega
        obtain ⟨rfl, hml⟩ := hmm
        obtain ⟨c, fr, _, _, hsz, _⟩ := hr.blk b bi _ hbi hg
        refine ⟨.slice (some (if m' = i then ⟨bi.rb, bi.base + o, none⟩ else Addr.add ⟨bi.rb, bi.base + o, none⟩ (i * k))) (j - i) (m' - i), ?_, bi, hbi, (if m' = i then bi.base + o else bi.base + o + i * k), m' - i, ?_, Nat.le_refl _, ?_, fun _ => rfl, fun hc => ?_⟩
        · simp only [Instr.sliceAt, Instr.sureAddr, run_und hun, Sem.run_bind, Result.andThen_ok, q1, run_size hn, Sem.run_pure]
        · by_cases em : m' = i
          · rw [if_pos em, if_pos em]; rfl
          · rw [if_neg em, if_neg em, add_none]; rfl
        · show j - i ≤ m' - i
          omega
        · have em : m' ≠ i := by omega
          rw [if_neg em]
          refine ⟨by show _ = bi.base + (o + i * k); omega, ?_⟩
          have hle2 : i * k + (m' - i) * k ≤ len * k := by
            rw [← Nat.add_mul]
            exact Nat.mul_le_mul_right _ (by omega)
          omega
      · cases hx
    · cases hx
  · cases hx
/-! ### addresses, parts -/
def xfieldAddr (P : Program) (s : TypeId) (x : XV) (f : Nat) : Option XV :=
  match P.underlying s, x with
  | some (.struct fs), .ptr b o => match fs[f]? with
    | some fd => match szOf P fd.type with
      | some n => match Nat.beq n 0 with
        | false => some (.ptr b (Nat.add o fd.offset))
        | true => none
      | none => none
    | none => none
  | _, _ => none
theorem xfieldAddr_ok {s : TypeId} {x y : XV} {v : Value} {f : Nat} (hv : VR β x v) (hx : xfieldAddr P s x f = some y) : RunV P w β (Instr.fieldAt s v f) y := by
  unfold xfieldAddr at hx
  split at hx
  · rename_i fs b o hun
    obtain ⟨bi, hbi, rfl⟩ := hv
    split at hx
    · rename_i fd hf
      split at hx
      · rename_i n hn
        split at hx
        · rename_i e0
          have e0 := beq_f e0
          cases hx
          refine ⟨.pointer (some ⟨bi.rb, bi.base + o + fd.offset, none⟩), ?_, bi, hbi, by show _ = Value.pointer (some ⟨bi.rb, bi.base + (o + fd.offset), none⟩); rw [Nat.add_assoc]⟩
          simp only [Instr.fieldAt, run_und hun, Sem.run_bind, Result.andThen_ok, hf, Instr.sureAddr, Sem.run_pure, fieldPlace, run_size hn, if_neg e0, add_none]
        · cases hx
      · cases hx
    · cases hx
  · cases hx
def xindexAddr (P : Program) (t : TypeId) (x i : XV) : Option XV :=
  match P.underlying t, x, xnat i with
  | some (.slice e), .sl b o len _ k _, some i => match szOf P e, Nat.blt i len with
    | some n, true => match Nat.beq n k with
      | true => some (.ptr b (Nat.add o (Nat.mul i k)))
      | false => none
    | _, _ => none
  | some (.array len e), .ptr b o, some i => match szOf P e, Nat.blt i len with
    | some n, true => some (.ptr b (Nat.add o (Nat.mul i n)))
    | _, _ => none
  | _, _, _ => none
theorem xindexAddr_ok {t : TypeId} {x i y : XV} {v u : Value} (hv : VR β x v) (hu : VR β i u) (hx : xindexAddr P t x i = some y) : RunV P w β (Instr.indexAt t v u) y := by
  unfold xindexAddr at hx
  split at hx
  · rename_i e b o len cap k ex ix hun hi
    obtain ⟨bi, hbi, x, c, rfl, c1, c2, c3, c4⟩ := hv
    obtain ⟨kk, rfl⟩ := xnat_ok hi hu
    split at hx
    · rename_i n hn hlt
      have hlt : ix < len := by simpa [blt_iff] using hlt
      split at hx
      · rename_i ek
        have ek := beq_t ek
        subst ek
        cases hx
        obtain ⟨d1, d2⟩ := c4 (by omega)
        refine ⟨.pointer (some ⟨bi.rb, x + ix * n, none⟩), ?_, bi, hbi, by rw [d1]; show Value.pointer (some ⟨bi.rb, bi.base + o + ix * n, none⟩) = Value.pointer (some ⟨bi.rb, bi.base + (o + ix * n), none⟩); rw [Nat.add_assoc]⟩
        have cc : (0 : Int) ≤ (ix : Int) ∧ (ix : Int) < (len : Int) := by omega
        simp only [Instr.indexAt, asIntOf, run_und hun, Sem.run_bind, Result.andThen_ok, Sem.run_pure, cc, and_self, if_true, run_size hn, Int.toNat_natCast, add_none]
      · cases hx
    · cases hx
  · rename_i len e b o ix hun hi
    obtain ⟨bi, hbi, rfl⟩ := hv
    obtain ⟨kk, rfl⟩ := xnat_ok hi hu
    split at hx
    · rename_i n hn hlt
      have hlt : ix < len := by simpa [blt_iff] using hlt
      cases hx
      refine ⟨.pointer (some ⟨bi.rb, bi.base + o + ix * n, none⟩), ?_, bi, hbi, by show _ = Value.pointer (some ⟨bi.rb, bi.base + (o + ix * n), none⟩); rw [Nat.add_assoc]⟩
      have cc : (0 : Int) ≤ (ix : Int) ∧ (ix : Int) < (len : Int) := by omega
      simp only [Instr.indexAt, asIntOf, run_und hun, Sem.run_bind, Result.andThen_ok, Sem.run_pure, cc, and_self, if_true, run_size hn, Int.toNat_natCast, add_none, Instr.sureAddr]
    · cases hx
  · cases hx
/-- A part of a struct, an array: so many cells from there on. -/
def xpart (P : Program) (t : TypeId) (cs : List XV) (off : Nat) : Option XV :=
  match P.underlying t, szOf P t with
  | some d, some n => match isAggD d with
    | true => some (.agg ((cs.drop off).take n))
    | false => cs[off]?
  | _, _ => none
theorem xpart_ok {t : TypeId} {cs : List XV} {off : Nat} {vs : Array Value} {y : XV} (hv : VRs β cs vs.toList) (hx : xpart P t cs off = some y) : RunV P w β (part t vs off) y := by
  unfold xpart at hx
  split at hx
  · rename_i d n hd hn
    split at hx
    · rename_i hagg
      cases hx
      refine ⟨.agg (vs.extract off (off + n)), ?_, _, rfl, ?_⟩
      · simp only [part, Sem.run_bind, run_isAgg hd, Result.andThen_ok, hagg, if_true, run_size hn, Sem.run_pure]
      · rw [Array.toList_extract, List.extract_eq_take_drop, show off + n - off = n by omega]
        exact (hv.drop off).take n
    · rename_i hagg
      obtain ⟨v, h1, h2⟩ := hv.get hx
      refine ⟨v, ?_, h2⟩
      rw [Array.getElem?_toList] at h1
      simp [part, run_isAgg hd, hagg, h1]
  · cases hx
def xfield (P : Program) (t : TypeId) (x : XV) (f : Nat) : Option XV :=
  match P.underlying t, x with
  | some (.struct fs), .agg cs => match fs[f]? with
    | some fd => xpart P fd.type cs fd.offset
    | none => none
  | _, _ => none
theorem xfield_ok {t : TypeId} {x y : XV} {v : Value} {f : Nat} (hv : VR β x v) (hx : xfield P t x f = some y) : RunV P w β (Instr.field t v f) y := by
  unfold xfield at hx
  split at hx
  · rename_i fs cs hun
    obtain ⟨vs, rfl, hvs⟩ := hv
    split at hx
    · rename_i fd hf
      obtain ⟨u, k1, k2⟩ := xpart_ok (w := w) hvs hx
      refine ⟨u, ?_, k2⟩
      simp only [Instr.field, run_und hun, Sem.run_bind, Result.andThen_ok, hf, asAgg, Sem.run_pure, k1]
    · cases hx
  · cases hx
def xindex (P : Program) (t : TypeId) (x i : XV) : Option XV :=
  match P.underlying t, x, xnat i with
  | some (.array len e), .agg cs, some i => match szOf P e, Nat.blt i len with
    | some n, true => xpart P e cs (Nat.mul i n)
    | _, _ => none
  | some .string, .str l n, some i => match Nat.blt i l with
    | true => some (.int .u8 (Nat.mod (Nat.div n (Nat.pow 256 (Nat.sub (Nat.sub l 1) i))) 256))
    | false => none
  | _, _, _ => none
theorem xindex_ok {t : TypeId} {x i y : XV} {v u : Value} (hv : VR β x v) (hu : VR β i u) (hx : xindex P t x i = some y) : RunV P w β (Instr.index t v u) y := by
  unfold xindex at hx
  split at hx
  · rename_i len e cs ix hun hi
    obtain ⟨vs, rfl, hvs⟩ := hv
    obtain ⟨kk, rfl⟩ := xnat_ok hi hu
    split at hx
    · rename_i n hn hlt
      have hlt : ix < len := by simpa [blt_iff] using hlt
      obtain ⟨u, k1, k2⟩ := xpart_ok (w := w) hvs hx
      refine ⟨u, ?_, k2⟩
      have cc : (0 : Int) ≤ (ix : Int) ∧ (ix : Int) < (len : Int) := by omega
      have k1' : (part e vs (ix * n)).run P w = .ok u w := k1
      simp only [Instr.index, asIntOf, run_und hun, Sem.run_bind, Result.andThen_ok, Sem.run_pure, cc, and_self, if_true, run_size hn, Int.toNat_natCast, k1']
    · cases hx
  · rename_i l n ix hun hi
    obtain ⟨s, rfl, hs⟩ := hv
    obtain ⟨kk, rfl⟩ := xnat_ok hi hu
    split at hx
    · rename_i hlt
      have hlt : ix < l := by simpa [blt_iff] using hlt
      cases hx
      have hsz : ix < s.size := by rw [hs.l]; exact hlt
      have hb : s[ix]? = some s[ix] := getElem?_pos s ix hsz
      have hb2 : s.data.toList[ix]? = some s[ix] := by
        rw [Array.getElem?_toList]
        exact getElem?_pos s.data ix hsz
      have hn := sn_get hb2
      rw [hs.n, hs.len] at hn
      refine ⟨.int .u8 (s[ix].toNat : Int), ?_, by rw [hn]; rfl⟩
      have cc : (0 : Int) ≤ (ix : Int) := by omega
      simp only [Instr.index, asIntOf, run_und hun, Sem.run_bind, Result.andThen_ok, Sem.run_pure, cc, if_true, Int.toNat_natCast, hb]
    · cases hx
  · cases hx
def xextract (x : XV) (i : Nat) : Option XV :=
  match x with
  | .tup xs => xs[i]?
  | _ => none
theorem xextract_ok {x y : XV} {v : Value} {i : Nat} (hv : VR β x v) (hx : xextract x i = some y) : RunV P w β (Instr.extract v i) y := by
  unfold xextract at hx
  split at hx
  · obtain ⟨vs, rfl, hvs⟩ := hv
    obtain ⟨u, h1, h2⟩ := hvs.get hx
    rw [Array.getElem?_toList] at h1
    exact ⟨u, by simp [Instr.extract, h1], h2⟩
  · cases hx
end
end
end Go.Proofs.YtohcohbbmjhnfaaGreatDoor.X
