/-
Closed runs: what changes memory: stores, append, copy, clear. Condition: none.
-/
import Derived.Test.YtohcohbbmjhnfaaGreatDoorXI
set_option linter.unusedVariables false
set_option linter.unusedSectionVars false
set_option linter.unusedSimpArgs false
namespace Go.Proofs.YtohcohbbmjhnfaaGreatDoor.X
open Go Go.RowKit
noncomputable section
variable [Tabs]
section
variable {P : Program} {B fl : Nat} {β : Ren} {h : Heap} {nx : Nat} {w : World}
/-- A computation that changes memory. -/
def RunS (P : Program) (B fl : Nat) (β : Ren) (h : Heap) (nx : Nat) (w : World) (s : Sem Value) (x : XV) (h' : Heap) (nx' : Nat) : Prop :=
  ∃ v w' β', s.run P w = .ok v w' ∧ Go_ B fl β h nx w β' h' nx' w' ∧ VR β' x v
def RunU (P : Program) (B fl : Nat) (β : Ren) (h : Heap) (nx : Nat) (w : World) (s : Sem Unit) (h' : Heap) (nx' : Nat) : Prop :=
  ∃ w' β', s.run P w = .ok () w' ∧ Go_ B fl β h nx w β' h' nx' w'
/-! ### cells are written -/
theorem frozen_of {rb o : Nat} {c : Array Value} {e : TypeId} {fr : Nat × Nat} (hw : w.heap[rb]? = some (.cells c e fr)) : w.frozen? ⟨rb, o, none⟩ = (decide (fr.1 ≤ o) && decide (o < fr.2)) := by
  simp [World.frozen?, hw]
theorem setCell_at {rb o : Nat} {v : Value} {c : Array Value} {e : TypeId} {fr : Nat × Nat} (hw : w.heap[rb]? = some (.cells c e fr)) : (w.setCell ⟨rb, o, none⟩ v).heap[rb]? = some (.cells (c.setIfInBounds o v) e fr) := by
  simp [World.setCell, Array.getElem?_modify, hw]
theorem run_store1 {rb o : Nat} {v : Value} {c : Array Value} {e : TypeId} {fr : Nat × Nat} (hw : w.heap[rb]? = some (.cells c e fr)) (ho : o < c.size) (hf : FrozenFree fr c.size) (hv : v.oneCell' = true) : (store ⟨rb, o, none⟩ v).run P w = .ok () (w.setCell ⟨rb, o, none⟩ v) := by
  rw [run_store _ _ _ _ _ hv, cell_of hw, Array.getElem?_eq_getElem ho]
  simp only
  rw [if_neg (by rw [frozen_of hw, hf o ho]; simp)]
structure Wrote (w w' : World) (rb off : Nat) (c : Array Value) (e : TypeId) (fr : Nat × Nat) (us : List Value) : Prop where
  out : ∃ c' : Array Value, w'.heap[rb]? = some (.cells c' e fr) ∧ c'.size = c.size ∧ (∀ j, c'[j]? = if off ≤ j ∧ j < off + us.length then us[j - off]? else c[j]?)
  ne : ∀ k, k ≠ rb → w'.heap[k]? = w.heap[k]?
  size : w'.heap.size = w.heap.size
  os : w'.os = w.os
  tape : w'.tape = w.tape
  output : w'.output = w.output
theorem run_stores {rb off : Nat} {e : TypeId} {fr : Nat × Nat} : ∀ (us : List Value) (i : Nat) {w : World} {c : Array Value}, w.heap[rb]? = some (.cells c e fr) → off + i + us.length ≤ c.size → FrozenFree fr c.size → (∀ (j : Nat) u, us[j]? = some u → u.oneCell' = true) →
    ∃ w', (storeCells ⟨rb, off, none⟩ us i).run P w = .ok () w' ∧ Wrote w w' rb (off + i) c e fr us
  | [], i, w, c, hw, _, _, _ => ⟨w, rfl, ⟨⟨c, hw, rfl, fun j => by rw [if_neg (by simp)]⟩, fun _ _ => rfl, rfl, rfl, rfl, rfl⟩⟩
  | u :: us, i, w, c, hw, hle, hf, h1 => by
    have ho : off + i < c.size := by simp at hle; omega
    have hs := run_store1 (P := P) (w := w) hw ho hf (h1 0 u rfl)
    have hw' := setCell_at (w := w) (o := off + i) (v := u) hw
    have hsz : (c.setIfInBounds (off + i) u).size = c.size := by simp
    have hle' : off + (i + 1) + us.length ≤ (c.setIfInBounds (off + i) u).size := by rw [hsz]; simp at hle; omega
    obtain ⟨w', k1, k2⟩ := run_stores us (i + 1) hw' hle' (by rw [hsz]; exact hf) (fun j v hj => h1 (j + 1) v (by simpa using hj))
    refine ⟨w', ?_, ?_⟩
    · unfold storeCells
      rw [add_none]
      simp only [Sem.run_bind, hs, Result.andThen_ok]
      exact k1
    · obtain ⟨c', q1, q2, q3⟩ := k2.out
      refine ⟨⟨c', q1, by rw [q2, hsz], fun j => ?_⟩, fun k hk => (k2.ne k hk).trans (Below.heap_setCell _ _ _ _ hk), k2.size.trans (by simp [World.setCell]), k2.os, k2.tape, k2.output⟩
      rw [q3 j]
      by_cases e1 : off + (i + 1) ≤ j ∧ j < off + (i + 1) + us.length
      · rw [if_pos e1, if_pos (by simp; omega), show j - (off + i) = (j - (off + (i + 1))) + 1 by omega]
        rfl
      · rw [if_neg e1]
        by_cases e2 : j = off + i
        · subst e2
          rw [if_pos (by simp), Nat.sub_self, Array.getElem?_setIfInBounds, if_pos rfl, if_pos ho]
          rfl
        · rw [if_neg (by simp; omega), Array.getElem?_setIfInBounds, if_neg (fun q => e2 q.symm)]
theorem Wrote.below {w' : World} {rb off : Nat} {c : Array Value} {e : TypeId} {fr : Nat × Nat} {us : List Value} (hw : Wrote w w' rb off c e fr us) (hB : B ≤ rb) : Below B w w' :=
  ⟨hw.os, hw.tape, hw.output, by rw [hw.size]; exact Nat.le_refl _, fun k hk => hw.ne k (by omega)⟩
theorem Tr.get_puts_out {α : Type} : ∀ (xs : List α) (t : Tr α) (n m : Nat), (m < n ∨ n + xs.length ≤ m) → (t.puts n xs).get m = t.get m
  | [], t, n, m, _ => rfl
  | x :: xs, t, n, m, h => by
    show ((t.set n x).puts (n + 1) xs).get m = _
    rw [Tr.get_puts_out xs (t.set n x) (n + 1) m (by simp at h; omega), Tr.get_set_ne _ _ _ _ (by simp at h; omega)]
theorem Tr.get_puts_in {α : Type} {t : Tr α} {xs : List α} {n m : Nat} (hd : ∀ i, i < n → ∃ x, t.get i = some x) (h1 : n ≤ m) (h2 : m < n + xs.length) : (t.puts n xs).get m = xs[m - n]? := by
  obtain ⟨x, hx⟩ := Tr.puts_dense xs t n hd m h2
  rcases Tr.get_puts xs t n m x hx with ⟨_, _, h3⟩ | ⟨h3, _⟩
  · rw [hx, h3]
  · omega
/-- Cells of a block are written. -/
def wrX (fl : Nat) (h : Heap) (b o : Nat) (cs : List XV) : Option Heap :=
  match h.get b with
  | some (.cells t n e true ex) => match Nat.ble (Nat.add o cs.length) n, Nat.ble fl b with
    | true, true => some (h.set b (.cells (t.puts o cs) n e true ex))
    | _, _ => none
  | _ => none
theorem wrX_ok (hr : HR B β h nx w) {b o : Nat} {bi : BI} {cs : List XV} {us : List Value} {h' : Heap} (hb : β b = some bi) (hx : wrX fl h b o cs = some h') (hv : VRs β cs us) (h1 : allOne cs = true) :
    ∃ w', (storeCells ⟨bi.rb, bi.base + o, none⟩ us).run P w = .ok () w' ∧ Go_ B fl β h nx w β h' nx w' := by
  unfold wrX at hx
  split at hx
  · rename_i t n e ex hg
    split at hx
    · rename_i hle hfl
      have hle : o + cs.length ≤ n := Nat.le_of_ble_eq_true hle
      have hfl := Nat.le_of_ble_eq_true hfl
      cases hx
      obtain ⟨c, fr, q1, q2, q3, q4, q5, q6⟩ := hr.blk b bi _ hb hg
      have hl := hv.length
      have hone : ∀ (j : Nat) u, us[j]? = some u → u.oneCell' = true := fun j u hu => by
        have hj : j < cs.length := by have := (List.getElem?_eq_some_iff.1 hu).1; omega
        obtain ⟨v, k1, k2⟩ := hv.get (List.getElem?_eq_getElem hj)
        rw [hu] at k1; cases k1
        exact k2.one (allOne_get h1 (List.getElem?_eq_getElem hj))
      have hle2 : bi.base + o + 0 + us.length ≤ c.size := by omega
      obtain ⟨w', k1, k2⟩ := run_stores (P := P) us 0 q1 hle2 (by rw [q2]; exact q5 rfl) hone
      rw [Nat.add_zero] at k2
      refine ⟨w', k1, hr.upd hb hg rfl hfl (fun _ => hr.new b bi _ hb hg rfl) k2.ne k2.size (k2.below (hr.new b bi _ hb hg rfl)) ?_⟩
      obtain ⟨c', p1, p2, p3⟩ := k2.out
      have hd : ∀ i, i < n → ∃ x, t.get i = some x := fun i hi => let ⟨x, _, hx, _⟩ := q4 i hi; ⟨x, hx⟩
      refine ⟨c', fr, p1, p2.trans q2, q3, fun i hi => ?_, q5, q6⟩
      by_cases e1 : o ≤ i ∧ i < o + cs.length
      · have hj : i - o < cs.length := by omega
        obtain ⟨v, m1, m2⟩ := hv.get (List.getElem?_eq_getElem hj)
        refine ⟨cs[i - o], v, ?_, ?_, m2, allOne_get h1 (List.getElem?_eq_getElem hj)⟩
        · rw [Tr.get_puts_in (fun j hj => hd j (by omega)) e1.1 e1.2, List.getElem?_eq_getElem hj]
        · rw [p3, if_pos (by omega), show bi.base + i - (bi.base + o) = i - o by omega]
          exact m1
      · obtain ⟨x, v, m1, m2, m3⟩ := q4 i hi
        refine ⟨x, v, ?_, ?_, m3⟩
        · rw [Tr.get_puts_out _ _ _ _ (by omega)]; exact m1
        · rw [p3, if_neg (by omega)]; exact m2
    · cases hx
  · cases hx
def xstore (P : Program) (fl : Nat) (h : Heap) (t : TypeId) (a x : XV) : Option Heap :=
  match a, x.cells, szOf P t with
  | .ptr b o, some cs, some n => match Nat.beq cs.length n with
    | true => wrX fl h b o cs
    | false => none
  | _, _, _ => none
theorem xstore_ok (hr : HR B β h nx w) {t : TypeId} {a x : XV} {av v : Value} {h' : Heap} (ha : VR β a av) (hv : VR β x v) (hx : xstore P fl h t a x = some h') : RunU P B fl β h nx w (Instr.storeAt t av v) h' nx := by
  unfold xstore at hx
  split at hx
  · rename_i b o cs n hcs hn
    split at hx
    · rename_i e
      have e := beq_t e
      obtain ⟨bi, hb, rfl⟩ := ha
      obtain ⟨k1, k2⟩ := VR.cells hv hcs
      obtain ⟨w', q1, q2⟩ := wrX_ok (P := P) hr hb hx k1 k2
      refine ⟨w', β, ?_, q2⟩
      have hsz : v.cells.size = n := by have := k1.length; rw [← e, ← this]; simp
      simp only [Instr.storeAt, Instr.sureAddr, storeVar, Sem.run_bind, Sem.run_pure, Result.andThen_ok, run_size hn]
      rw [if_neg (by simp [hsz])]
      exact q1
    · cases hx
  · cases hx
/-! ### append -/
def strBytes (n : Nat) : Nat → List XV
  | 0 => []
  | l + 1 => .int .u8 (.ofNat (Nat.mod (Nat.div n (Nat.pow 256 l)) 256)) :: strBytes n l
theorem strBytes_len (n : Nat) : ∀ l, (strBytes n l).length = l
  | 0 => rfl
  | l + 1 => by simp [strBytes, strBytes_len n l]
theorem strBytes_ok : ∀ (bs pre : List UInt8), VRs β (strBytes (sn (pre ++ bs)) bs.length) (bs.map fun b => .int .u8 b.toNat)
  | [], pre => rfl
  | b :: bs, pre => by
    refine .cons ?_ ?_
    · rw [VR]
      have h1 := sn_append (pre ++ [b]) bs
      rw [List.append_assoc] at h1
      have h2 := sn_append pre [b]
      have h3 : sn [b] = b.toNat := by simp [sn]
      rw [h3] at h2
      have hlt := sn_lt bs
      have key : b.toNat = sn (pre ++ b :: bs) / 256 ^ bs.length % 256 := by
        rw [show pre ++ b :: bs = pre ++ ([b] ++ bs) from rfl, h1, Nat.mul_comm, Nat.mul_add_div (Nat.pow_pos (by omega)), Nat.div_eq_of_lt hlt, Nat.add_zero, h2]
        have hb : b.toNat < 256 := b.toNat_lt
        simp only [List.length_cons, List.length_nil, Nat.zero_add, Nat.pow_one]
        rw [Nat.mul_comm, Nat.mul_add_mod, Nat.mod_eq_of_lt hb]
      show Value.int .u8 (b.toNat : Int) = Value.int .u8 ((sn (pre ++ b :: bs) / 256 ^ bs.length % 256 : Nat) : Int)
      rw [← key]
    · have := strBytes_ok bs (pre ++ [b])
      rw [List.append_assoc] at this
      exact this
theorem allOne_bytes (n : Nat) : ∀ l, allOne (strBytes n l) = true
  | 0 => rfl
  | l + 1 => by unfold strBytes allOne; exact allOne_bytes n l
/-- What is appended: its rows' number, its cells. -/
def srcX (h : Heap) (k : Nat) (x : XV) : Option (Nat × List XV) :=
  match x with
  | .nils => some (0, [])
  | .sl b o len _ k' _ => match Nat.beq k k', rd h b o (Nat.mul len k) with
    | true, some cs => some (len, cs)
    | _, _ => none
  | .str l n => match Nat.beq k 1 with
    | true => some (l, strBytes n l)
    | false => none
  | _ => none
theorem srcX_ok (hr : HR B β h nx w) {k n : Nat} {x : XV} {v : Value} {cs : List XV} (hv : VR β x v) (hx : srcX h k x = some (n, cs)) :
    (∀ w : World, (Builtin.lenOf v).run P w = .ok n w) ∧ ∃ us : List Value, us.length = n * k ∧ VRs β cs us ∧ allOne cs = true ∧ cs.length = n * k ∧ ∀ w' : World, (∀ b, b < w.heap.size → w'.heap[b]? = w.heap[b]?) → (Builtin.firstCells k n v).run P w' = .ok us.toArray w' := by
  unfold srcX at hx
  split at hx
  · cases hx
    rw [VR] at hv
    subst hv
    exact ⟨fun w => rfl, [], by simp, rfl, rfl, by simp, fun w' _ => rfl⟩
  · rename_i b o len cap k' ex
    split at hx
    · rename_i cs' hk hrd
      have hk := beq_t hk
      subst hk
      cases hx
      obtain ⟨bi, hb, x, c, rfl, c1, c2, c3, c4⟩ := hv
      obtain ⟨us, k1, k2, k3, k4, k5⟩ := rd_ok hr hb hrd
      have k1 : us.length = n * k := k1
      refine ⟨fun w => rfl, us, k1, k2, k3, k5, fun w' hw' => ?_⟩
      refine run_firstCells_some w' k n ⟨bi.rb, x, none⟩ n c us k1 (fun j v hj => ?_)
      have hne : c ≠ 0 := by
        intro e0
        have : n = 0 := by omega
        rw [this, Nat.zero_mul] at k1
        have := (List.getElem?_eq_some_iff.1 hj).1
        omega
      obtain ⟨d1, _⟩ := c4 hne
      rw [add_none, d1]
      have := k4 j v hj
      have hlt := (hr.lt b bi hb).2
      rw [World.cell?_of_block (w := w) (hw' bi.rb hlt)]
      exact this
    · cases hx
  · rename_i l m
    split at hx
    · rename_i hk
      have hk := beq_t hk
      subst hk
      cases hx
      obtain ⟨s, rfl, hs⟩ := hv
      have hl : s.data.toList.length = n := hs.len
      refine ⟨fun w => by show Result.ok s.size w = _; rw [hs.l], s.data.toList.map fun b => .int .u8 b.toNat, by simp [hl], ?_, allOne_bytes _ _, by rw [strBytes_len]; omega, fun w' _ => ?_⟩
      · have := strBytes_ok (β := β) s.data.toList []
        rw [List.nil_append, hs.n, hl] at this
        exact this
      · show Result.ok ((s.extract 0 n).data.map fun b => Value.int .u8 b.toNat) w' = _
        have : s.extract 0 n = s := by
          rw [← hs.l]
          exact ByteArray.extract_zero_size
        rw [this]
        congr 1
        apply Array.ext'
        simp
    · cases hx
  · cases hx
end
end
end Go.Proofs.YtohcohbbmjhnfaaGreatDoor.X
