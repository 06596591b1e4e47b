/-
Closed runs: append, copy, clear, a string that shares bytes. Condition: none.
-/
import Derived.Test.YtohcohbbmjhnfaaGreatDoorXJ
set_option linter.unusedVariables false
set_option linter.unusedSectionVars false
set_option linter.unusedSimpArgs false
namespace Go.Proofs.YtohcohbbmjhnfaaGreatDoor.X
open Go Go.RowKit
noncomputable section
variable [Tabs]
section
variable {P : Program} {B fl : Nat} {β : Ren} {h : Heap} {nx : Nat} {w : World}
def notInt : TypeDesc → Bool
  | .slice _ => true
  | .string => true
  | _ => false
theorem run_append_in {t u ty e : TypeId} {D : TypeDesc} {k n sLen sCap : Nat} {a : Option Addr} {x : Value} {us : List Value} {w' : World} (ht : P.underlying t = some (.slice e)) (hu : P.underlying u = some D) (hD : notInt D = true) (hk : szOf P e = some k)
    (hl : (Builtin.lenOf x).run P w = .ok n w) (hf : (Builtin.firstCells k n x).run P w = .ok us.toArray w) (hle : sLen + n ≤ sCap) (hst : match a with
      | none => w' = w
      | some a => (storeCells (a.add (sLen * k)) us).run P w = .ok () w') :
    (Builtin.append_ #[t, u] ty #[.slice a sLen sCap, x]).run P w = .ok (.slice a (sLen + n) sCap) w' := by
  cases a with
  | none =>
    subst hst
    cases D <;> first | (cases hD; done) | simp [Builtin.append_, run_und ht, run_und hu, run_size hk, hl, hf, hle]
  | some a =>
    cases D <;> first | (cases hD; done) | simp [Builtin.append_, run_und ht, run_und hu, run_size hk, hl, hf, hle, hst]
theorem run_append_out {t u ty e : TypeId} {D : TypeDesc} {i : TypeInfo} {z : Value} {k n sLen sCap : Nat} {a : Option Addr} {x : Value} {olds news : List Value} (ht : P.underlying t = some (.slice e)) (hu : P.underlying u = some D) (hD : notInt D = true) (hi : P.info? e = some i) (hk : i.size = k) (hz : i.zero = some z)
    (hl : (Builtin.lenOf x).run P w = .ok n w) (ho : (Builtin.firstCells k sLen (.slice a sLen sCap)).run P w.drew = .ok olds.toArray w.drew) (hf : (Builtin.firstCells k n x).run P w.drew = .ok news.toArray w.drew) (hgt : sCap < sLen + n)
    (h63 : sLen + n ≤ 1000000) (h48 : i.bytes ≤ 100000) :
    (Builtin.append_ #[t, u] ty #[.slice a sLen sCap, x]).run P w = .ok (.slice (some ⟨w.heap.size, 0, none⟩) (sLen + n) (grownCap w (sLen + n) sCap e))
      (w.drew.alloc (.cells (olds.toArray ++ news.toArray ++ Builtin.zeroCells z.cells (grownCap w (sLen + n) sCap e - (sLen + n))) e)) := by
  have hn : ¬ (sLen + n ≤ sCap) := by omega
  have h63' : ¬ (9223372036854775807 < ((sLen : Int) + (n : Int))) := by omega
  have hb : (sLen + n) * i.bytes ≤ 140737488355328 := by
    have : (sLen + n) * i.bytes ≤ 1000000 * 100000 := Nat.mul_le_mul h63 h48
    omega
  have hfit := growslice_fits hgt hb
  have h48' : ¬ (281474976710656 < Builtin.nextslicecap (sLen + n) sCap * i.bytes) := by omega
  subst hk
  have hdr : ({ w with drawn := w.drawn + 1 } : World) = w.drew := rfl
  cases D <;> first | (cases hD; done) | skip
  all_goals (
    simp [Builtin.append_, run_und ht, run_und hu, sizeOf, typeInfo, zeroValue, hi, hz, hl, hn, h63', h48', Question.forced, hdr, hf, ho, newRow, grownCap]
    try (congr 2; apply Array.ext'; simp [List.append_assoc]))
def xappend (P : Program) (fl : Nat) (h : Heap) (nx : Nat) (t u : TypeId) (s x : XV) : Option (XV × Heap × Nat) :=
  match P.underlying t, P.underlying u with
  | some (.slice e), some D => match notInt D, P.info? e with
    | true, some i => match zcells P e, srcX h i.size x, Nat.ble i.bytes 100000, Nat.beq i.size 0 with
      | some zs, some (n, news), true, false => match Nat.beq zs.length i.size with | false => none | true => match s with
        | .nils => match Nat.beq n 0, Nat.ble n 1000000, Nat.ble fl nx with
          | true, _, _ => some (.nils, h, nx)
          | false, true, true => some (.sl nx 0 n n i.size false, h.set nx (newX news e false), Nat.succ nx)
          | _, _, _ => none
        | .sl b o len cap k ex => match Nat.beq k i.size, Nat.ble (Nat.add len n) cap with
          | true, true => match wrX fl h b (Nat.add o (Nat.mul len k)) news with
            | some h' => some (.sl b o (Nat.add len n) cap k ex, h', nx)
            | none => none
          | true, false => match rd h b o (Nat.mul len k), Nat.ble (Nat.add len n) 1000000, Nat.ble fl nx with
            | some olds, true, true => match ex with
              | true => some (.sl nx 0 (Nat.add len n) (Nat.add len n) k false, h.set nx (newX (olds ++ news) e false), Nat.succ nx)
              | false => match h.get b with
                | some (.cells _ _ e' true _) => match Nat.beq e e', Nat.ble fl b with
                  | true, true => some (.sl nx 0 (Nat.add len n) (Nat.add len n) k false, (h.set b .dead).set nx (newX (olds ++ news) e false), Nat.succ nx)
                  | _, _ => none
                | _ => none
            | _, _, _ => none
          | _, _ => none
        | _ => none
      | _, _, _, _ => none
    | _, _ => none
  | _, _ => none
theorem size_zeroCells (z : Array Value) (n : Nat) : (Builtin.zeroCells z n).size = n * z.size := by simp [Builtin.zeroCells]
theorem grown_ge (w : World) (need old : Nat) (e : TypeId) : need ≤ grownCap w need old e := by
  unfold grownCap Question.cut
  exact Nat.le_add_right _ _
theorem drew_heap (w : World) : w.drew.heap = w.heap := rfl
/-- The new block of an append. -/
theorem append_new (hr : HR B β h nx w) (hB : B ≤ w.heap.size) (hfl : fl ≤ nx) {e : TypeId} {cs : List XV} {us : List Value} {rest : Array Value} {k need cap : Nat} (hv : VRs β cs us) (h1 : allOne cs = true) (hl : cs.length = need * k) (hc : us.length + rest.size = cap * k) (hle : need ≤ cap) {c : Array Value} (hcc : c = us.toArray ++ rest) :
    ∃ β', Go_ B fl β h nx w β' (h.set nx (newX cs e false)) (nx + 1) (w.drew.alloc (.cells c e)) ∧ VR β' (.sl nx 0 need need k false) (.slice (some ⟨w.heap.size, 0, none⟩) need cap) := by
  subst hcc
  have hw1 : ∀ q, q < w.heap.size → (w.drew.alloc (.cells (us.toArray ++ rest) e)).heap[q]? = w.heap[q]? := fun q hq => push_ne w.drew _ hq
  have hw2 : (w.drew.alloc (.cells (us.toArray ++ rest) e)).heap[w.heap.size]? = some (.cells (us.toArray ++ rest) e) := push_at w.drew _
  have hsz : (us.toArray ++ rest).size = cap * k := by simp [hc]
  have hnone : β nx = none := by
    cases q : β nx with
    | none => rfl
    | some bi => have := (hr.lt nx bi q).1; omega
  obtain ⟨β', hid, hgo⟩ := hr.alloc (B := B) (fl := fl) (id := nx) (nx' := nx + 1) (o := newX cs e false) (bi := ⟨w.heap.size, 0, cap * k⟩) hnone hfl hB (by omega) (by omega) (.inr trivial) rfl hw1 (by show _ < (w.drew.heap.push _).size; rw [Array.size_push, drew_heap]; omega)
    (Below.alloc (Below.drew (Below.refl B w)) hB _) (Nat.le_refl _) (fun β' hext hid => by
      refine br_new (bi := ⟨w.heap.size, 0, cap * k⟩) (us := us) hw2 rfl hsz (fun i u hu => ?_) (VRs.mono hext _ hv) h1 (fun i hi => Tr.puts_dense cs .nil 0 (fun i hi => by omega) i (by omega)) (frozen0 _) (fun q => by cases q)
      have hlt := (List.getElem?_eq_some_iff.1 hu).1
      rw [Array.getElem?_append_left (by simpa using hlt)]
      simpa using hu)
  refine ⟨β', hgo, ⟨w.heap.size, 0, cap * k⟩, hid, 0, cap, rfl, hle, Nat.le_refl _, (fun q => by cases q), fun _ => ⟨rfl, by show 0 + cap * k ≤ cap * k; omega⟩⟩
theorem xappend_ok (hr : HR B β h nx w) (hB : B ≤ w.heap.size) {t u ty : TypeId} {s x y : XV} {sv xv : Value} {h' : Heap} {nx' : Nat} (hs : VR β s sv) (hxv : VR β x xv) (hx : xappend P fl h nx t u s x = some (y, h', nx')) :
    RunS P B fl β h nx w (Builtin.append_ #[t, u] ty #[sv, xv]) y h' nx' := by
  unfold xappend at hx
  split at hx
  · rename_i e D ht hu
    split at hx
    · rename_i i hD hi
      split at hx
      · rename_i zs n news hzz hsrc hby hk0
        split at hx
        · cases hx
        · rename_i hzl
          have hzl := beq_t hzl
          obtain ⟨i', z, hi', hz, hz1, _⟩ := zcells_info hzz
          rw [hi] at hi'
          cases hi'
          have hzs : z.cells.size = i.size := by have := (hz1 β).length; rw [← hzl, ← this]; simp
          have hby := Nat.le_of_ble_eq_true hby
          have hk0 := beq_f hk0
          obtain ⟨k1, us, k2, k3, k4, k5, k6⟩ := srcX_ok (P := P) hr hxv hsrc
          have hsz : szOf P e = some i.size := by unfold szOf; rw [hi]
          have hf := k6 w (fun _ _ => rfl)
          have hfd := k6 w.drew (fun _ _ => rfl)
          have hrest : ∀ cap m, (Builtin.zeroCells z.cells (cap - m)).size = (cap - m) * i.size := fun cap m => by rw [size_zeroCells, hzs]
          split at hx
          · rw [VR] at hs
            subst hs
            split at hx
            · rename_i h0
              have h0 := beq_t h0
              subst h0
              cases hx
              have hus : us = [] := by cases us with | nil => rfl | cons => simp at k2
              refine ⟨.slice none 0 0, w, β, ?_, Go_.refl hr, rfl⟩
              exact run_append_in (a := none) ht hu hD hsz (k1 w) hf (by omega) rfl
            · rename_i h0 hle hfl
              have h0 := beq_f h0
              have hle := Nat.le_of_ble_eq_true hle
              have hfl := Nat.le_of_ble_eq_true hfl
              cases hx
              have hrun := run_append_out (P := P) (w := w) (ty := ty) (a := none) (sLen := 0) (sCap := 0) (olds := []) ht hu hD hi rfl hz (k1 w) rfl hfd (by omega) (by omega) hby
              simp only [Nat.zero_add] at hrun
              have hge := grown_ge w n 0 e
              generalize grownCap w n 0 e = cap at hrun hge
              obtain ⟨β', g1, g2⟩ := append_new (e := e) (k := i.size) (need := n) (cap := cap) (rest := Builtin.zeroCells z.cells (cap - n)) hr hB hfl k3 k4 k5 (by rw [hrest, k2, ← Nat.add_mul]; congr 1; omega) hge rfl
              refine ⟨_, _, β', hrun, ?_, g2⟩
              have e1 : (([] : List Value).toArray ++ us.toArray ++ Builtin.zeroCells z.cells (cap - n)) = us.toArray ++ Builtin.zeroCells z.cells (cap - n) := by
                apply Array.ext'; simp
              rw [e1]
              exact g1
            · cases hx
          · rename_i b o len cap k ex
            obtain ⟨bi, hb, x0, c, rfl, c1, c2, c3, c4⟩ := hs
            split at hx
            · rename_i hk hle
              have hk := beq_t hk
              subst hk
              have hle : len + n ≤ cap := Nat.le_of_ble_eq_true hle
              split at hx
              · rename_i h2 hw
                cases hx
                by_cases e0 : c = 0
                · -- nothing is appended to nothing
                  have hn0 : n = 0 := by omega
                  have hus : us = [] := by
                    rw [hn0, Nat.zero_mul] at k2
                    cases us with | nil => rfl | cons => simp at k2
                  subst hus
                  have hnews : news = [] := by
                    rw [hn0, Nat.zero_mul] at k5
                    cases news with | nil => rfl | cons => simp at k5
                  obtain ⟨w', q1, q2⟩ := wrX_ok (P := P) hr hb hw k3 k4
                  cases q1
                  refine ⟨.slice (some ⟨bi.rb, x0, none⟩) (len + n) c, w, β, ?_, q2, bi, hb, x0, c, rfl, c1, hle, c3, c4⟩
                  exact run_append_in (w' := w) ht hu hD hsz (k1 w) hf (by omega) rfl
                · obtain ⟨d1, d2⟩ := c4 e0
                  obtain ⟨w', q1, q2⟩ := wrX_ok (P := P) hr hb hw k3 k4
                  refine ⟨.slice (some ⟨bi.rb, x0, none⟩) (len + n) c, w', β, ?_, q2, bi, hb, x0, c, rfl, c1, hle, c3, c4⟩
                  refine run_append_in (w' := w') ht hu hD hsz (k1 w) hf (by omega) ?_
                  show (storeCells (Addr.add ⟨bi.rb, x0, none⟩ (len * i.size)) us).run P w = _
                  rw [add_none, d1, Nat.add_assoc]
                  exact q1
              · cases hx
            · rename_i hk hle
              have hk := beq_t hk
              subst hk
              have hle : ¬ len + n ≤ cap := fun q => by rw [show Nat.ble (len.add n) cap = true from Nat.ble_eq_true_of_le q] at hle; cases hle
              split at hx
              · rename_i olds hrd h63 hfl
                have h63 : len + n ≤ 1000000 := Nat.le_of_ble_eq_true h63
                have hfl := Nat.le_of_ble_eq_true hfl
                obtain ⟨os, o1, o2, o3, o4, o5⟩ := rd_ok hr hb hrd
                have o1 : os.length = len * i.size := o1
                have o5 : olds.length = len * i.size := o5
                have hold : (Builtin.firstCells i.size len (.slice (some ⟨bi.rb, x0, none⟩) len c)).run P w.drew = .ok os.toArray w.drew := by
                  refine run_firstCells_some w.drew i.size len ⟨bi.rb, x0, none⟩ len c os o1 (fun j v hj => ?_)
                  have hne : c ≠ 0 := by
                    intro e0
                    have : len = 0 := by omega
                    rw [this, Nat.zero_mul] at o1
                    have := (List.getElem?_eq_some_iff.1 hj).1
                    omega
                  rw [add_none, (c4 hne).1]
                  exact o4 j v hj
                have hvr : VRs β (olds ++ news) (os ++ us) := o2.append k3
                have hl1 : (olds ++ news).length = (len + n) * i.size := by rw [List.length_append, o5, k5, Nat.add_mul]
                have new : ∀ {h1 : Heap} {c : Nat}, ¬ len + n ≤ c → (Builtin.firstCells i.size len (.slice (some ⟨bi.rb, x0, none⟩) len c)).run P w.drew = .ok os.toArray w.drew → HR B β h1 nx w → (∀ b', b' < fl → h1.get b' = h.get b') → RunS P B fl β h nx w (Builtin.append_ #[t, u] ty #[.slice (some ⟨bi.rb, x0, none⟩) len c, xv]) (.sl nx 0 (len + n) (len + n) i.size false) (h1.set nx (newX (olds ++ news) e false)) (nx + 1) := by
                  intro h1 c hc hold hr1 hfl1
                  have hrun := run_append_out (P := P) (w := w) (ty := ty) (a := some ⟨bi.rb, x0, none⟩) (sLen := len) (sCap := c) (olds := os) ht hu hD hi rfl hz (k1 w) hold hfd (by omega) h63 hby
                  have hge := grown_ge w (len + n) c e
                  generalize grownCap w (len + n) c e = cap' at hrun hge
                  obtain ⟨β', g1, g2⟩ := append_new (fl := fl) (e := e) (k := i.size) (need := len + n) (cap := cap') (rest := Builtin.zeroCells z.cells (cap' - (len + n))) hr1 hB hfl hvr (allOne_app o3 k4) hl1 (by rw [hrest, List.length_append, o1, k2, ← Nat.add_mul, ← Nat.add_mul]; congr 1; omega) hge rfl
                  refine ⟨_, _, β', hrun, ?_, g2⟩
                  have e1 : (os.toArray ++ us.toArray ++ Builtin.zeroCells z.cells (cap' - (len + n))) = (os ++ us).toArray ++ Builtin.zeroCells z.cells (cap' - (len + n)) := by
                    apply Array.ext'; simp
                  rw [e1]
                  exact ⟨g1.ext, g1.none, g1.le, g1.hr, g1.below, g1.size, fun b' hb' => (g1.floor b' hb').trans (hfl1 b' hb')⟩
                split at hx
                · cases hx
                  have hcc := c3 rfl
                  exact new (by rw [hcc]; exact hle) hold hr (fun _ _ => rfl)
                · split at hx
                  · rename_i tt nn e' exx hg
                    split at hx
                    · rename_i he hflb
                      have he := beq_t he
                      subst he
                      have hflb := Nat.le_of_ble_eq_true hflb
                      cases hx
                      by_cases hcap : len + n ≤ c
                      · -- it has room: the old block passes into a new one
                        have hc0 : c ≠ 0 := by omega
                        obtain ⟨d1, d2⟩ := c4 hc0
                        obtain ⟨cc, fr, q1, q2, q3, q4, q5, q6⟩ := hr.blk b bi _ hb hg
                        have hlen : us.length = n * i.size := k2
                        have hin : x0 + len * i.size + 0 + us.length ≤ cc.size := by
                          have : (len + n) * i.size ≤ c * i.size := Nat.mul_le_mul_right _ hcap
                          rw [Nat.add_mul] at this
                          omega
                        have hone : ∀ (j : Nat) v, us[j]? = some v → v.oneCell' = true := fun j v hv => by
                          have hlk := k3.length
                          have hj : j < news.length := by have := (List.getElem?_eq_some_iff.1 hv).1; omega
                          obtain ⟨v', m1, m2⟩ := k3.get (List.getElem?_eq_getElem hj)
                          rw [hv] at m1; cases m1
                          exact m2.one (allOne_get k4 (List.getElem?_eq_getElem hj))
                        obtain ⟨w', s1, s2⟩ := run_stores (P := P) us 0 q1 hin (by rw [q2]; exact q5 rfl) hone
                        rw [Nat.add_zero] at s2
                        have hBb := hr.new b bi _ hb hg rfl
                        obtain ⟨c', p1, p2, p3⟩ := s2.out
                        have hcell : ∀ j v, (os ++ us)[j]? = some v → c'[x0 + j]? = some v := by
                          intro j v hj
                          rw [p3]
                          by_cases e1 : j < len * i.size
                          · rw [if_neg (by omega)]
                            rw [List.getElem?_append_left (by omega)] at hj
                            have := o4 j v hj
                            rw [cell_of q1, ← d1] at this
                            exact this
                          · rw [List.getElem?_append_right (by omega), o1] at hj
                            have hlt := (List.getElem?_eq_some_iff.1 hj).1
                            rw [if_pos (by omega), show x0 + j - (x0 + len * i.size) = j - len * i.size by omega]
                            exact hj
                        obtain ⟨β', hid, hgo⟩ := hr.pass (fl := fl) (o' := newX (olds ++ news) e false) (bi' := ⟨bi.rb, x0, bi.size⟩) hb hg rfl rfl hflb hfl rfl s2.ne s2.size (s2.below hBb) (fun β' hext hid => by
                          refine ⟨c', fr, p1, p2.trans q2, ?_, fun j hj => ?_, fun _ => q5 rfl, fun q => by cases q⟩
                          · show x0 + (olds ++ news).length ≤ bi.size
                            rw [hl1]
                            have : (len + n) * i.size ≤ c * i.size := Nat.mul_le_mul_right _ hcap
                            omega
                          · obtain ⟨y, hy⟩ := Tr.puts_dense (olds ++ news) .nil 0 (fun i hi => by omega) j (by omega)
                            have hy' := cells_get hy
                            obtain ⟨v, m1, m2⟩ := (VRs.mono hext _ hvr).get hy'
                            exact ⟨y, v, hy, hcell j v m1, m2, allOne_get (allOne_app o3 k4) hy'⟩)
                        refine ⟨.slice (some ⟨bi.rb, x0, none⟩) (len + n) c, w', β', ?_, hgo, ⟨bi.rb, x0, bi.size⟩, hid, x0, c, rfl, hcap, Nat.le_refl _, (fun q => by cases q), fun _ => ⟨rfl, d2⟩⟩
                        refine run_append_in (w' := w') ht hu hD hsz (k1 w) hf hcap ?_
                        show (storeCells (Addr.add ⟨bi.rb, x0, none⟩ (len * i.size)) us).run P w = _
                        rw [add_none]
                        exact s1
                      · refine new (h1 := h.set b .dead) hcap hold ?_ (fun b' hb' => Tr.get_set_ne _ _ _ _ (by omega))
                        exact (hr.upd (B := B) (fl := fl) (o' := .dead) hb hg rfl hflb (fun q => by cases q) (fun _ _ => rfl) rfl (Below.refl B w) trivial).hr
                    · cases hx
                  · cases hx
              · cases hx
            · cases hx
          · cases hx
      · cases hx
    · cases hx
  · cases hx
/-- So many zeros are appended to nothing. -/
def xappendZ (P : Program) (fl : Nat) (h : Heap) (nx : Nat) (t u : TypeId) (n : Nat) : Option (XV × Heap × Nat) :=
  match P.underlying t, P.underlying u with
  | some (.slice e), some (.int _) => match P.info? e, zcells P e with
    | some i, some zs => match Nat.ble n 1000000, Nat.ble i.bytes 100000, Nat.beq i.size 0, Nat.ble fl nx, Nat.beq zs.length i.size with
      | true, true, false, true, true => match n with
        | 0 => some (.nils, h, nx)
        | n + 1 => some (.sl nx 0 (Nat.succ n) (Nat.succ n) i.size false, h.set nx (newX (reps zs (Nat.succ n)) e false), Nat.succ nx)
      | _, _, _, _, _ => none
    | _, _ => none
  | _, _ => none
theorem xappendZ_ok (hr : HR B β h nx w) (hB : B ≤ w.heap.size) {t u ty : TypeId} {n : Nat} {y : XV} {h' : Heap} {nx' : Nat} (hx : xappendZ P fl h nx t u n = some (y, h', nx')) :
    RunS P B fl β h nx w (Builtin.append_ #[t, u] ty #[.slice none 0 0, .int .i64 (Int.ofNat n)]) y h' nx' := by
  unfold xappendZ at hx
  split at hx
  · rename_i e kk ht hu
    split at hx
    · rename_i i zs hi hz
      split at hx
      · rename_i q1 q2 q3 q4 q5
        have q1 := Nat.le_of_ble_eq_true q1
        have q2 := Nat.le_of_ble_eq_true q2
        have q3 := beq_f q3
        have q4 := Nat.le_of_ble_eq_true q4
        have q5 := beq_t q5
        obtain ⟨i', z, hi', hzv, hz1, hz3⟩ := zcells_info hz
        rw [hi] at hi'
        cases hi'
        have hzs : z.cells.size = i.size := by have := (hz1 β).length; rw [← q5, ← this]; simp
        have hwrap : IntKind.i64.wrap ((n : Nat) : Int) = (n : Int) := by
          rw [IntKind.wrap_i64]; omega
        have hint : ∀ w : World, (asInt (.int .i64 ((n : Nat) : Int))).run P w = .ok ((n : Nat) : Int) w := fun w => rfl
        cases n with
        | zero =>
          cases hx
          refine ⟨.slice none 0 0, w, β, ?_, Go_.refl hr, rfl⟩
          have hint0 : ∀ w : World, (asInt (.int .i64 (0 : Int))).run P w = .ok (0 : Int) w := fun w => rfl
          have hw0 : IntKind.i64.wrap 0 = 0 := by rw [IntKind.wrap_i64]; omega
          simp [Builtin.append_, run_und ht, run_und hu, sizeOf, typeInfo, zeroValue, hi, hzv, hint0, hw0]
        | succ n =>
          cases hx
          have hge := grown_ge w (n + 1) 0 e
          have hb : (n + 1) * i.bytes ≤ 1000000 * 100000 := Nat.mul_le_mul q1 q2
          have hfit := growslice_fits (need := n + 1) (old := 0) (by omega) (by omega : (n + 1) * i.bytes ≤ 140737488355328)
          have hnot : ¬ (281474976710656 < Builtin.nextslicecap (n + 1) 0 * i.bytes) := by omega
          have hrun : (Builtin.append_ #[t, u] ty #[.slice none 0 0, .int .i64 ((n + 1 : Nat) : Int)]).run P w = .ok (.slice (some ⟨w.heap.size, 0, none⟩) (n + 1) (grownCap w (n + 1) 0 e))
              (w.drew.alloc (.cells (Builtin.zeroCells z.cells (n + 1) ++ Builtin.zeroCells z.cells (grownCap w (n + 1) 0 e - (n + 1))) e)) := by
            have hdr : ({ w with drawn := w.drawn + 1 } : World) = w.drew := rfl
            have hn0 : ¬ (((n : Int) + 1) < 0) := by omega
            have hl48 : ¬ (281474976710656 < ((n : Int) + 1) * (i.bytes : Int)) := by
              have : (((n + 1) * i.bytes : Nat) : Int) ≤ 100000000000 := by omega
              rw [Int.natCast_mul] at this
              push_cast at this
              omega
            have hmax : ¬ (9223372036854775807 < ((n : Int) + 1)) := by omega
            have hn1 : ¬ ((n : Int) + 1 ≤ 0) := by omega
            have hmx : max ((n : Int) + 1) 0 = (n : Int) + 1 := by omega
            have hmz : (n + 1) * i.size ≠ 0 := Nat.mul_ne_zero (by omega) q3
            have hto : ((n : Int) + 1).toNat = n + 1 := by omega
            have hwrap : IntKind.i64.wrap ((n : Int) + 1) = (n : Int) + 1 := by rw [IntKind.wrap_i64]; omega
            have hint : ∀ w : World, (asInt (.int .i64 ((n : Int) + 1))).run P w = .ok ((n : Int) + 1) w := fun w => rfl
            simp [Builtin.append_, run_und ht, run_und hu, sizeOf, typeInfo, zeroValue, hi, hzv, hint, hwrap, hn0, hn1, hmx, hl48, hmax, hto, hnot, hmz, Question.forced, hdr, newRow, grownCap, Builtin.firstCells]
          generalize grownCap w (n + 1) 0 e = cap at hrun hge
          obtain ⟨β', g1, g2⟩ := append_new (fl := fl) (e := e) (k := i.size) (need := n + 1) (cap := cap) (us := (Builtin.zeroCells z.cells (n + 1)).toList) (rest := Builtin.zeroCells z.cells (cap - (n + 1))) hr hB q4 (reps_rel (hz1 β) (n + 1)) (allOne_reps hz3 _) (by rw [reps_len, q5]) (by rw [Array.length_toList, size_zeroCells, size_zeroCells, hzs, ← Nat.add_mul]; congr 1; omega) hge rfl
          refine ⟨_, _, β', hrun, ?_, g2⟩
          simpa using g1
      · cases hx
    · cases hx
  · cases hx
def xappend2 (P : Program) (fl : Nat) (h : Heap) (nx : Nat) (t u : TypeId) (s x : XV) : Option (XV × Heap × Nat) :=
  match s, x with
  | .nils, .int .i64 (.ofNat n) => xappendZ P fl h nx t u n
  | _, _ => xappend P fl h nx t u s x
theorem xappend2_ok (hr : HR B β h nx w) (hB : B ≤ w.heap.size) {t u ty : TypeId} {s x y : XV} {sv xv : Value} {h' : Heap} {nx' : Nat} (hs : VR β s sv) (hxv : VR β x xv) (hx : xappend2 P fl h nx t u s x = some (y, h', nx')) :
    RunS P B fl β h nx w (Builtin.append_ #[t, u] ty #[sv, xv]) y h' nx' := by
  unfold xappend2 at hx
  split at hx
  · rename_i n
    have hs : sv = .slice none 0 0 := hs
    have hxv : xv = .int .i64 (Int.ofNat n) := hxv
    subst hs; subst hxv
    exact xappendZ_ok hr hB hx
  · exact xappend_ok hr hB hs hxv hx
/-! ### copy, clear -/
/-- A list's first rows. -/
def trunc (m : Nat) (x : XV) : Option XV :=
  match x with
  | .sl b o len cap k ex => match Nat.ble m len with
    | true => some (.sl b o m cap k ex)
    | false => none
  | .nils => match m with
    | 0 => some .nils
    | _ => none
  | .str l n => match Nat.beq m l with
    | true => some (.str l n)
    | false => none
  | _ => none
theorem trunc_ok {m : Nat} {x y : XV} {v : Value} (hv : VR β x v) (h : trunc m x = some y) : ∃ u, VR β y u ∧ ∀ k n, Builtin.firstCells k n u = Builtin.firstCells k n v := by
  unfold trunc at h
  split at h
  · split at h
    · rename_i b o len cap k ex hle
      cases h
      obtain ⟨bi, hb, x0, c, rfl, c1, c2, c3, c4⟩ := hv
      have := Nat.le_of_ble_eq_true hle
      exact ⟨.slice (some ⟨bi.rb, x0, none⟩) m c, ⟨bi, hb, x0, c, rfl, c1, by omega, c3, c4⟩, fun _ _ => rfl⟩
    · cases h
  · split at h
    · cases h; exact ⟨v, hv, fun _ _ => rfl⟩
    · cases h
  · split at h
    · cases h; exact ⟨v, hv, fun _ _ => rfl⟩
    · cases h
  · cases h
def lenX : XV → Option Nat
  | .nils => some 0
  | .sl _ _ len _ _ _ => some len
  | .str l _ => some l
  | _ => none
theorem lenX_ok {x : XV} {v : Value} {n : Nat} (hv : VR β x v) (h : lenX x = some n) (w : World) : (Builtin.lenOf v).run P w = .ok n w := by
  unfold lenX at h
  split at h
  · cases h; rw [VR] at hv; subst hv; rfl
  · cases h; obtain ⟨bi, _, x0, c, rfl, _⟩ := hv; rfl
  · cases h; obtain ⟨s, rfl, hs⟩ := hv; show Result.ok s.size w = _; rw [hs.l]
  · cases h
def xcopy (P : Program) (fl : Nat) (h : Heap) (t : TypeId) (d s : XV) : Option (XV × Heap) :=
  match P.underlying t with
  | some (.slice e) => match szOf P e, lenX s with
    | some k, some ls => match d with
      | .nils => match trunc 0 s with
        | some s' => match srcX h k s' with
          | some _ => some (.int .i64 (.ofNat 0), h)
          | none => none
        | none => none
      | .sl b o len _ k' _ => match Nat.beq k k', trunc (Nat.min ls len) s with
        | true, some s' => match srcX h k s' with
          | some (n, cs) => match Nat.beq n (Nat.min ls len) with
            | true => match wrX fl h b o cs with
              | some h' => some (.int .i64 (.ofNat n), h')
              | none => none
            | false => none
          | none => none
        | _, _ => none
      | _ => none
    | _, _ => none
  | _ => none
theorem xcopy_ok (hr : HR B β h nx w) {t ty : TypeId} {ts : Array TypeId} {d s y : XV} {dv sv : Value} {h' : Heap} (hd : VR β d dv) (hs : VR β s sv) (hx : xcopy P fl h t d s = some (y, h')) (hts : ts[0]? = some t) : RunS P B fl β h nx w (Builtin.copy_ ts ty #[dv, sv]) y h' nx := by
  unfold xcopy at hx
  split at hx
  · rename_i e ht
    split at hx
    · rename_i k ls hk hls
      have hl := lenX_ok (P := P) hs hls w
      split at hx
      · split at hx
        · rename_i s' htr
          split at hx
          · rename_i p hsrc
            obtain ⟨n, cs⟩ := p
            cases hx
            rw [VR] at hd
            subst hd
            obtain ⟨u, hu, hfc⟩ := trunc_ok hs htr
            obtain ⟨k1, us, k2, k3, k4, k5, k6⟩ := srcX_ok (P := P) hr hu hsrc
            have hn : n = 0 := by
              cases s with
              | sl b o len cap kk ex =>
                simp only [trunc] at htr
                split at htr
                · cases htr
                  simp only [srcX] at hsrc
                  split at hsrc
                  · cases hsrc; rfl
                  · cases hsrc
                · cases htr
              | nils => simp only [trunc] at htr; cases htr; cases hsrc; rfl
              | str l m =>
                simp only [trunc] at htr
                split at htr
                · rename_i e0
                  have e0 := beq_t e0
                  cases htr
                  simp only [srcX] at hsrc
                  split at hsrc
                  · cases hsrc; exact e0.symm
                  · cases hsrc
                · cases htr
              | _ => cases htr
            subst hn
            have hf := k6 w (fun _ _ => rfl)
            rw [hfc] at hf
            refine ⟨.int .i64 0, w, β, ?_, Go_.refl hr, rfl⟩
            simp [Builtin.copy_, hts, run_und ht, hl, run_size hk, hf, goInt, Nat.min]
          · cases hx
        · cases hx
      · rename_i b o len cap k' ex
        obtain ⟨bi, hb, x0, c, rfl, c1, c2, c3, c4⟩ := hd
        split at hx
        · rename_i s' hkk htr
          have hkk := beq_t hkk
          subst hkk
          split at hx
          · rename_i n cs hsrc
            split at hx
            · rename_i hn
              have hn := beq_t hn
              split at hx
              · rename_i h2 hw
                cases hx
                obtain ⟨u, hu, hfc⟩ := trunc_ok hs htr
                obtain ⟨k1, us, k2, k3, k4, k5, k6⟩ := srcX_ok (P := P) hr hu hsrc
                have hf := k6 w (fun _ _ => rfl)
                rw [hfc] at hf
                obtain ⟨w', q1, q2⟩ := wrX_ok (P := P) hr hb hw k3 k4
                refine ⟨.int .i64 n, w', β, ?_, q2, rfl⟩
                have hst : (storeCells ⟨bi.rb, x0, none⟩ us).run P w = .ok () w' := by
                  by_cases e0 : c = 0
                  · have hlen : len = 0 := by omega
                    have : n = 0 := by rw [hn, hlen]; exact Nat.min_zero _
                    have : us = [] := by
                      rw [this, Nat.zero_mul] at k2
                      cases us with | nil => rfl | cons => simp at k2
                    subst this
                    exact q1
                  · rw [(c4 e0).1]; exact q1
                rw [hn] at hf
                rw [hn]
                simp [Builtin.copy_, hts, run_und ht, hl, run_size hk, hf, goInt, hst]
              · cases hx
            · cases hx
          · cases hx
        · cases hx
      · cases hx
    · cases hx
  · cases hx
def xclear (P : Program) (fl : Nat) (h : Heap) (t : TypeId) (x : XV) : Option Heap :=
  match P.underlying t, x with
  | some (.map _ _), .nilm => some h
  | some (.map _ _), .map b => match h.get b, Nat.ble fl b with
    | some (.map _ clk), true => some (h.set b (.map [] clk))
    | _, _ => none
  | some (.slice _), .nils => some h
  | some (.slice e), .sl b o len _ k _ => match len with
    | 0 => some h
    | len + 1 => match zcells P e with
      | some zs => match Nat.beq zs.length k with
        | true => wrX fl h b o (reps zs (len + 1))
        | false => none
      | none => none
  | _, _ => none
theorem run_setObj {rb : Nat} {o o' : Obj} (hw : w.heap[rb]? = some o) (hn : ∀ c e fr, o ≠ .cells c e fr) : (setObj rb o').run P w = .ok () { w with heap := w.heap.setIfInBounds rb o' } := by
  simp only [setObj, Sem.run, hw]
/-- An object that is no row of cells changes. -/
theorem setObj_ok (hr : HR B β h nx w) {b : Nat} {bi : BI} {ob ob' : AO} {o o' : Obj} (hb : β b = some bi) (hg : h.get b = some ob) (hlive : ob.live = true) (hwr : ob.wr = true) (hfl : fl ≤ b) (hw : w.heap[bi.rb]? = some o) (hn : ∀ c e fr, o ≠ .cells c e fr)
    (hB : ∀ w' : World, w'.heap[bi.rb]? = some o' → BR β w' bi ob') : (setObj bi.rb o').run P w = .ok () { w with heap := w.heap.setIfInBounds bi.rb o' } ∧ Go_ B fl β h nx w β (h.set b ob') nx { w with heap := w.heap.setIfInBounds bi.rb o' } := by
  have hlt := (hr.lt b bi hb).2
  have hBb := hr.new b bi ob hb hg hwr
  have hne : ∀ k, k ≠ bi.rb → ({ w with heap := w.heap.setIfInBounds bi.rb o' } : World).heap[k]? = w.heap[k]? := fun k hk => by
    show (w.heap.setIfInBounds bi.rb o')[k]? = _
    rw [Array.getElem?_setIfInBounds, if_neg (fun e => hk e.symm)]
  refine ⟨run_setObj hw hn, hr.upd hb hg hlive hfl (fun _ => hBb) hne (by simp) ⟨rfl, rfl, rfl, by simp, fun k hk => hne k (by omega)⟩ (hB _ ?_)⟩
  show (w.heap.setIfInBounds bi.rb o')[bi.rb]? = _
  rw [Array.getElem?_setIfInBounds, if_pos rfl, if_pos hlt]
theorem xclear_ok (hr : HR B β h nx w) {t ty : TypeId} {ts : Array TypeId} {x : XV} {v : Value} {h' : Heap} (hv : VR β x v) (hx : xclear P fl h t x = some h') (hts : ts[0]? = some t) : RunS P B fl β h nx w (Builtin.clear_ ts ty #[v]) (.tup []) h' nx := by
  unfold xclear at hx
  split at hx
  · rename_i a b ht
    cases hx
    rw [VR] at hv
    subst hv
    exact ⟨.tuple #[], w, β, by simp [Builtin.clear_, hts, run_und ht], Go_.refl hr, _, rfl, rfl⟩
  · rename_i a b bb ht
    split at hx
    · rename_i es clk hg hfl
      have hfl := Nat.le_of_ble_eq_true hfl
      cases hx
      obtain ⟨bi, hb, rfl⟩ := hv
      obtain ⟨arr, q1, q2⟩ := hr.blk bb bi _ hb hg
      have hgo : (getObj bi.rb).run P w = .ok (.map arr clk) w := run_getObj q1 (fun _ _ _ e => by cases e)
      obtain ⟨s1, s2⟩ := setObj_ok (P := P) (fl := fl) (o' := .map #[] clk) (ob' := .map [] clk) hr hb hg rfl rfl hfl q1 (fun _ _ _ e => by cases e) (fun w' h1 => ⟨#[], h1, rfl⟩)
      exact ⟨.tuple #[], _, β, by simp [Builtin.clear_, hts, run_und ht, hgo, s1], s2, _, rfl, rfl⟩
    · cases hx
  · rename_i e ht
    cases hx
    rw [VR] at hv
    subst hv
    exact ⟨.tuple #[], w, β, by simp [Builtin.clear_, hts, run_und ht], Go_.refl hr, _, rfl, rfl⟩
  · rename_i e b o len cap k ex ht
    obtain ⟨bi, hb, x0, c, rfl, c1, c2, c3, c4⟩ := hv
    split at hx
    · cases hx
      exact ⟨.tuple #[], w, β, by simp [Builtin.clear_, hts, run_und ht], Go_.refl hr, _, rfl, rfl⟩
    · rename_i len
      split at hx
      · rename_i zs hz
        split at hx
        · rename_i hk
          have hk := beq_t hk
          obtain ⟨z, z1, z2, z3⟩ := zcells_run hz
          obtain ⟨w', q1, q2⟩ := wrX_ok (P := P) hr hb hx (reps_rel (z2 β) (len + 1)) (allOne_reps z3 _)
          refine ⟨.tuple #[], w', β, ?_, q2, _, rfl, rfl⟩
          obtain ⟨d1, _⟩ := c4 (by omega)
          rw [← d1] at q1
          have q1' : (storeCells ⟨bi.rb, x0, none⟩ (Builtin.zeroCells z.cells (len + 1)).toList).run P w = .ok () w' := q1
          simp [Builtin.clear_, hts, run_und ht, z1, q1']
        · cases hx
      · cases hx
  · cases hx
end
end
end Go.Proofs.YtohcohbbmjhnfaaGreatDoor.X
