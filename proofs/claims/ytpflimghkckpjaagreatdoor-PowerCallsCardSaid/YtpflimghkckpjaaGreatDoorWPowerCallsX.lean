/-
The law PowerCalls: its call, from a world whose arguments are read.
-/
import Derived.Test.YtpflimghkckpjaaGreatDoorWPowerCalls
set_option linter.unusedVariables false
set_option linter.unusedSimpArgs false
namespace Go.Proofs.YtpflimghkckpjaaGreatDoor.B
open Go.RowKit
def SlOK (A : Option Addr) (n c : Nat) : Prop := (A = none ∧ n = 0 ∧ c = 0) ∨ ∃ b off, A = some ⟨b, off, none⟩
theorem sl_ok {P : Program} {w : World} {r : Reach} {base : Nat} {u : TypeId} {A : Option Addr} {n c : Nat} (h : Cell.okWide P w r base u (.slice A n c)) : SlOK A n c := by
  have h' : Cell.ok P w r base u (.slice A n c) := by
    unfold Cell.okWide at h
    split at h <;> first | exact h | simp_all
  unfold Cell.ok at h'
  split at h'
  all_goals first
    | (rename_i heq; cases heq; done)
    | skip
  all_goals try (rename_i heq; cases heq)
  all_goals first
    | exact h'.elim
    | exact .inl ⟨rfl, rfl, rfl⟩
    | (rename_i a _ ; obtain ⟨_, _, _, hs, _⟩ := h'; obtain ⟨b, o, s⟩ := a; cases hs; exact .inr ⟨b, o, rfl⟩)
    | skip
theorem lv_sl {P : Program} {w : World} {r : Reach} {base : Nat} {t : TypeId} {fs : Array Field} (ht : P.underlying t = some (.struct fs)) {A0 A1 : Option Addr} {n0 c0 n1 c1 : Nat} {rest : List Value}
    (h : Value.okWide P w r base t (.agg (.slice A0 n0 c0 :: .slice A1 n1 c1 :: rest).toArray)) : SlOK A0 n0 c0 ∧ SlOK A1 n1 c1 := by
  unfold Value.okWide at h
  rw [ht] at h
  obtain ⟨cs, e, _, ts, _, _, hc⟩ := h
  cases e
  obtain ⟨u, _, h0⟩ := hc 0 _ rfl
  obtain ⟨u1, _, h1⟩ := hc 1 _ rfl
  exact ⟨sl_ok h0, sl_ok h1⟩
def cellE (l : List (ByteArray × Int)) (i j : Nat) : Value :=
  match l[i]? with
  | some p => if j = 0 then .string p.1 else .int .i64 p.2
  | none => undef
theorem rep_of_rd {w : World} {A : Option Addr} {l : List (ByteArray × Int)} {c : Nat} (h : H.Rd w A l) (hc : l.length ≤ c) (hs : SlOK A l.length c) : RepP (fun b o => b < w.heap.size) w (.slice A l.length c) (.sl (l.map encE)) := by
  rcases hs with ⟨rfl, h0, rfl⟩ | ⟨b, off, rfl⟩
  · have : l = [] := by simpa using h0
    subst this
    exact .nil'
  · have hcell : ∀ i j : Nat, i < l.length → j < 2 → w.cell? ⟨b, off + i * 2 + j, none⟩ = some (cellE l i j) ∧ (cellE l i j).oneCell' = true := by
      intro i j hi hj
      obtain ⟨ad, e, hx⟩ := h.2 (by omega)
      cases e
      obtain ⟨x0, x1⟩ := hx i _ (List.getElem?_eq_getElem hi)
      rw [Addr.add_lit] at x0 x1
      unfold cellE
      rw [List.getElem?_eq_getElem hi]
      obtain rfl | rfl : j = 0 ∨ j = 1 := by omega
      · exact ⟨x0, rfl⟩
      · exact ⟨x1, rfl⟩
    have := RepP.sl (S := fun b o => b < w.heap.size) (w := w) b off 2 c (l.map encE) (cellE l) (by simpa using hc) (fun r hr => by
      obtain ⟨p, _, rfl⟩ := List.mem_map.1 hr
      rfl) (fun i j hi hj => cell_lt (hcell i j (by simpa using hi) hj).1) (fun i j hi hj => hcell i j (by simpa using hi) hj) (fun i j r x hr hx => by
      rw [List.getElem?_map] at hr
      obtain ⟨p, hp, rfl⟩ := Option.map_eq_some_iff.1 hr
      have hlt : j < 2 := (List.getElem?_eq_some_iff.1 hx).1
      unfold cellE
      rw [hp]
      obtain rfl | rfl : j = 0 ∨ j = 1 := by omega
      · cases hx
        exact .lit _ rfl
      · cases hx
        exact .lit _ rfl)
    rw [List.length_map] at this
    exact this
theorem lv_rep {w : World} {A0 A1 : Option Addr} {c0 c1 : Nat} {l0 l1 : List (ByteArray × Int)} (a2 a3 a4 a5 a6 a7 a8 : Int) (h0 : H.Rd w A0 l0) (h1 : H.Rd w A1 l1) (hc0 : l0.length ≤ c0) (hc1 : l1.length ≤ c1) (hs0 : SlOK A0 l0.length c0) (hs1 : SlOK A1 l1.length c1) :
    RepP (fun b o => b < w.heap.size) w (.agg #[.slice A0 l0.length c0, .slice A1 l1.length c1, .int .i64 a2, .int .i64 a3, .int .i64 a4, .int .i64 a5, .int .i64 a6, .int .i64 a7, .int .i64 a8]) (encLv (l0.map encE) (l1.map encE) a2 a3 a4 a5 a6 a7 a8) := by
  refine .agg _ _ rfl (fun v hv => ?_) (fun i v x hv hx => ?_)
  · simp at hv
    rcases hv with rfl | rfl | rfl | rfl | rfl | rfl | rfl | rfl | rfl <;> rfl
  · have hi : i < 9 := by simpa using (Array.getElem?_eq_some_iff.1 hv).1
    obtain rfl | rfl | rfl | rfl | rfl | rfl | rfl | rfl | rfl : i = 0 ∨ i = 1 ∨ i = 2 ∨ i = 3 ∨ i = 4 ∨ i = 5 ∨ i = 6 ∨ i = 7 ∨ i = 8 := by omega
    all_goals
      simp at hv hx
      subst hv hx
    · exact rep_of_rd h0 hc0 hs0
    · exact rep_of_rd h1 hc1 hs1
    all_goals exact .lit _ rfl
theorem repL_of {S : Nat → Nat → Prop} {w : World} : ∀ {vs : List Value} {ps : List PV}, vs.length = ps.length → (∀ (i : Nat) (v : Value) (p : PV), vs[i]? = some v → ps[i]? = some p → RepP S w v p) → RepL S w vs.toArray ps :=
  fun hl h => ⟨by simpa using hl, fun i v p hv hp => h i v p (by simpa using hv) hp⟩
theorem PowerCalls_walk (A0 : Option Addr) (c0 : Nat) (A1 : Option Addr) (c1 : Nat) (a2 a3 a4 a5 a6 a7 a8 : Int) (B0 : Option Addr) (d0 : Nat) (B1 : Option Addr) (d1 : Nat) (b2 b3 b4 b5 b6 b7 b8 : Int) (l0 l1 m0 m1 : List (ByteArray × Int))
    (u v t : ByteArray) (st : Bool) (act : Int) (w : World) (h0 : H.Rd w A0 l0) (h1 : H.Rd w A1 l1) (k0 : H.Rd w B0 m0) (k1 : H.Rd w B1 m1) (hc0 : l0.length ≤ c0) (hc1 : l1.length ≤ c1) (kc0 : m0.length ≤ d0) (kc1 : m1.length ≤ d1)
    (hs : SlOK A0 l0.length c0 ∧ SlOK A1 l1.length c1) (ks : SlOK B0 m0.length d0 ∧ SlOK B1 m1.length d1) (hT : H.Tab w) :
    Calls Tryz.prog 3 #[.agg #[.slice A0 l0.length c0, .slice A1 l1.length c1, .int .i64 a2, .int .i64 a3, .int .i64 a4, .int .i64 a5, .int .i64 a6, .int .i64 a7, .int .i64 a8], .agg #[.slice B0 m0.length d0, .slice B1 m1.length d1, .int .i64 b2, .int .i64 b3, .int .i64 b4, .int .i64 b5, .int .i64 b6, .int .i64 b7, .int .i64 b8], .string u, .string v, .string t, .bool st, .int .i64 act] w
      fun e w' => e = .returned (.bool true) ∧ Below w.heap.size w w' := by
  refine ((powerCalls_ac (l0.map encE) (l1.map encE) l0 l1 rfl rfl a2 a3 a4 a5 a6 a7 a8 (m0.map encE) (m1.map encE) m0 m1 rfl rfl b2 b3 b4 b5 b6 b7 b8 u v t st act).2 w (fun b o => b < w.heap.size) _ hT (fun b o h => h) (repL_of rfl (fun i x p hx hp => ?_))).mono ?_
  · have hi : i < 7 := by simpa using (List.getElem?_eq_some_iff.1 hx).1
    obtain rfl | rfl | rfl | rfl | rfl | rfl | rfl : i = 0 ∨ i = 1 ∨ i = 2 ∨ i = 3 ∨ i = 4 ∨ i = 5 ∨ i = 6 := by omega
    all_goals
      simp only [List.getElem?_cons_zero, List.getElem?_cons_succ, Option.some.injEq] at hx hp
      subst hx hp
    · exact lv_rep _ _ _ _ _ _ _ h0 h1 hc0 hc1 hs.1 hs.2
    · exact lv_rep _ _ _ _ _ _ _ k0 k1 kc0 kc1 ks.1 ks.2
    all_goals exact .lit _ rfl
  · rintro e w' ⟨v', S', rfl, hb, _, _, _, _, hr, _⟩
    rw [(rep_lit hr).1]
    exact ⟨rfl, hb⟩
end Go.Proofs.YtpflimghkckpjaaGreatDoor.B
