/-
A value of type Levels, read: two lists of entries in memory and seven numbers. Condition: none.
-/
import Derived.Test.YtpflimghkckpjaaGreatDoorHFind2
import Derived.Deep.SlicePairs
import Derived.WideShapes
import Derived.RowKit
set_option linter.unusedVariables false
set_option linter.unusedSimpArgs false
namespace Go.Proofs.YtpflimghkckpjaaGreatDoor.H
open Go.ChangeShapes Go.WideShapes Go.Deep Go.RowKit
section
variable {H : Type} {enc : TypeId × Value → H}
def strAt : Value → ByteArray
  | .string s => s
  | _ => ⟨#[]⟩
def intAt : Value → Int
  | .int _ n => n
  | _ => 0
set_option maxRecDepth 100000 in
/-- A slice of (name, number). -/
theorem open_entries {t e : TypeId} {f0 f1 : Field} {fuel : Nat} {v : Value} {x : DataW H × List MemPlace} {w : World} (ht : Tryz.prog.underlying t = some (.slice e)) (he : Tryz.prog.underlying e = some (.struct #[f0, f1]))
    (ce : Tryz.prog.cellsOf e = 2) (o0 : f0.offset = 0) (o1 : f1.offset = 1) (c0 : Tryz.prog.cellsOf f0.type = 1) (c1 : Tryz.prog.cellsOf f1.type = 1) (u0 : Tryz.prog.underlying f0.type = some .string) (u1 : Tryz.prog.underlying f1.type = some (.int .i64))
    (h : DataW.trod enc Tryz.prog w 0 (fun _ => true) true fuel t [v] = some x) : ∃ (A : Option Addr) (c : Nat) (l : List (ByteArray × Int)), v = .slice A l.length c ∧ l.length ≤ c ∧ Rd w A l := by
  rcases open_slice_pairs ht he ce o0 o1 c0 c1 h with ⟨hcs, _⟩ | ⟨a, len, cap, m, n, V0, V1, D0, D1, P0, P1, hcs, _, hl, hm, hmm, _, hi⟩
  · simp at hcs
    exact ⟨none, 0, [], hcs, by simp, by simp [Rd]⟩
  · simp at hcs
    refine ⟨some a, cap, (List.range len).map fun i => (strAt (V0 i), intAt (V1 i)), by simpa using hcs, by simpa using hl, ⟨by simp; unfold maxLen at hm; omega, fun _ => ⟨a, rfl, fun j p hj => ?_⟩⟩⟩
    rw [List.getElem?_map] at hj
    obtain ⟨k, hk, rfl⟩ := Option.map_eq_some_iff.1 hj
    obtain ⟨hjl, rfl⟩ := List.getElem?_eq_some_iff.1 hk
    rw [List.length_range] at hjl
    obtain ⟨h0, h1, t0, t1⟩ := hi j (by simp at hmm; omega)
    obtain ⟨s, e0, _, _⟩ := DataW.trod_string u0 t0
    obtain ⟨z, e1, _, _⟩ := DataW.trod_int u1 t1
    simp only [List.cons.injEq, and_true] at e0 e1
    rw [e0] at h0
    rw [e1] at h1
    simp only [List.getElem_range, e0, e1, strAt, intAt]
    refine ⟨h0, ?_⟩
    rw [← h1]
    congr 1
    unfold Addr.add
    by_cases hj0 : j = 0
    · subst hj0; simp
    · rw [if_neg (by omega), if_neg (by omega)]
      simp only [Addr.mk.injEq, and_true, true_and]
      omega
set_option maxRecDepth 100000 in
/-- Levels by value. -/
theorem open_levels {r : Reach} {b0 : Nat} {w : World} {v : Value} {d : DataW H} {p : List MemPlace} (hv : Value.okWide Tryz.prog w r b0 25 v) (h : DataW.Trod enc Tryz.prog w 0 (fun _ => true) true 25 v d p) :
    ∃ (A0 : Option Addr) (c0 : Nat) (A1 : Option Addr) (c1 : Nat) (a2 a3 a4 a5 a6 a7 a8 : Int) (l0 l1 : List (ByteArray × Int)), v = .agg #[.slice A0 l0.length c0, .slice A1 l1.length c1, .int .i64 a2, .int .i64 a3, .int .i64 a4, .int .i64 a5, .int .i64 a6, .int .i64 a7, .int .i64 a8] ∧ l0.length ≤ c0 ∧ l1.length ≤ c1 ∧ Rd w A0 l0 ∧ Rd w A1 l1 := by
  obtain ⟨cs, rfl, hsz⟩ := okWide_struct Tryz.underlying25 hv
  obtain ⟨l⟩ := cs
  have hC : Tryz.prog.cellsOf 25 = 9 := by kernel_rfl
  match l, hsz.trans hC with
  | [v0, v1, v2, v3, v4, v5, v6, v7, v8], _ =>
    obtain ⟨fuel, hf⟩ := h
    obtain ⟨xs, n, _, hx, _, hlen, hg⟩ := DataW.trod_struct Tryz.underlying25 hf
    have g : ∀ (i : Nat) (f : Field) (v : Value) (cs : List Value), cs = [v0, v1, v2, v3, v4, v5, v6, v7, v8] → ([v0, v1, v2, v3, v4, v5, v6, v7, v8] : List Value)[i]? = some v → i < 9 → f.offset = i → Tryz.prog.cellsOf f.type = 1 → (DataW.trod enc Tryz.prog w 0 (fun _ => true) true n f.type ((cs.drop f.offset).take (Tryz.prog.cellsOf f.type)) = xs[i]?) →
        ∃ y, DataW.trod enc Tryz.prog w 0 (fun _ => true) true n f.type [v] = some y := by
      rintro i f v _ rfl hv hi ho hc he
      have hl : xs.length = 9 := hlen
      rw [ho, hc] at he
      obtain rfl | rfl | rfl | rfl | rfl | rfl | rfl | rfl | rfl : i = 0 ∨ i = 1 ∨ i = 2 ∨ i = 3 ∨ i = 4 ∨ i = 5 ∨ i = 6 ∨ i = 7 ∨ i = 8 := by omega
      all_goals
        simp at hv he
        subst hv
        exact ⟨_, he.trans (List.getElem?_eq_getElem (by omega))⟩
    obtain ⟨y0, g0⟩ := g 0 _ v0 _ rfl rfl (by omega) rfl (by kernel_rfl) (hg 0 _ rfl)
    obtain ⟨y1, g1⟩ := g 1 _ v1 _ rfl rfl (by omega) rfl (by kernel_rfl) (hg 1 _ rfl)
    obtain ⟨y2, g2⟩ := g 2 _ v2 _ rfl rfl (by omega) rfl (by kernel_rfl) (hg 2 _ rfl)
    obtain ⟨y3, g3⟩ := g 3 _ v3 _ rfl rfl (by omega) rfl (by kernel_rfl) (hg 3 _ rfl)
    obtain ⟨y4, g4⟩ := g 4 _ v4 _ rfl rfl (by omega) rfl (by kernel_rfl) (hg 4 _ rfl)
    obtain ⟨y5, g5⟩ := g 5 _ v5 _ rfl rfl (by omega) rfl (by kernel_rfl) (hg 5 _ rfl)
    obtain ⟨y6, g6⟩ := g 6 _ v6 _ rfl rfl (by omega) rfl (by kernel_rfl) (hg 6 _ rfl)
    obtain ⟨y7, g7⟩ := g 7 _ v7 _ rfl rfl (by omega) rfl (by kernel_rfl) (hg 7 _ rfl)
    obtain ⟨y8, g8⟩ := g 8 _ v8 _ rfl rfl (by omega) rfl (by kernel_rfl) (hg 8 _ rfl)
    obtain ⟨A0, c0, l0, rfl, hl0, hr0⟩ := open_entries Tryz.underlying22 Tryz.underlying79 (by kernel_rfl) rfl rfl (by kernel_rfl) (by kernel_rfl) Tryz.underlying9 Tryz.underlying2 g0
    obtain ⟨A1, c1, l1, rfl, hl1, hr1⟩ := open_entries Tryz.underlying23 Tryz.underlying81 (by kernel_rfl) rfl rfl (by kernel_rfl) (by kernel_rfl) Tryz.underlying9 Tryz.underlying2 g1
    obtain ⟨a2, e2, _, _⟩ := DataW.trod_int Tryz.underlying2 g2
    obtain ⟨a3, e3, _, _⟩ := DataW.trod_int Tryz.underlying2 g3
    obtain ⟨a4, e4, _, _⟩ := DataW.trod_int Tryz.underlying2 g4
    obtain ⟨a5, e5, _, _⟩ := DataW.trod_int Tryz.underlying2 g5
    obtain ⟨a6, e6, _, _⟩ := DataW.trod_int Tryz.underlying2 g6
    obtain ⟨a7, e7, _, _⟩ := DataW.trod_int Tryz.underlying2 g7
    obtain ⟨a8, e8, _, _⟩ := DataW.trod_int Tryz.underlying2 g8
    simp only [List.cons.injEq, and_true] at e2 e3 e4 e5 e6 e7 e8
    subst e2 e3 e4 e5 e6 e7 e8
    exact ⟨A0, c0, A1, c1, a2, a3, a4, a5, a6, a7, a8, l0, l1, rfl, hl0, hl1, hr0, hr1⟩
end
end Go.Proofs.YtpflimghkckpjaaGreatDoor.H
