/-
What LightLevels answers at levels that are read: true only for at most 30 entries each, of names of at most 300 bytes. Condition: none.
-/
import Derived.Test.YtpflimghkckpjaaDoorHRd
import Derived.Test.YtpflimghkckpjaaDoorPLight
set_option linter.unusedVariables false
set_option linter.unusedSimpArgs false
namespace Go.Proofs.YtpflimghkckpjaaDoor.H
open Go.RowKit Go.Proofs.YtpflimghkckpjaaDoorW.PrintWords
theorem C_of_rd36 {w : World} {A : Option Addr} {l : List (ByteArray × Int)} (h : Rd w A l) : Kd.C Z.k36 w A (l.map fun p => (⟨p.1, p.2⟩ : Z.S36)).length (l.map fun p => (⟨p.1, p.2⟩ : Z.S36)) := by
  refine ⟨rfl, by rw [List.length_map]; exact h.1, fun hn => ?_⟩
  rw [List.length_map] at hn
  obtain ⟨ad, e, hc⟩ := h.2 hn
  refine ⟨ad, e, fun j p hj => ?_⟩
  rw [List.getElem?_map] at hj
  obtain ⟨q, hq, rfl⟩ := Option.map_eq_some_iff.1 hj
  obtain ⟨h1, h2⟩ := hc j q hq
  refine ⟨_, rfl, Z.k36_mk w _, fun i u hu => ?_⟩
  match i, hu with
  | 0, hu => simp at hu; subst hu; exact h1
  | 1, hu =>
    simp at hu
    subst hu
    show w.cell? (ad.add (j * 2 + 1)) = _
    rw [add_field _ _ 1 (by omega)]
    exact h2
  | i + 2, hu => simp at hu
theorem C_of_rd42 {w : World} {A : Option Addr} {l : List (ByteArray × Int)} (h : Rd w A l) : Kd.C Z.k42 w A (l.map fun p => (⟨p.1, p.2⟩ : Z.S42)).length (l.map fun p => (⟨p.1, p.2⟩ : Z.S42)) := by
  refine ⟨rfl, by rw [List.length_map]; exact h.1, fun hn => ?_⟩
  rw [List.length_map] at hn
  obtain ⟨ad, e, hc⟩ := h.2 hn
  refine ⟨ad, e, fun j p hj => ?_⟩
  rw [List.getElem?_map] at hj
  obtain ⟨q, hq, rfl⟩ := Option.map_eq_some_iff.1 hj
  obtain ⟨h1, h2⟩ := hc j q hq
  refine ⟨_, rfl, Z.k42_mk w _, fun i u hu => ?_⟩
  match i, hu with
  | 0, hu => simp at hu; subst hu; exact h1
  | 1, hu =>
    simp at hu
    subst hu
    show w.cell? (ad.add (j * 2 + 1)) = _
    rw [add_field _ _ 1 (by omega)]
    exact h2
  | i + 2, hu => simp at hu
theorem Light_any (A0 : Option Addr) (c0 : Nat) (A1 : Option Addr) (c1 : Nat) (a2 a3 a4 a5 a6 a7 a8 : Int) (l0 l1 : List (ByteArray × Int)) (hc0 : l0.length ≤ c0) (hc1 : l1.length ≤ c1) :
    ∃ r, (∀ W, Rd W A0 l0 → Rd W A1 l1 → Calls Tryd.prog 7 #[.agg #[.slice A0 l0.length c0, .slice A1 l1.length c1, .int .i64 a2, .int .i64 a3, .int .i64 a4, .int .i64 a5, .int .i64 a6, .int .i64 a7, .int .i64 a8]] W fun e w' => e = .returned (.bool r) ∧ Below W.heap.size W w') ∧
      (r = true → l0.length ≤ 30 ∧ l1.length ≤ 30 ∧ (∀ p ∈ l0, p.1.size ≤ 300) ∧ ∀ p ∈ l1, p.1.size ≤ 300) := by
  obtain ⟨r, hf, hr⟩ := Z.light_tells (l0.map fun p => (⟨p.1, p.2⟩ : Z.S36)) (l1.map fun p => (⟨p.1, p.2⟩ : Z.S42)) a2 a3 a4 a5 a6 a7 a8
  refine ⟨r, fun W h0 h1 => ?_, fun h => ?_⟩
  · have g := Z.outlawkit_LightLevels.calls 200 A0 c0 _ A1 c1 _ a2 a3 a4 a5 a6 a7 a8 r W (C_of_rd36 h0) (by rw [List.length_map]; exact hc0) (C_of_rd42 h1) (by rw [List.length_map]; exact hc1) hf
    simp only [List.length_map] at g
    exact g
  · obtain ⟨n0, n1, s0, s1⟩ := hr h
    rw [List.length_map] at n0 n1
    refine ⟨n0, n1, fun p hp => ?_, fun p hp => ?_⟩
    · obtain ⟨j, hj, rfl⟩ := List.getElem_of_mem hp
      have := s0 j (by rw [List.length_map]; exact hj) (by omega)
      simpa using this
    · obtain ⟨j, hj, rfl⟩ := List.getElem_of_mem hp
      have := s1 j (by rw [List.length_map]; exact hj) (by omega)
      simpa using this
end Go.Proofs.YtpflimghkckpjaaDoor.H
