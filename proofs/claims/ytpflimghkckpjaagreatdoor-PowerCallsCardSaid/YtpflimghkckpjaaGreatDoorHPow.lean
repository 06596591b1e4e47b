/-
Contracts of power's functions, by hand: user, typed, May, numbers, right.
-/
import Derived.Test.YtpflimghkckpjaaGreatDoorHFind3
set_option linter.unusedVariables false
set_option linter.unusedSimpArgs false
namespace Go.Proofs.YtpflimghkckpjaaGreatDoor.H
open Go.RowKit Go.Shelf

/-- The first entry of a key: its number; or none. -/
def lookS (l : List (ByteArray × Int)) (key : ByteArray) : Int × Bool :=
  match l.find? (fun p => p.1.toList == key.toList) with
  | some p => (p.2, true)
  | none => (0, false)
theorem lookS_at {l : List (ByteArray × Int)} {key : ByteArray} {n : Nat} (h : n < l.length) (he : l[n].1.toList = key.toList) (hf : ∀ x (hx : x < n), l[x].1.toList ≠ key.toList) : lookS l key = (l[n].2, true) := by
  unfold lookS
  have : l.find? (fun p => p.1.toList == key.toList) = some l[n] := by
    rw [List.find?_eq_some_iff_getElem]
    exact ⟨by simp [he], n, h, rfl, fun j hj => by simpa using hf j hj⟩
  rw [this]
theorem lookS_no {l : List (ByteArray × Int)} {key : ByteArray} (hf : ∀ x (hx : x < l.length), l[x].1.toList ≠ key.toList) : lookS l key = (0, false) := by
  unfold lookS
  have : l.find? (fun p => p.1.toList == key.toList) = none := by
    rw [List.find?_eq_none]
    intro p hp
    obtain ⟨x, hx, rfl⟩ := List.getElem_of_mem hp
    simpa using hf x hx
  rw [this]

theorem boxed (w : World) (cs : Array Value) (T : TypeId) : Below w.heap.size w (w.alloc (.cells cs T)) ∧ ∀ i, (w.alloc (.cells cs T)).cell? ⟨w.heap.size, i, none⟩ = cs[i]? :=
  ⟨(Below.refl _ _).alloc (Nat.le_refl _) _, fun i => by rw [World.cell?_alloc_at _ _ _ _ rfl]⟩

set_option maxHeartbeats 1600000 in
set_option maxRecDepth 100000 in
theorem user_any (A0 : Option Addr) (n0 c0 : Nat) (A1 : Option Addr) (n1 c1 : Nat) (a2 a3 a4 a5 a6 a7 a8 : Int) (l : List (ByteArray × Int)) (key : ByteArray) (w : World) (hr : Rd w A0 l) (hlen : l.length ≤ 1000000) (hn : l.length = n0) :
    Calls Tryz.prog 62 #[.agg #[.slice A0 n0 c0, .slice A1 n1 c1, .int .i64 a2, .int .i64 a3, .int .i64 a4, .int .i64 a5, .int .i64 a6, .int .i64 a7, .int .i64 a8], .string key] w fun e w' => e = .returned (.tuple #[.int .i64 (lookS l key).1, .bool (lookS l key).2]) ∧ Below w.heap.size w w' := by
  subst hn
  have HR := Lib.hid hr
  clear hr
  have hu := Tryz.underlying25
  go_enter Tryz.func62, Tryz.ntmps62
  go_wp2_with fail
  obtain ⟨hB0, hC0⟩ := boxed w #[.slice A0 l.length c0, .slice A1 n1 c1, .int .i64 a2, .int .i64 a3, .int .i64 a4, .int .i64 a5, .int .i64 a6, .int .i64 a7, .int .i64 a8] 25
  generalize w.alloc (.cells #[.slice A0 l.length c0, .slice A1 n1 c1, .int .i64 a2, .int .i64 a3, .int .i64 a4, .int .i64 a5, .int .i64 a6, .int .i64 a7, .int .i64 a8] 25) = W at hB0 hC0 ⊢
  have HB0 := Lib.hid hB0
  have x0 := hC0 0
  have X0 : Hid (W.cell? ⟨w.heap.size, 0, none⟩ = some (.slice A0 l.length c0)) := Lib.hid x0
  clear hB0 hC0 x0
  refine (find_user A0 c0 l key W (HR.out.below HB0.out) hlen).mono ?_
  rintro e w1 ⟨i, f, rfl, h1, h2, hb⟩
  have HB1 := Lib.hid (bl_then HB0.out hb)
  have x0 := (hb.cell (World.block_lt_of_cell? _ _ X0.out)).trans X0.out
  clear hb
  cases f with
  | true =>
    obtain ⟨n, rfl, hn, he, hf⟩ := h1 rfl
    have HL := Lib.hid (lookS_at hn he hf)
    clear h2 he hf
    obtain ⟨ad, rfl, hcell⟩ := (HR.out.below HB1.out).2 (by omega)
    obtain ⟨x1, x2⟩ := hcell n _ (List.getElem?_eq_getElem hn)
    clear hcell
    generalize l[n].1 = X1 at x1
    have b3 : (0 : Int) ≤ (n : Int) := by omega
    have b4 : (n : Int) < (l.length : Int) := by omega
    go_wp2
    go_ret2
    exact ⟨by rw [HL.out]; try rfl, HB1.out⟩
  | false =>
    have HL := Lib.hid (lookS_no (h2 rfl))
    clear h1 h2
    go_wp2
    go_ret2
    exact ⟨by rw [HL.out]; try rfl, HB1.out⟩
set_option maxHeartbeats 1600000 in
set_option maxRecDepth 100000 in
theorem typed_any (A0 : Option Addr) (n0 c0 : Nat) (A1 : Option Addr) (n1 c1 : Nat) (a2 a3 a4 a5 a6 a7 a8 : Int) (l : List (ByteArray × Int)) (key : ByteArray) (w : World) (hr : Rd w A1 l) (hlen : l.length ≤ 1000000) (hn : l.length = n1) :
    Calls Tryz.prog 64 #[.agg #[.slice A0 n0 c0, .slice A1 n1 c1, .int .i64 a2, .int .i64 a3, .int .i64 a4, .int .i64 a5, .int .i64 a6, .int .i64 a7, .int .i64 a8], .string key] w fun e w' => e = .returned (.tuple #[.int .i64 (lookS l key).1, .bool (lookS l key).2]) ∧ Below w.heap.size w w' := by
  subst hn
  have HR := Lib.hid hr
  clear hr
  have hu := Tryz.underlying25
  go_enter Tryz.func64, Tryz.ntmps64
  go_wp2_with fail
  obtain ⟨hB0, hC0⟩ := boxed w #[.slice A0 n0 c0, .slice A1 l.length c1, .int .i64 a2, .int .i64 a3, .int .i64 a4, .int .i64 a5, .int .i64 a6, .int .i64 a7, .int .i64 a8] 25
  generalize w.alloc (.cells #[.slice A0 n0 c0, .slice A1 l.length c1, .int .i64 a2, .int .i64 a3, .int .i64 a4, .int .i64 a5, .int .i64 a6, .int .i64 a7, .int .i64 a8] 25) = W at hB0 hC0 ⊢
  have HB0 := Lib.hid hB0
  have x0 := hC0 1
  have X0 : Hid (W.cell? ⟨w.heap.size, 1, none⟩ = some (.slice A1 l.length c1)) := Lib.hid x0
  clear hB0 hC0 x0
  refine (find_typed A1 c1 l key W (HR.out.below HB0.out) hlen).mono ?_
  rintro e w1 ⟨i, f, rfl, h1, h2, hb⟩
  have HB1 := Lib.hid (bl_then HB0.out hb)
  have x0 := (hb.cell (World.block_lt_of_cell? _ _ X0.out)).trans X0.out
  clear hb
  cases f with
  | true =>
    obtain ⟨n, rfl, hn, he, hf⟩ := h1 rfl
    have HL := Lib.hid (lookS_at hn he hf)
    clear h2 he hf
    obtain ⟨ad, rfl, hcell⟩ := (HR.out.below HB1.out).2 (by omega)
    obtain ⟨x1, x2⟩ := hcell n _ (List.getElem?_eq_getElem hn)
    clear hcell
    generalize l[n].1 = X1 at x1
    have b3 : (0 : Int) ≤ (n : Int) := by omega
    have b4 : (n : Int) < (l.length : Int) := by omega
    go_wp2
    go_ret2
    exact ⟨by rw [HL.out]; try rfl, HB1.out⟩
  | false =>
    have HL := Lib.hid (lookS_no (h2 rfl))
    clear h1 h2
    go_wp2
    go_ret2
    exact ⟨by rw [HL.out]; try rfl, HB1.out⟩
end Go.Proofs.YtpflimghkckpjaaGreatDoor.H
