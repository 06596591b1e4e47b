/-
Contracts of power's look-ups, continued: slices.IsSortedFunc, BinarySearchFunc, IndexFunc at users' and types' entries.
-/
import Derived.Test.YtpflimghkckpjaaGreatDoorHFind
set_option linter.unusedVariables false
set_option linter.unusedSimpArgs false
namespace Go.Proofs.YtpflimghkckpjaaGreatDoor.H
open Go.RowKit Go.Shelf

/-- A slice of entries (a text, a number) that is read. -/
def Rd (w : World) (A : Option Addr) (l : List (ByteArray × Int)) : Prop :=
  l.length ≤ 9223372036854775807 ∧ (0 < l.length → ∃ ad, A = some ad ∧ ∀ (j : Nat) p, l[j]? = some p → w.cell? (ad.add (j * 2)) = some (.string p.1) ∧ w.cell? ⟨(ad.add (j * 2)).block, (ad.add (j * 2)).off + 1, none⟩ = some (.int .i64 p.2))
theorem Rd.below {w w1 : World} {A : Option Addr} {l : List (ByteArray × Int)} (h : Rd w A l) (hb : Below w.heap.size w w1) : Rd w1 A l := by
  refine ⟨h.1, fun hn => ?_⟩
  obtain ⟨ad, e, hc⟩ := h.2 hn
  refine ⟨ad, e, fun j p hj => ?_⟩
  obtain ⟨h1, h2⟩ := hc j p hj
  exact ⟨(hb.cell (World.block_lt_of_cell? _ _ h1)).trans h1, (hb.cell (World.block_lt_of_cell? _ _ h2)).trans h2⟩
def Srt (l : List (ByteArray × Int)) (i : Int) : Prop := ∀ (j : Nat) (h : j + 1 < l.length), i ≤ j → ltS l[j + 1].1.toList l[j].1.toList = false
theorem cmpS_neg (a b : ByteArray) : ltS a.toList b.toList = decide (cmpS a b < 0) := by
  unfold cmpS
  cases ltS a.toList b.toList with
  | true => simp
  | false => cases ltS b.toList a.toList <;> simp
def SrtPost (l : List (ByteArray × Int)) (w : World) (e : Ending) (w' : World) : Prop := ∃ b, e = .returned (.bool b) ∧ (b = true → Srt l 0) ∧ Below w.heap.size w w'

set_option maxHeartbeats 800000 in
theorem c2_user (s : ByteArray) (n : Int) (t : ByteArray) (q : Nat) (w : World) (h0 : w.cell? ⟨q, 0, none⟩ = some (.func (.func 104) #[] #[])) :
    Calls Tryz.prog 142 #[.agg #[.string s, .int .i64 n], .string t, .pointer (some ⟨q, 0, none⟩)] w fun e w' => e = .returned (.int .i64 (cmpS s t)) ∧ Below w.heap.size w w' := by
  have hq : q < w.heap.size := World.block_lt_of_cell? w _ h0
  have hc := cmp_any s t
  generalize cmpS s t = C at hc ⊢
  go_enter Tryz.func142, Tryz.ntmps142
  go_wp2_with fail
  refine (key_user _ _ _).mono ?_
  rintro e w1 ⟨rfl, hb⟩
  have HB := Lib.hid hb
  clear hb
  go_wp2_with fail
  refine (hc _).mono ?_
  rintro e w2 ⟨rfl, rfl⟩
  go_wp2
  go_ret
  exact ⟨rfl, ((Below.refl _ _).alloc (Nat.le_refl _) _).trans ⟨HB.out.os, HB.out.tape, HB.out.output, HB.out.size, fun i hi => HB.out.block i (by simp; omega)⟩⟩

set_option maxHeartbeats 800000 in
theorem c3_user (s : ByteArray) (n : Int) (t : ByteArray) (q r : Nat) (w : World) (h0 : w.cell? ⟨q, 0, none⟩ = some (.func (.func 104) #[] #[])) (h1 : w.cell? ⟨r, 0, none⟩ = some (.string t)) :
    Calls Tryz.prog 144 #[.agg #[.string s, .int .i64 n], .pointer (some ⟨q, 0, none⟩), .pointer (some ⟨r, 0, none⟩)] w fun e w' => e = .returned (.bool (s.toList == t.toList)) ∧ Below w.heap.size w w' := by
  have hq : q < w.heap.size := World.block_lt_of_cell? w _ h0
  have hr : r < w.heap.size := World.block_lt_of_cell? w _ h1
  go_enter Tryz.func144, Tryz.ntmps144
  go_wp2
  have hB0 : Below w.heap.size w (w.alloc (.cells #[.string s, .int .i64 n] 79)) := (Below.refl _ _).alloc (Nat.le_refl _) _
  go_region_held3 (fun w' => w'.cell? ⟨q, 0, none⟩ = some (.func (.func 104) #[] #[]) ∧ w'.cell? ⟨r, 0, none⟩ = some (.string t) ∧ w'.cell? ⟨w.heap.size, 0, none⟩ = some (.string s) ∧ w'.cell? ⟨w.heap.size, 1, none⟩ = some (.int .i64 n) ∧ Below w.heap.size w w')
    (first | (go_split_ands; refine ⟨?_, ?_, ?_, ?_, ?_⟩ <;> first | (exact (hb.cell (World.block_lt_of_cell? _ _ (by assumption))).trans (by assumption)) | exact bl_then (by assumption) hb) | (refine ⟨?_, ?_, ?_, ?_, ?_⟩ <;> first | exact hB0.drew | go_keep))
    (first | (go_at_call 104; refine (key_user _ _ _).mono ?_; rintro e w1 ⟨rfl, hb⟩))
  go_split_ands
  go_wp2
  go_ret
  exact ⟨rfl, by assumption⟩

set_option maxHeartbeats 1600000 in
theorem sorted_user (A : Option Addr) (c : Nat) (l : List (ByteArray × Int)) (q : Nat) (w : World) (hr : Rd w A l) (h0 : w.cell? ⟨q, 0, none⟩ = some (.func (.func 104) #[] #[])) :
    Calls Tryz.prog 139 #[.slice A l.length c, .func (.func 140) #[] #[.pointer (some ⟨q, 0, none⟩)]] w (SrtPost l w) := by
  have hlen := hr.1
  have HR := Lib.hid hr
  have H0 := Lib.hid h0
  clear hr h0
  go_enter Tryz.func139, Tryz.ntmps139
  go_wp2
  go_loopw [5] (fun v wr => ∃ i : Int, v = .int .i64 i ∧ -1 ≤ i ∧ i < l.length ∧ Hid (Srt l i) ∧ Hid (Below w.heap.size w wr)) (fun v _ => (intOf v).toNat)
  case atStart => exact ⟨_, rfl, by omega, by omega, Lib.hid (fun j h hj => by omega), Lib.hid (Below.refl _ _)⟩
  case round =>
    obtain ⟨i, rfl, hi1, hi2, HS, HB⟩ := hrel
    by_cases hpos : 0 < i
    · obtain ⟨k, rfl⟩ : ∃ k : Nat, i = (k : Int) + 1 := ⟨(i - 1).toNat, by omega⟩
      have hk : k + 1 < l.length := by omega
      obtain ⟨ad, rfl, hcell⟩ := (HR.out.below HB.out).2 (by omega)
      obtain ⟨x1, x2⟩ := hcell (k + 1) _ (List.getElem?_eq_getElem hk)
      obtain ⟨y1, y2⟩ := hcell k _ (List.getElem?_eq_getElem (by omega : k < l.length))
      clear hcell
      have hq := (HB.out.cell (World.block_lt_of_cell? _ _ H0.out)).trans H0.out
      have e1 : ((k : Int) + 1).toNat = k + 1 := by omega
      have CC := fun W h => c1_user l[k + 1].1 l[k + 1].2 l[k].1 l[k].2 q W h
      have hS : ltS l[k + 1].1.toList l[k].1.toList = decide (cmpS l[k + 1].1 l[k].1 < 0) := cmpS_neg _ _
      generalize cmpS l[k + 1].1 l[k].1 = C at CC hS
      have CCH := Lib.hid CC
      have HSG := Lib.hid hS
      clear CC hS
      generalize l[k + 1].1 = X1 at x1 CCH
      generalize l[k + 1].2 = X2 at x2 CCH
      generalize l[k].1 = Y1 at y1 CCH
      generalize l[k].2 = Y2 at y2 CCH
      have hB0 := HB.out
      by_cases hneg : C < 0
      all_goals
        go_wp2
        have b1 : (0 : Int) ≤ (k : Int) + 1 := by omega
        have b2 : (k : Int) + 1 < (l.length : Int) := by omega
        have b3 : (0 : Int) ≤ (k : Int) := by omega
        have b4 : (k : Int) < (l.length : Int) := by omega
        have b5 : IntKind.i64.wrap ((k : Int) + 1 - 1) = (k : Int) := by rw [show (k : Int) + 1 - 1 = (k : Int) from by omega]; exact IntWalk.i64_in _ (by omega)
        have b6 : IntKind.i64.wrap (k : Int) = (k : Int) := IntWalk.i64_in _ (by omega)
        go_region_held3 (fun w' => w'.cell? ⟨q, 0, none⟩ = some (.func (.func 104) #[] #[]) ∧ w'.cell? (ad.add ((k + 1) * 2)) = some (.string X1) ∧ w'.cell? ⟨(ad.add ((k + 1) * 2)).block, (ad.add ((k + 1) * 2)).off + 1, none⟩ = some (.int .i64 X2) ∧ w'.cell? (ad.add (k * 2)) = some (.string Y1) ∧ w'.cell? ⟨(ad.add (k * 2)).block, (ad.add (k * 2)).off + 1, none⟩ = some (.int .i64 Y2) ∧ Below w.heap.size w w')
          (first | (go_split_ands; refine ⟨?_, ?_, ?_, ?_, ?_, ?_⟩ <;> first | (exact (hb.cell (World.block_lt_of_cell? _ _ (by assumption))).trans (by assumption)) | exact bl_then (by assumption) hb) | (refine ⟨?_, ?_, ?_, ?_, ?_, ?_⟩ <;> first | exact hB0.drew | go_keep))
          (first | (go_at_call 140; refine (CCH.out _ (by assumption)).mono ?_; rintro e w1 ⟨rfl, hb⟩))
        go_split_ands
        clear b1 b2 b3 b4 b5 b6
        go_wp2
      · go_ret
        exact ⟨false, rfl, by simp, by assumption⟩
      · go_roundw
        case rel => exact ⟨k, by go_num, by omega, by omega, Lib.hid (fun j h hj => by
            by_cases hjk : (k : Int) + 1 ≤ j
            · exact HS.out j h hjk
            · obtain rfl : j = k := by omega
              rw [HSG.out]; exact decide_eq_false (by omega)), Lib.hid (by assumption)⟩
        case measure => simp [intOf]
    · go_wp2
      go_ret
      exact ⟨true, rfl, fun _ j h hj => HS.out j h (by omega), HB.out⟩
set_option maxHeartbeats 800000 in
theorem c2_typed (s : ByteArray) (n : Int) (t : ByteArray) (q : Nat) (w : World) (h0 : w.cell? ⟨q, 0, none⟩ = some (.func (.func 106) #[] #[])) :
    Calls Tryz.prog 148 #[.agg #[.string s, .int .i64 n], .string t, .pointer (some ⟨q, 0, none⟩)] w fun e w' => e = .returned (.int .i64 (cmpS s t)) ∧ Below w.heap.size w w' := by
  have hq : q < w.heap.size := World.block_lt_of_cell? w _ h0
  have hc := cmp_any s t
  generalize cmpS s t = C at hc ⊢
  go_enter Tryz.func148, Tryz.ntmps148
  go_wp2_with fail
  refine (key_typed _ _ _).mono ?_
  rintro e w1 ⟨rfl, hb⟩
  have HB := Lib.hid hb
  clear hb
  go_wp2_with fail
  refine (hc _).mono ?_
  rintro e w2 ⟨rfl, rfl⟩
  go_wp2
  go_ret
  exact ⟨rfl, ((Below.refl _ _).alloc (Nat.le_refl _) _).trans ⟨HB.out.os, HB.out.tape, HB.out.output, HB.out.size, fun i hi => HB.out.block i (by simp; omega)⟩⟩

set_option maxHeartbeats 800000 in
theorem c3_typed (s : ByteArray) (n : Int) (t : ByteArray) (q r : Nat) (w : World) (h0 : w.cell? ⟨q, 0, none⟩ = some (.func (.func 106) #[] #[])) (h1 : w.cell? ⟨r, 0, none⟩ = some (.string t)) :
    Calls Tryz.prog 150 #[.agg #[.string s, .int .i64 n], .pointer (some ⟨q, 0, none⟩), .pointer (some ⟨r, 0, none⟩)] w fun e w' => e = .returned (.bool (s.toList == t.toList)) ∧ Below w.heap.size w w' := by
  have hq : q < w.heap.size := World.block_lt_of_cell? w _ h0
  have hr : r < w.heap.size := World.block_lt_of_cell? w _ h1
  go_enter Tryz.func150, Tryz.ntmps150
  go_wp2
  have hB0 : Below w.heap.size w (w.alloc (.cells #[.string s, .int .i64 n] 81)) := (Below.refl _ _).alloc (Nat.le_refl _) _
  go_region_held3 (fun w' => w'.cell? ⟨q, 0, none⟩ = some (.func (.func 106) #[] #[]) ∧ w'.cell? ⟨r, 0, none⟩ = some (.string t) ∧ w'.cell? ⟨w.heap.size, 0, none⟩ = some (.string s) ∧ w'.cell? ⟨w.heap.size, 1, none⟩ = some (.int .i64 n) ∧ Below w.heap.size w w')
    (first | (go_split_ands; refine ⟨?_, ?_, ?_, ?_, ?_⟩ <;> first | (exact (hb.cell (World.block_lt_of_cell? _ _ (by assumption))).trans (by assumption)) | exact bl_then (by assumption) hb) | (refine ⟨?_, ?_, ?_, ?_, ?_⟩ <;> first | exact hB0.drew | go_keep))
    (first | (go_at_call 106; refine (key_typed _ _ _).mono ?_; rintro e w1 ⟨rfl, hb⟩))
  go_split_ands
  go_wp2
  go_ret
  exact ⟨rfl, by assumption⟩

set_option maxHeartbeats 1600000 in
theorem sorted_typed (A : Option Addr) (c : Nat) (l : List (ByteArray × Int)) (q : Nat) (w : World) (hr : Rd w A l) (h0 : w.cell? ⟨q, 0, none⟩ = some (.func (.func 106) #[] #[])) :
    Calls Tryz.prog 145 #[.slice A l.length c, .func (.func 146) #[] #[.pointer (some ⟨q, 0, none⟩)]] w (SrtPost l w) := by
  have hlen := hr.1
  have HR := Lib.hid hr
  have H0 := Lib.hid h0
  clear hr h0
  go_enter Tryz.func145, Tryz.ntmps145
  go_wp2
  go_loopw [5] (fun v wr => ∃ i : Int, v = .int .i64 i ∧ -1 ≤ i ∧ i < l.length ∧ Hid (Srt l i) ∧ Hid (Below w.heap.size w wr)) (fun v _ => (intOf v).toNat)
  case atStart => exact ⟨_, rfl, by omega, by omega, Lib.hid (fun j h hj => by omega), Lib.hid (Below.refl _ _)⟩
  case round =>
    obtain ⟨i, rfl, hi1, hi2, HS, HB⟩ := hrel
    by_cases hpos : 0 < i
    · obtain ⟨k, rfl⟩ : ∃ k : Nat, i = (k : Int) + 1 := ⟨(i - 1).toNat, by omega⟩
      have hk : k + 1 < l.length := by omega
      obtain ⟨ad, rfl, hcell⟩ := (HR.out.below HB.out).2 (by omega)
      obtain ⟨x1, x2⟩ := hcell (k + 1) _ (List.getElem?_eq_getElem hk)
      obtain ⟨y1, y2⟩ := hcell k _ (List.getElem?_eq_getElem (by omega : k < l.length))
      clear hcell
      have hq := (HB.out.cell (World.block_lt_of_cell? _ _ H0.out)).trans H0.out
      have e1 : ((k : Int) + 1).toNat = k + 1 := by omega
      have CC := fun W h => c1_typed l[k + 1].1 l[k + 1].2 l[k].1 l[k].2 q W h
      have hS : ltS l[k + 1].1.toList l[k].1.toList = decide (cmpS l[k + 1].1 l[k].1 < 0) := cmpS_neg _ _
      generalize cmpS l[k + 1].1 l[k].1 = C at CC hS
      have CCH := Lib.hid CC
      have HSG := Lib.hid hS
      clear CC hS
      generalize l[k + 1].1 = X1 at x1 CCH
      generalize l[k + 1].2 = X2 at x2 CCH
      generalize l[k].1 = Y1 at y1 CCH
      generalize l[k].2 = Y2 at y2 CCH
      have hB0 := HB.out
      by_cases hneg : C < 0
      all_goals
        go_wp2
        have b1 : (0 : Int) ≤ (k : Int) + 1 := by omega
        have b2 : (k : Int) + 1 < (l.length : Int) := by omega
        have b3 : (0 : Int) ≤ (k : Int) := by omega
        have b4 : (k : Int) < (l.length : Int) := by omega
        have b5 : IntKind.i64.wrap ((k : Int) + 1 - 1) = (k : Int) := by rw [show (k : Int) + 1 - 1 = (k : Int) from by omega]; exact IntWalk.i64_in _ (by omega)
        have b6 : IntKind.i64.wrap (k : Int) = (k : Int) := IntWalk.i64_in _ (by omega)
        go_region_held3 (fun w' => w'.cell? ⟨q, 0, none⟩ = some (.func (.func 106) #[] #[]) ∧ w'.cell? (ad.add ((k + 1) * 2)) = some (.string X1) ∧ w'.cell? ⟨(ad.add ((k + 1) * 2)).block, (ad.add ((k + 1) * 2)).off + 1, none⟩ = some (.int .i64 X2) ∧ w'.cell? (ad.add (k * 2)) = some (.string Y1) ∧ w'.cell? ⟨(ad.add (k * 2)).block, (ad.add (k * 2)).off + 1, none⟩ = some (.int .i64 Y2) ∧ Below w.heap.size w w')
          (first | (go_split_ands; refine ⟨?_, ?_, ?_, ?_, ?_, ?_⟩ <;> first | (exact (hb.cell (World.block_lt_of_cell? _ _ (by assumption))).trans (by assumption)) | exact bl_then (by assumption) hb) | (refine ⟨?_, ?_, ?_, ?_, ?_, ?_⟩ <;> first | exact hB0.drew | go_keep))
          (first | (go_at_call 146; refine (CCH.out _ (by assumption)).mono ?_; rintro e w1 ⟨rfl, hb⟩))
        go_split_ands
        clear b1 b2 b3 b4 b5 b6
        go_wp2
      · go_ret
        exact ⟨false, rfl, by simp, by assumption⟩
      · go_roundw
        case rel => exact ⟨k, by go_num, by omega, by omega, Lib.hid (fun j h hj => by
            by_cases hjk : (k : Int) + 1 ≤ j
            · exact HS.out j h hjk
            · obtain rfl : j = k := by omega
              rw [HSG.out]; exact decide_eq_false (by omega)), Lib.hid (by assumption)⟩
        case measure => simp [intOf]
    · go_wp2
      go_ret
      exact ⟨true, rfl, fun _ j h hj => HS.out j h (by omega), HB.out⟩
end Go.Proofs.YtpflimghkckpjaaGreatDoor.H
