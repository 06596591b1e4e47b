/-
Contracts of slices.Concat at two lists of entries, by hand.
-/
import Derived.Test.YtpflimghkckpjaaGreatDoorHPow
import Derived.Test.YtpflimghkckpjaaGreatDoorWWords
import Derived.Test.YtpflimghkckpjaaGreatDoorWZeros
set_option linter.unusedVariables false
set_option linter.unusedSimpArgs false
namespace Go.Proofs.YtpflimghkckpjaaGreatDoor.H
open Go.RowKit Go.Shelf
open Go.Proofs.YtpflimghkckpjaaGreatDoorW.PrintWords (Kd ReadsRow Reps)
open Go.Proofs.YtpflimghkckpjaaGreatDoorW

/-- An entry's kind. -/
def kE : Kd (ByteArray × Int) := PrintWords.Kd.pair PrintWords.Kd.string (PrintWords.Kd.int .i64)
theorem kE_K {w : World} {x : ByteArray × Int} {cs : List Value} : kE.K w x cs ↔ cs = [.string x.1, .int .i64 x.2] := by
  constructor
  · rintro ⟨c0, c1, rfl, rfl, rfl⟩; rfl
  · rintro rfl; exact ⟨[.string x.1], [.int .i64 x.2], rfl, rfl, rfl⟩
theorem kE_M {w : World} {base : Nat} {ok : Nat → Prop} {x : ByteArray × Int} : kE.M w base ok x [.string x.1, .int .i64 x.2] := ⟨[.string x.1], [.int .i64 x.2], rfl, rfl, rfl⟩
theorem Rd_of_C {w : World} {A : Option Addr} {l : List (ByteArray × Int)} (h : kE.C w A l.length l) : Rd w A l := by
  refine ⟨h.2.1, fun hn => ?_⟩
  obtain ⟨ad, e, hc⟩ := h.2.2 hn
  refine ⟨ad, e, fun j p hj => ?_⟩
  obtain ⟨c, hl, hK, hcell⟩ := hc j p hj
  rw [kE_K] at hK
  subst hK
  have h0 := hcell 0 _ rfl
  have h1 := hcell 1 _ rfl
  rw [Nat.add_zero] at h0
  refine ⟨h0, ?_⟩
  rw [PrintWords.add_field ad _ 1 (by omega)] at h1
  exact h1
theorem C_of_Rd {w : World} {A : Option Addr} {l : List (ByteArray × Int)} (h : Rd w A l) : kE.C w A l.length l := by
  refine ⟨rfl, h.1, fun hn => ?_⟩
  obtain ⟨ad, e, hc⟩ := h.2 hn
  refine ⟨ad, e, fun j p hj => ⟨[.string p.1, .int .i64 p.2], rfl, kE_K.2 rfl, fun i u hu => ?_⟩⟩
  obtain ⟨h0, h1⟩ := hc j p hj
  match i, hu with
  | 0, hu => simp at hu; subst hu; exact h0
  | 1, hu =>
    simp at hu; subst hu
    show w.cell? (ad.add (j * 2 + 1)) = _
    rw [PrintWords.add_field ad _ 1 (by omega)]
    exact h1

theorem info_UserLevel : (Tryz.prog.info? 79).map (fun i => (i.zero, i.size, i.bytes)) = some (some (.agg #[.string ⟨#[]⟩, .int .i64 0]), 2, 24) := by kernel_rfl

set_option maxHeartbeats 800000 in
set_option maxRecDepth 100000 in
theorem grow_UserLevel (n : Int) (h0 : 0 ≤ n) (hn : n ≤ 2000000) (w : World) :
    Calls Tryz.prog 110 #[.slice none 0 0, .int .i64 n] w fun e w' => ∃ v, e = .returned v ∧ kE.R 79 w' w.heap.size (fun k => w.heap.size ≤ k) v [] ∧ Below w.heap.size w w' := by
  by_cases hz : n = 0
  · subst hz
    go_enter Tryz.func110, Tryz.ntmps110
    go_wp2
    go_ret
    exact ⟨_, rfl, PrintWords.Kd.R_nil _ _ _ _ _, Below.refl _ _⟩
  · have hpos : 0 < n := by omega
    go_enter Tryz.func110, Tryz.ntmps110
    go_wp2_with (at_builtin; refine PrintWords.Kd.R_append_zeros kE w.heap.size rfl _ _ _ _ 79 (.agg #[.string ⟨#[]⟩, .int .i64 0]) 24 rfl Tryz.underlying22 Tryz.underlying3 info_UserLevel rfl (by decide) (by decide) _ [] (⟨#[]⟩, 0) n (fun k => w.heap.size ≤ k) rfl rfl ?c1 (fun _ h => h) (PrintWords.Kd.R_nil _ _ _ _ _) h0 (Below.refl _ _) (Nat.le_refl _) ?c2 ?_)
    case c1 => exact kE_M
    case c2 => simp; omega
    intro v1 w1 hR hb _ _
    obtain ⟨A, c, rfl, hl, _⟩ := PrintWords.Kd.R_reads hR
    have HR := Lib.hid (PrintWords.Kd.R_take (m := 0) hR (Nat.zero_le _))
    have HB := Lib.hid hb
    clear hR hb
    have b1 : ((0 : Nat) : Int) ≤ (c : Int) := by omega
    go_wp2
    go_ret
    exact ⟨_, rfl, HR.out, HB.out⟩

set_option maxHeartbeats 1600000 in
set_option maxRecDepth 100000 in
theorem concat_UserLevel (g : Nat) (A0 : Option Addr) (c0 : Nat) (A1 : Option Addr) (c1 : Nat) (l0 l1 : List (ByteArray × Int)) (w : World) (hr0 : Rd w A0 l0) (hr1 : Rd w A1 l1) (hn : l0.length + l1.length ≤ 2000000)
    (h0 : w.cell? ⟨g, 0, none⟩ = some (.slice A0 l0.length c0)) (h1 : w.cell? ⟨g, 1, none⟩ = some (.slice A1 l1.length c1)) :
    Calls Tryz.prog 71 #[.slice (some ⟨g, 0, none⟩) 2 2] w fun e w' => ∃ A c, e = .returned (.slice A (l0 ++ l1).length c) ∧ Rd w' A (l0 ++ l1) ∧ Below w.heap.size w w' := by
  have HR0 := Lib.hid hr0
  have HR1 := Lib.hid hr1
  have H0 := Lib.hid h0
  have H1 := Lib.hid h1
  clear hr0 hr1 h0 h1
  go_enter Tryz.func71, Tryz.ntmps71
  go_wp2
  go_loop [3, 11] (fun s v => ∃ k : Nat, v = .int .i64 k ∧ ((k = 0 ∧ s = .int .i64 0) ∨ (k = 1 ∧ s = .int .i64 (l0.length : Int)) ∨ (k = 2 ∧ s = .int .i64 ((l0.length : Int) + (l1.length : Int))))) (fun _ v => 2 - (intOf v).toNat)
  case atStart => exact ⟨0, rfl, .inl ⟨rfl, rfl⟩⟩
  case round =>
    obtain ⟨k, rfl, ⟨rfl, rfl⟩ | ⟨rfl, rfl⟩ | ⟨rfl, rfl⟩⟩ := hrel
    · have h0 := H0.out
      go_wp2
      go_round
      case rel => exact ⟨1, by go_num, .inr (.inl ⟨rfl, by go_num⟩)⟩
      case measure => simp [intOf]
    · have h1 := H1.out
      go_wp2
      go_round
      case rel => exact ⟨2, by go_num, .inr (.inr ⟨rfl, by go_num⟩)⟩
      case measure => simp [intOf]
    · go_wp2_with fail
      refine (grow_UserLevel ((l0.length : Int) + (l1.length : Int)) (by omega) (by omega) w).mono ?_
      rintro e w1 ⟨v, rfl, hR, hb⟩
      have HR := Lib.hid hR
      have HB := Lib.hid hb
      clear hR hb
      go_wp2
      go_loopw [6, 27] (fun u v wr => ∃ k : Nat, v = .int .i64 k ∧ k ≤ 2 ∧ ∃ xs, Hid (kE.R 79 wr w.heap.size (fun k => w.heap.size ≤ k) u xs) ∧ Hid ((k = 0 ∧ xs = []) ∨ (k = 1 ∧ xs = l0) ∨ (k = 2 ∧ xs = l0 ++ l1)) ∧ Hid (Below w.heap.size w wr)) (fun _ v _ => 2 - (intOf v).toNat)
      case atStart => exact ⟨0, rfl, by omega, [], HR, Lib.hid (.inl ⟨rfl, rfl⟩), HB⟩
      case round =>
        clear HR HB
        obtain ⟨k, rfl, hk, xs, HR, HX, HB⟩ := hrel
        obtain ⟨rfl, hx⟩ | ⟨rfl, hx⟩ | ⟨rfl, hx⟩ := HX.out
        · rw [hx] at HR
          clear HX hx
          have h0 := (HB.out.cell (World.block_lt_of_cell? _ _ H0.out)).trans H0.out
          have hle : w.heap.size ≤ wr.heap.size := HB.out.size
          have HC := Lib.hid (C_of_Rd (HR0.out.below HB.out))
          have HLE := Lib.hid hle
          clear hle
          go_wp2_with (at_builtin; refine PrintWords.Kd.R_append_rows (w0 := w) kE w.heap.size rfl _ _ _ 79 (.agg #[.string ⟨#[]⟩, .int .i64 0]) 24 rfl Tryz.underlying22 info_UserLevel rfl (by decide) (by decide) _ _ l0 A0 l0.length c0 (fun k => w.heap.size ≤ k) (fun _ => False) rfl rfl HR.out HC.out ?c1 (fun _ h => h.elim) (fun _ h => Nat.le_trans HLE.out h) HB.out HLE.out ?c2 ?_)
          case c1 => intro x cs h; rw [kE_K] at h; subst h; exact kE_M
          case c2 => simp only [List.length_nil]; omega
          intro v1 w1 hR hb _ _
          have HR2 := Lib.hid hR
          have HB2 := Lib.hid hb
          clear hR hb h0
          go_wp2
          go_roundw
          case rel => exact ⟨1, by go_num, by omega, l0, HR2, Lib.hid (.inr (.inl ⟨rfl, rfl⟩)), HB2⟩
          case measure => simp [intOf]
        · rw [hx] at HR
          clear HX hx
          have h1 := (HB.out.cell (World.block_lt_of_cell? _ _ H1.out)).trans H1.out
          have hle : w.heap.size ≤ wr.heap.size := HB.out.size
          have HC := Lib.hid (C_of_Rd (HR1.out.below HB.out))
          have HLE := Lib.hid hle
          clear hle
          go_wp2_with (at_builtin; refine PrintWords.Kd.R_append_rows (w0 := w) kE w.heap.size rfl _ _ _ 79 (.agg #[.string ⟨#[]⟩, .int .i64 0]) 24 rfl Tryz.underlying22 info_UserLevel rfl (by decide) (by decide) _ _ l1 A1 l1.length c1 (fun k => w.heap.size ≤ k) (fun _ => False) rfl rfl HR.out HC.out ?c1 (fun _ h => h.elim) (fun _ h => Nat.le_trans HLE.out h) HB.out HLE.out ?c2 ?_)
          case c1 => intro x cs h; rw [kE_K] at h; subst h; exact kE_M
          case c2 => omega
          intro v1 w1 hR hb _ _
          have HR2 := Lib.hid hR
          have HB2 := Lib.hid hb
          clear hR hb h1
          go_wp2
          go_roundw
          case rel => exact ⟨2, by go_num, by omega, l0 ++ l1, HR2, Lib.hid (.inr (.inr ⟨rfl, rfl⟩)), HB2⟩
          case measure => simp [intOf]
        · rw [hx] at HR
          clear HX hx
          obtain ⟨A, c, rfl, hl, hC⟩ := PrintWords.Kd.R_reads HR.out
          have HC := Lib.hid (Rd_of_C hC)
          clear hC
          go_wp2
          go_ret
          exact ⟨A, c, rfl, HC.out, HB.out⟩
theorem info_TypeLevel : (Tryz.prog.info? 81).map (fun i => (i.zero, i.size, i.bytes)) = some (some (.agg #[.string ⟨#[]⟩, .int .i64 0]), 2, 24) := by kernel_rfl

set_option maxHeartbeats 800000 in
set_option maxRecDepth 100000 in
theorem grow_TypeLevel (n : Int) (h0 : 0 ≤ n) (hn : n ≤ 2000000) (w : World) :
    Calls Tryz.prog 111 #[.slice none 0 0, .int .i64 n] w fun e w' => ∃ v, e = .returned v ∧ kE.R 81 w' w.heap.size (fun k => w.heap.size ≤ k) v [] ∧ Below w.heap.size w w' := by
  by_cases hz : n = 0
  · subst hz
    go_enter Tryz.func111, Tryz.ntmps111
    go_wp2
    go_ret
    exact ⟨_, rfl, PrintWords.Kd.R_nil _ _ _ _ _, Below.refl _ _⟩
  · have hpos : 0 < n := by omega
    go_enter Tryz.func111, Tryz.ntmps111
    go_wp2_with (at_builtin; refine PrintWords.Kd.R_append_zeros kE w.heap.size rfl _ _ _ _ 81 (.agg #[.string ⟨#[]⟩, .int .i64 0]) 24 rfl Tryz.underlying23 Tryz.underlying3 info_TypeLevel rfl (by decide) (by decide) _ [] (⟨#[]⟩, 0) n (fun k => w.heap.size ≤ k) rfl rfl ?c1 (fun _ h => h) (PrintWords.Kd.R_nil _ _ _ _ _) h0 (Below.refl _ _) (Nat.le_refl _) ?c2 ?_)
    case c1 => exact kE_M
    case c2 => simp; omega
    intro v1 w1 hR hb _ _
    obtain ⟨A, c, rfl, hl, _⟩ := PrintWords.Kd.R_reads hR
    have HR := Lib.hid (PrintWords.Kd.R_take (m := 0) hR (Nat.zero_le _))
    have HB := Lib.hid hb
    clear hR hb
    have b1 : ((0 : Nat) : Int) ≤ (c : Int) := by omega
    go_wp2
    go_ret
    exact ⟨_, rfl, HR.out, HB.out⟩

set_option maxHeartbeats 1600000 in
set_option maxRecDepth 100000 in
theorem concat_TypeLevel (g : Nat) (A0 : Option Addr) (c0 : Nat) (A1 : Option Addr) (c1 : Nat) (l0 l1 : List (ByteArray × Int)) (w : World) (hr0 : Rd w A0 l0) (hr1 : Rd w A1 l1) (hn : l0.length + l1.length ≤ 2000000)
    (h0 : w.cell? ⟨g, 0, none⟩ = some (.slice A0 l0.length c0)) (h1 : w.cell? ⟨g, 1, none⟩ = some (.slice A1 l1.length c1)) :
    Calls Tryz.prog 72 #[.slice (some ⟨g, 0, none⟩) 2 2] w fun e w' => ∃ A c, e = .returned (.slice A (l0 ++ l1).length c) ∧ Rd w' A (l0 ++ l1) ∧ Below w.heap.size w w' := by
  have HR0 := Lib.hid hr0
  have HR1 := Lib.hid hr1
  have H0 := Lib.hid h0
  have H1 := Lib.hid h1
  clear hr0 hr1 h0 h1
  go_enter Tryz.func72, Tryz.ntmps72
  go_wp2
  go_loop [3, 11] (fun s v => ∃ k : Nat, v = .int .i64 k ∧ ((k = 0 ∧ s = .int .i64 0) ∨ (k = 1 ∧ s = .int .i64 (l0.length : Int)) ∨ (k = 2 ∧ s = .int .i64 ((l0.length : Int) + (l1.length : Int))))) (fun _ v => 2 - (intOf v).toNat)
  case atStart => exact ⟨0, rfl, .inl ⟨rfl, rfl⟩⟩
  case round =>
    obtain ⟨k, rfl, ⟨rfl, rfl⟩ | ⟨rfl, rfl⟩ | ⟨rfl, rfl⟩⟩ := hrel
    · have h0 := H0.out
      go_wp2
      go_round
      case rel => exact ⟨1, by go_num, .inr (.inl ⟨rfl, by go_num⟩)⟩
      case measure => simp [intOf]
    · have h1 := H1.out
      go_wp2
      go_round
      case rel => exact ⟨2, by go_num, .inr (.inr ⟨rfl, by go_num⟩)⟩
      case measure => simp [intOf]
    · go_wp2_with fail
      refine (grow_TypeLevel ((l0.length : Int) + (l1.length : Int)) (by omega) (by omega) w).mono ?_
      rintro e w1 ⟨v, rfl, hR, hb⟩
      have HR := Lib.hid hR
      have HB := Lib.hid hb
      clear hR hb
      go_wp2
      go_loopw [6, 27] (fun u v wr => ∃ k : Nat, v = .int .i64 k ∧ k ≤ 2 ∧ ∃ xs, Hid (kE.R 81 wr w.heap.size (fun k => w.heap.size ≤ k) u xs) ∧ Hid ((k = 0 ∧ xs = []) ∨ (k = 1 ∧ xs = l0) ∨ (k = 2 ∧ xs = l0 ++ l1)) ∧ Hid (Below w.heap.size w wr)) (fun _ v _ => 2 - (intOf v).toNat)
      case atStart => exact ⟨0, rfl, by omega, [], HR, Lib.hid (.inl ⟨rfl, rfl⟩), HB⟩
      case round =>
        clear HR HB
        obtain ⟨k, rfl, hk, xs, HR, HX, HB⟩ := hrel
        obtain ⟨rfl, hx⟩ | ⟨rfl, hx⟩ | ⟨rfl, hx⟩ := HX.out
        · rw [hx] at HR
          clear HX hx
          have h0 := (HB.out.cell (World.block_lt_of_cell? _ _ H0.out)).trans H0.out
          have hle : w.heap.size ≤ wr.heap.size := HB.out.size
          have HC := Lib.hid (C_of_Rd (HR0.out.below HB.out))
          have HLE := Lib.hid hle
          clear hle
          go_wp2_with (at_builtin; refine PrintWords.Kd.R_append_rows (w0 := w) kE w.heap.size rfl _ _ _ 81 (.agg #[.string ⟨#[]⟩, .int .i64 0]) 24 rfl Tryz.underlying23 info_TypeLevel rfl (by decide) (by decide) _ _ l0 A0 l0.length c0 (fun k => w.heap.size ≤ k) (fun _ => False) rfl rfl HR.out HC.out ?c1 (fun _ h => h.elim) (fun _ h => Nat.le_trans HLE.out h) HB.out HLE.out ?c2 ?_)
          case c1 => intro x cs h; rw [kE_K] at h; subst h; exact kE_M
          case c2 => simp only [List.length_nil]; omega
          intro v1 w1 hR hb _ _
          have HR2 := Lib.hid hR
          have HB2 := Lib.hid hb
          clear hR hb h0
          go_wp2
          go_roundw
          case rel => exact ⟨1, by go_num, by omega, l0, HR2, Lib.hid (.inr (.inl ⟨rfl, rfl⟩)), HB2⟩
          case measure => simp [intOf]
        · rw [hx] at HR
          clear HX hx
          have h1 := (HB.out.cell (World.block_lt_of_cell? _ _ H1.out)).trans H1.out
          have hle : w.heap.size ≤ wr.heap.size := HB.out.size
          have HC := Lib.hid (C_of_Rd (HR1.out.below HB.out))
          have HLE := Lib.hid hle
          clear hle
          go_wp2_with (at_builtin; refine PrintWords.Kd.R_append_rows (w0 := w) kE w.heap.size rfl _ _ _ 81 (.agg #[.string ⟨#[]⟩, .int .i64 0]) 24 rfl Tryz.underlying23 info_TypeLevel rfl (by decide) (by decide) _ _ l1 A1 l1.length c1 (fun k => w.heap.size ≤ k) (fun _ => False) rfl rfl HR.out HC.out ?c1 (fun _ h => h.elim) (fun _ h => Nat.le_trans HLE.out h) HB.out HLE.out ?c2 ?_)
          case c1 => intro x cs h; rw [kE_K] at h; subst h; exact kE_M
          case c2 => omega
          intro v1 w1 hR hb _ _
          have HR2 := Lib.hid hR
          have HB2 := Lib.hid hb
          clear hR hb h1
          go_wp2
          go_roundw
          case rel => exact ⟨2, by go_num, by omega, l0 ++ l1, HR2, Lib.hid (.inr (.inr ⟨rfl, rfl⟩)), HB2⟩
          case measure => simp [intOf]
        · rw [hx] at HR
          clear HX hx
          obtain ⟨A, c, rfl, hl, hC⟩ := PrintWords.Kd.R_reads HR.out
          have HC := Lib.hid (Rd_of_C hC)
          clear hC
          go_wp2
          go_ret
          exact ⟨A, c, rfl, HC.out, HB.out⟩
end Go.Proofs.YtpflimghkckpjaaGreatDoor.H
