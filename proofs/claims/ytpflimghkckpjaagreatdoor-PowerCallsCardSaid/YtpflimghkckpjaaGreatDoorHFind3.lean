/-
Contracts of power's look-ups, continued: the search by halves, the search from the begin.
-/
import Derived.Test.YtpflimghkckpjaaGreatDoorHFind2
set_option linter.unusedVariables false
set_option linter.unusedSimpArgs false
namespace Go.Proofs.YtpflimghkckpjaaGreatDoor.H
open Go.RowKit Go.Shelf

/-- What a search tells: the first place of a key; or that there is none. -/
def FdPost (l : List (ByteArray × Int)) (key : ByteArray) (w : World) (e : Ending) (w' : World) : Prop :=
  ∃ (i : Int) (f : Bool), e = .returned (.tuple #[.int .i64 i, .bool f]) ∧ (f = true → ∃ n : Nat, i = n ∧ ∃ h : n < l.length, l[n].1.toList = key.toList ∧ ∀ x (hx : x < n), l[x].1.toList ≠ key.toList) ∧
    (f = false → ∀ x (hx : x < l.length), l[x].1.toList ≠ key.toList) ∧ Below w.heap.size w w'
theorem cmpS_zero (a b : ByteArray) : (cmpS a b = 0 → a.toList = b.toList) ∧ (a.toList = b.toList → cmpS a b = 0) := by
  unfold cmpS
  refine ⟨fun h => ?_, fun h => by rw [h]; simp [ltS_irr]⟩
  cases h1 : ltS a.toList b.toList with
  | true => simp [h1] at h
  | false =>
    cases h2 : ltS b.toList a.toList with
    | true => simp [h1, h2] at h
    | false => exact ltS_tri h1 h2
def Lo (l : List (ByteArray × Int)) (key : ByteArray) (i : Nat) : Prop := ∀ x (h : x < l.length), x < i → ltS l[x].1.toList key.toList = true
def Hi (l : List (ByteArray × Int)) (key : ByteArray) (j : Nat) : Prop := ∀ x (h : x < l.length), j ≤ x → ltS l[x].1.toList key.toList = false
theorem Srt.le {l : List (ByteArray × Int)} (hs : Srt l 0) : ∀ (d x : Nat) (h : x + d < l.length), ltS (l[x + d]'h).1.toList (l[x]'(by omega)).1.toList = false
  | 0, x, h => ltS_irr _
  | d + 1, x, h => leS_trans (hs.le d x (by omega)) (hs (x + d) (by omega) (by omega))
theorem Srt.lo {l : List (ByteArray × Int)} (hs : Srt l 0) {key : ByteArray} {m : Nat} (hm : m < l.length) (h : ltS l[m].1.toList key.toList = true) : Lo l key (m + 1) := by
  intro x hx hlt
  obtain ⟨d, rfl⟩ : ∃ d, m = x + d := ⟨m - x, by omega⟩
  have := hs.le d x hm
  cases h' : ltS l[x].1.toList key.toList with
  | true => rfl
  | false =>
    have h2 := leS_trans h' this
    rw [h] at h2; cases h2
theorem Srt.hi {l : List (ByteArray × Int)} (hs : Srt l 0) {key : ByteArray} {m : Nat} (hm : m < l.length) (h : ltS l[m].1.toList key.toList = false) : Hi l key m := by
  intro x hx hle
  obtain ⟨d, rfl⟩ : ∃ d, x = m + d := ⟨x - m, by omega⟩
  exact leS_trans h (hs.le d m hx)

def Ne (l : List (ByteArray × Int)) (key : ByteArray) (i : Nat) : Prop := ∀ x (h : x < l.length), x < i → l[x].1.toList ≠ key.toList
def IxPost (l : List (ByteArray × Int)) (key : ByteArray) (w : World) (e : Ending) (w' : World) : Prop :=
  ∃ i : Int, e = .returned (.int .i64 i) ∧ (0 ≤ i → ∃ n : Nat, i = n ∧ ∃ h : n < l.length, l[n].1.toList = key.toList ∧ ∀ x (hx : x < n), l[x].1.toList ≠ key.toList) ∧
    (i < 0 → ∀ x (hx : x < l.length), l[x].1.toList ≠ key.toList) ∧ Below w.heap.size w w'

set_option maxHeartbeats 1600000 in
set_option maxRecDepth 100000 in
theorem bs_user (A : Option Addr) (c : Nat) (l : List (ByteArray × Int)) (key : ByteArray) (q : Nat) (w : World) (hr : Rd w A l) (hs : Srt l 0) (hlen : l.length ≤ 1000000) (h0 : w.cell? ⟨q, 0, none⟩ = some (.func (.func 104) #[] #[])) :
    Calls Tryz.prog 141 #[.slice A l.length c, .string key, .func (.func 142) #[] #[.pointer (some ⟨q, 0, none⟩)]] w (FdPost l key w) := by
  have HR := Lib.hid hr
  have HSo := Lib.hid hs
  have H0 := Lib.hid h0
  clear hr h0 hs
  go_enter Tryz.func141, Tryz.ntmps141
  go_wp2
  go_loopw [9, 10] (fun v u wr => ∃ i j : Nat, v = .int .i64 i ∧ u = .int .i64 j ∧ i ≤ j ∧ j ≤ l.length ∧ Hid (Lo l key i) ∧ Hid (Hi l key j) ∧ Hid (Below w.heap.size w wr)) (fun v u _ => (intOf u - intOf v).toNat)
  case atStart => exact ⟨0, l.length, rfl, rfl, by omega, by omega, Lib.hid (fun x h hx => absurd hx (by omega)), Lib.hid (fun x h hx => absurd hx (by omega)), Lib.hid (Below.refl _ _)⟩
  case round =>
    obtain ⟨i, j, rfl, rfl, hij, hj, HLo, HHi, HB⟩ := hrel
    by_cases hlt : i < j
    · obtain ⟨m, em, hm1, hm2⟩ : ∃ m : Nat, ((i : Int) + (j : Int)) / 2 = (m : Int) ∧ i ≤ m ∧ m < j := ⟨(i + j) / 2, by omega, by omega, by omega⟩
      have hm : m < l.length := by omega
      obtain ⟨ad, rfl, hcell⟩ := (HR.out.below HB.out).2 (by omega)
      obtain ⟨x1, x2⟩ := hcell m _ (List.getElem?_eq_getElem hm)
      clear hcell
      have hq := (HB.out.cell (World.block_lt_of_cell? _ _ H0.out)).trans H0.out
      have CC := fun W h => c2_user l[m].1 l[m].2 key q W h
      have HSG := Lib.hid (cmpS_neg l[m].1 key)
      generalize cmpS l[m].1 key = C at CC HSG
      have CCH := Lib.hid CC
      clear CC
      generalize l[m].1 = X1 at x1 CCH
      generalize l[m].2 = X2 at x2 CCH
      have b3 : (0 : Int) ≤ (m : Int) := by omega
      have b4 : (m : Int) < (l.length : Int) := by omega
      by_cases hneg : C < 0
      all_goals
        go_wp2_with fail
        refine (CCH.out _ (by assumption)).mono ?_
        rintro e w1 ⟨rfl, hb⟩
        have HB1 := Lib.hid (bl_then HB.out hb)
        clear hb x1 x2 hq
        go_wp2
      · go_roundw
        case rel => exact ⟨m + 1, j, by go_num, rfl, by omega, by omega, Lib.hid (HSo.out.lo hm (by rw [HSG.out]; exact decide_eq_true hneg)), HHi, HB1⟩
        case measure => simp [intOf]; omega
      · go_roundw
        case rel => exact ⟨i, m, rfl, rfl, by omega, by omega, HLo, Lib.hid (HSo.out.hi hm (by rw [HSG.out]; exact decide_eq_false (by omega))), HB1⟩
        case measure => simp [intOf]; omega
    · obtain rfl : i = j := by omega
      by_cases hi : i < l.length
      · obtain ⟨ad, rfl, hcell⟩ := (HR.out.below HB.out).2 (by omega)
        obtain ⟨x1, x2⟩ := hcell i _ (List.getElem?_eq_getElem hi)
        clear hcell
        have hq := (HB.out.cell (World.block_lt_of_cell? _ _ H0.out)).trans H0.out
        have CC := fun W h => c2_user l[i].1 l[i].2 key q W h
        have HZ := Lib.hid (cmpS_zero l[i].1 key)
        generalize cmpS l[i].1 key = C at CC HZ
        have CCH := Lib.hid CC
        clear CC
        generalize l[i].1 = X1 at x1 CCH
        generalize l[i].2 = X2 at x2 CCH
        have b3 : (0 : Int) ≤ (i : Int) := by omega
        have b4 : (i : Int) < (l.length : Int) := by omega
        go_wp2_with fail
        refine (CCH.out _ (by assumption)).mono ?_
        rintro e w1 ⟨rfl, hb⟩
        have HB1 := Lib.hid (bl_then HB.out hb)
        clear hb x1 x2 hq
        go_wp2
        go_ret2
        refine ⟨i, C == 0, rfl, fun hf => ⟨i, rfl, hi, HZ.out.1 (by simpa using hf), fun x hx e => ?_⟩, fun hf x hx e => ?_, HB1.out⟩
        · have := HLo.out x (by omega) hx
          rw [e, ltS_irr] at this; cases this
        · have hne : l[i].1.toList ≠ key.toList := fun h => by have := HZ.out.2 h; rw [this] at hf; simp at hf
          rcases Nat.lt_trichotomy x i with h | rfl | h
          · have := HLo.out x (by omega) h
            rw [e, ltS_irr] at this; cases this
          · exact hne e
          · obtain ⟨d, rfl⟩ : ∃ d, x = i + d := ⟨x - i, by omega⟩
            have h1 := HHi.out i hi (Nat.le_refl _)
            have h2 := HSo.out.le d i hx
            rw [e] at h2
            exact hne (ltS_tri h1 h2)
      · go_wp2
        go_ret2
        refine ⟨i, false, rfl, (fun hf => by cases hf), fun _ x hx e => ?_, HB.out⟩
        have := HLo.out x hx (by omega)
        rw [e, ltS_irr] at this; cases this

set_option maxHeartbeats 1600000 in
set_option maxRecDepth 100000 in
theorem ix_user (A : Option Addr) (c : Nat) (l : List (ByteArray × Int)) (key : ByteArray) (q r : Nat) (w : World) (hr : Rd w A l) (h0 : w.cell? ⟨q, 0, none⟩ = some (.func (.func 104) #[] #[])) (h1 : w.cell? ⟨r, 0, none⟩ = some (.string key)) :
    Calls Tryz.prog 143 #[.slice A l.length c, .func (.func 144) #[] #[.pointer (some ⟨q, 0, none⟩), .pointer (some ⟨r, 0, none⟩)]] w (IxPost l key w) := by
  have hlen := hr.1
  have HR := Lib.hid hr
  have H0 := Lib.hid h0
  have H1 := Lib.hid h1
  clear hr h0 h1
  go_enter Tryz.func143, Tryz.ntmps143
  go_wp2
  go_loopw [8] (fun v wr => ∃ i : Nat, v = .int .i64 i ∧ i ≤ l.length ∧ Hid (Ne l key i) ∧ Hid (Below w.heap.size w wr)) (fun v _ => l.length - (intOf v).toNat)
  case atStart => exact ⟨0, rfl, by omega, Lib.hid (fun x h hx => absurd hx (by omega)), Lib.hid (Below.refl _ _)⟩
  case round =>
    obtain ⟨i, rfl, hi, HN, HB⟩ := hrel
    by_cases hlt : i < l.length
    · obtain ⟨ad, rfl, hcell⟩ := (HR.out.below HB.out).2 (by omega)
      obtain ⟨x1, x2⟩ := hcell i _ (List.getElem?_eq_getElem hlt)
      clear hcell
      have hq := (HB.out.cell (World.block_lt_of_cell? _ _ H0.out)).trans H0.out
      have hr := (HB.out.cell (World.block_lt_of_cell? _ _ H1.out)).trans H1.out
      have CC := fun W h h' => c3_user l[i].1 l[i].2 key q r W h h'
      have b3 : (0 : Int) ≤ (i : Int) := by omega
      have b4 : (i : Int) < (l.length : Int) := by omega
      cases hE : (l[i].1.toList == key.toList) with
      | true =>
        have HE := Lib.hid hE
        rw [hE] at CC
        have CCH := Lib.hid CC
        clear CC hE
        generalize l[i].1 = X1 at x1 CCH
        generalize l[i].2 = X2 at x2 CCH
        go_wp2_with fail
        refine (CCH.out _ (by assumption) (by assumption)).mono ?_
        rintro e w1 ⟨rfl, hb⟩
        have HB1 := Lib.hid (bl_then HB.out hb)
        clear hb x1 x2 hq hr
        go_wp2
        go_ret
        exact ⟨i, rfl, fun _ => ⟨i, rfl, hlt, by simpa using HE.out, fun x hx => HN.out x (by omega) hx⟩, fun h => absurd h (by omega), HB1.out⟩
      | false =>
        have HE := Lib.hid hE
        rw [hE] at CC
        have CCH := Lib.hid CC
        clear CC hE
        generalize l[i].1 = X1 at x1 CCH
        generalize l[i].2 = X2 at x2 CCH
        go_wp2_with fail
        refine (CCH.out _ (by assumption) (by assumption)).mono ?_
        rintro e w1 ⟨rfl, hb⟩
        have HB1 := Lib.hid (bl_then HB.out hb)
        clear hb x1 x2 hq hr
        go_wp2
        go_roundw
        case rel => exact ⟨i + 1, by go_num, by omega, Lib.hid (fun x h hx => by
          rcases Nat.lt_or_ge x i with h' | h'
          · exact HN.out x h h'
          · obtain rfl : x = i := by omega
            have := HE.out
            simpa using this), HB1⟩
        case measure => simp [intOf]; omega
    · obtain rfl : i = l.length := by omega
      go_wp2
      go_ret
      exact ⟨-1, rfl, fun h => absurd h (by omega), fun _ x hx => HN.out x hx hx, HB.out⟩

set_option maxHeartbeats 1600000 in
set_option maxRecDepth 100000 in
theorem find_user (A : Option Addr) (c : Nat) (l : List (ByteArray × Int)) (key : ByteArray) (w : World) (hr : Rd w A l) (hlen : l.length ≤ 1000000) :
    Calls Tryz.prog 103 #[.slice A l.length c, .string key, .func (.func 104) #[] #[]] w (FdPost l key w) := by
  have hm := mkf
  have HR := Lib.hid hr
  clear hr
  have hB0 := Lib.hid (((Below.refl w.heap.size w).alloc (Nat.le_refl _) (.cells #[.string key] 9)).alloc (by simp) (.cells #[.func (.func 104) #[] #[]] 130))
  go_enter Tryz.func103, Tryz.ntmps103
  go_wp2_with fail
  have H0 : Hid (((w.alloc (.cells #[.string key] 9)).alloc (.cells #[.func (.func 104) #[] #[]] 130)).cell? ⟨w.heap.size + 1, 0, none⟩ = some (.func (.func 104) #[] #[])) := Lib.hid (by rw [World.cell?_alloc_at _ _ _ _ (by simp)]; rfl)
  have H1 : Hid (((w.alloc (.cells #[.string key] 9)).alloc (.cells #[.func (.func 104) #[] #[]] 130)).cell? ⟨w.heap.size, 0, none⟩ = some (.string key)) := Lib.hid (by rw [World.cell?_alloc_past _ _ _ (by simp), World.cell?_alloc_at _ _ _ _ rfl]; rfl)
  generalize (w.alloc (.cells #[.string key] 9)).alloc (.cells #[.func (.func 104) #[] #[]] 130) = W at hB0 H0 H1 ⊢
  refine (sorted_user A c l (w.heap.size + 1) W (HR.out.below hB0.out) H0.out).mono ?_
  rintro e w1 ⟨b, rfl, hs, hb⟩
  have HS := Lib.hid hs
  have HB1 := Lib.hid (bl_then hB0.out hb)
  have x0 := (hb.cell (World.block_lt_of_cell? _ _ H0.out)).trans H0.out
  have x1 := (hb.cell (World.block_lt_of_cell? _ _ H1.out)).trans H1.out
  clear hs hb
  cases b with
  | true =>
    go_wp2_with fail
    refine (bs_user A c l key (w.heap.size + 1) w1 (HR.out.below HB1.out) (HS.out trivial) hlen x0).mono ?_
    rintro e w2 ⟨i, f, rfl, h1, h2, hb⟩
    have P1 := Lib.hid h1
    have P2 := Lib.hid h2
    have HB2 := Lib.hid (bl_then HB1.out hb)
    clear h1 h2 hb x0 x1
    go_wp2
    go_ret2
    exact ⟨i, f, rfl, P1.out, P2.out, HB2.out⟩
  | false =>
    go_wp2_with fail
    refine (ix_user A c l key (w.heap.size + 1) w.heap.size w1 (HR.out.below HB1.out) x0 x1).mono ?_
    rintro e w2 ⟨i, rfl, h1, h2, hb⟩
    have P1 := Lib.hid h1
    have P2 := Lib.hid h2
    have HB2 := Lib.hid (bl_then HB1.out hb)
    clear h1 h2 hb x0 x1
    by_cases hi : 0 ≤ i
    · go_wp2
      go_ret2
      exact ⟨i, true, by simp [hi], fun _ => P1.out hi, (fun h => by cases h), HB2.out⟩
    · go_wp2
      go_ret2
      exact ⟨i, false, by simp; omega, (fun h => by cases h), fun _ => P2.out (by omega), HB2.out⟩
set_option maxHeartbeats 1600000 in
set_option maxRecDepth 100000 in
theorem bs_typed (A : Option Addr) (c : Nat) (l : List (ByteArray × Int)) (key : ByteArray) (q : Nat) (w : World) (hr : Rd w A l) (hs : Srt l 0) (hlen : l.length ≤ 1000000) (h0 : w.cell? ⟨q, 0, none⟩ = some (.func (.func 106) #[] #[])) :
    Calls Tryz.prog 147 #[.slice A l.length c, .string key, .func (.func 148) #[] #[.pointer (some ⟨q, 0, none⟩)]] w (FdPost l key w) := by
  have HR := Lib.hid hr
  have HSo := Lib.hid hs
  have H0 := Lib.hid h0
  clear hr h0 hs
  go_enter Tryz.func147, Tryz.ntmps147
  go_wp2
  go_loopw [9, 10] (fun v u wr => ∃ i j : Nat, v = .int .i64 i ∧ u = .int .i64 j ∧ i ≤ j ∧ j ≤ l.length ∧ Hid (Lo l key i) ∧ Hid (Hi l key j) ∧ Hid (Below w.heap.size w wr)) (fun v u _ => (intOf u - intOf v).toNat)
  case atStart => exact ⟨0, l.length, rfl, rfl, by omega, by omega, Lib.hid (fun x h hx => absurd hx (by omega)), Lib.hid (fun x h hx => absurd hx (by omega)), Lib.hid (Below.refl _ _)⟩
  case round =>
    obtain ⟨i, j, rfl, rfl, hij, hj, HLo, HHi, HB⟩ := hrel
    by_cases hlt : i < j
    · obtain ⟨m, em, hm1, hm2⟩ : ∃ m : Nat, ((i : Int) + (j : Int)) / 2 = (m : Int) ∧ i ≤ m ∧ m < j := ⟨(i + j) / 2, by omega, by omega, by omega⟩
      have hm : m < l.length := by omega
      obtain ⟨ad, rfl, hcell⟩ := (HR.out.below HB.out).2 (by omega)
      obtain ⟨x1, x2⟩ := hcell m _ (List.getElem?_eq_getElem hm)
      clear hcell
      have hq := (HB.out.cell (World.block_lt_of_cell? _ _ H0.out)).trans H0.out
      have CC := fun W h => c2_typed l[m].1 l[m].2 key q W h
      have HSG := Lib.hid (cmpS_neg l[m].1 key)
      generalize cmpS l[m].1 key = C at CC HSG
      have CCH := Lib.hid CC
      clear CC
      generalize l[m].1 = X1 at x1 CCH
      generalize l[m].2 = X2 at x2 CCH
      have b3 : (0 : Int) ≤ (m : Int) := by omega
      have b4 : (m : Int) < (l.length : Int) := by omega
      by_cases hneg : C < 0
      all_goals
        go_wp2_with fail
        refine (CCH.out _ (by assumption)).mono ?_
        rintro e w1 ⟨rfl, hb⟩
        have HB1 := Lib.hid (bl_then HB.out hb)
        clear hb x1 x2 hq
        go_wp2
      · go_roundw
        case rel => exact ⟨m + 1, j, by go_num, rfl, by omega, by omega, Lib.hid (HSo.out.lo hm (by rw [HSG.out]; exact decide_eq_true hneg)), HHi, HB1⟩
        case measure => simp [intOf]; omega
      · go_roundw
        case rel => exact ⟨i, m, rfl, rfl, by omega, by omega, HLo, Lib.hid (HSo.out.hi hm (by rw [HSG.out]; exact decide_eq_false (by omega))), HB1⟩
        case measure => simp [intOf]; omega
    · obtain rfl : i = j := by omega
      by_cases hi : i < l.length
      · obtain ⟨ad, rfl, hcell⟩ := (HR.out.below HB.out).2 (by omega)
        obtain ⟨x1, x2⟩ := hcell i _ (List.getElem?_eq_getElem hi)
        clear hcell
        have hq := (HB.out.cell (World.block_lt_of_cell? _ _ H0.out)).trans H0.out
        have CC := fun W h => c2_typed l[i].1 l[i].2 key q W h
        have HZ := Lib.hid (cmpS_zero l[i].1 key)
        generalize cmpS l[i].1 key = C at CC HZ
        have CCH := Lib.hid CC
        clear CC
        generalize l[i].1 = X1 at x1 CCH
        generalize l[i].2 = X2 at x2 CCH
        have b3 : (0 : Int) ≤ (i : Int) := by omega
        have b4 : (i : Int) < (l.length : Int) := by omega
        go_wp2_with fail
        refine (CCH.out _ (by assumption)).mono ?_
        rintro e w1 ⟨rfl, hb⟩
        have HB1 := Lib.hid (bl_then HB.out hb)
        clear hb x1 x2 hq
        go_wp2
        go_ret2
        refine ⟨i, C == 0, rfl, fun hf => ⟨i, rfl, hi, HZ.out.1 (by simpa using hf), fun x hx e => ?_⟩, fun hf x hx e => ?_, HB1.out⟩
        · have := HLo.out x (by omega) hx
          rw [e, ltS_irr] at this; cases this
        · have hne : l[i].1.toList ≠ key.toList := fun h => by have := HZ.out.2 h; rw [this] at hf; simp at hf
          rcases Nat.lt_trichotomy x i with h | rfl | h
          · have := HLo.out x (by omega) h
            rw [e, ltS_irr] at this; cases this
          · exact hne e
          · obtain ⟨d, rfl⟩ : ∃ d, x = i + d := ⟨x - i, by omega⟩
            have h1 := HHi.out i hi (Nat.le_refl _)
            have h2 := HSo.out.le d i hx
            rw [e] at h2
            exact hne (ltS_tri h1 h2)
      · go_wp2
        go_ret2
        refine ⟨i, false, rfl, (fun hf => by cases hf), fun _ x hx e => ?_, HB.out⟩
        have := HLo.out x hx (by omega)
        rw [e, ltS_irr] at this; cases this

set_option maxHeartbeats 1600000 in
set_option maxRecDepth 100000 in
theorem ix_typed (A : Option Addr) (c : Nat) (l : List (ByteArray × Int)) (key : ByteArray) (q r : Nat) (w : World) (hr : Rd w A l) (h0 : w.cell? ⟨q, 0, none⟩ = some (.func (.func 106) #[] #[])) (h1 : w.cell? ⟨r, 0, none⟩ = some (.string key)) :
    Calls Tryz.prog 149 #[.slice A l.length c, .func (.func 150) #[] #[.pointer (some ⟨q, 0, none⟩), .pointer (some ⟨r, 0, none⟩)]] w (IxPost l key w) := by
  have hlen := hr.1
  have HR := Lib.hid hr
  have H0 := Lib.hid h0
  have H1 := Lib.hid h1
  clear hr h0 h1
  go_enter Tryz.func149, Tryz.ntmps149
  go_wp2
  go_loopw [8] (fun v wr => ∃ i : Nat, v = .int .i64 i ∧ i ≤ l.length ∧ Hid (Ne l key i) ∧ Hid (Below w.heap.size w wr)) (fun v _ => l.length - (intOf v).toNat)
  case atStart => exact ⟨0, rfl, by omega, Lib.hid (fun x h hx => absurd hx (by omega)), Lib.hid (Below.refl _ _)⟩
  case round =>
    obtain ⟨i, rfl, hi, HN, HB⟩ := hrel
    by_cases hlt : i < l.length
    · obtain ⟨ad, rfl, hcell⟩ := (HR.out.below HB.out).2 (by omega)
      obtain ⟨x1, x2⟩ := hcell i _ (List.getElem?_eq_getElem hlt)
      clear hcell
      have hq := (HB.out.cell (World.block_lt_of_cell? _ _ H0.out)).trans H0.out
      have hr := (HB.out.cell (World.block_lt_of_cell? _ _ H1.out)).trans H1.out
      have CC := fun W h h' => c3_typed l[i].1 l[i].2 key q r W h h'
      have b3 : (0 : Int) ≤ (i : Int) := by omega
      have b4 : (i : Int) < (l.length : Int) := by omega
      cases hE : (l[i].1.toList == key.toList) with
      | true =>
        have HE := Lib.hid hE
        rw [hE] at CC
        have CCH := Lib.hid CC
        clear CC hE
        generalize l[i].1 = X1 at x1 CCH
        generalize l[i].2 = X2 at x2 CCH
        go_wp2_with fail
        refine (CCH.out _ (by assumption) (by assumption)).mono ?_
        rintro e w1 ⟨rfl, hb⟩
        have HB1 := Lib.hid (bl_then HB.out hb)
        clear hb x1 x2 hq hr
        go_wp2
        go_ret
        exact ⟨i, rfl, fun _ => ⟨i, rfl, hlt, by simpa using HE.out, fun x hx => HN.out x (by omega) hx⟩, fun h => absurd h (by omega), HB1.out⟩
      | false =>
        have HE := Lib.hid hE
        rw [hE] at CC
        have CCH := Lib.hid CC
        clear CC hE
        generalize l[i].1 = X1 at x1 CCH
        generalize l[i].2 = X2 at x2 CCH
        go_wp2_with fail
        refine (CCH.out _ (by assumption) (by assumption)).mono ?_
        rintro e w1 ⟨rfl, hb⟩
        have HB1 := Lib.hid (bl_then HB.out hb)
        clear hb x1 x2 hq hr
        go_wp2
        go_roundw
        case rel => exact ⟨i + 1, by go_num, by omega, Lib.hid (fun x h hx => by
          rcases Nat.lt_or_ge x i with h' | h'
          · exact HN.out x h h'
          · obtain rfl : x = i := by omega
            have := HE.out
            simpa using this), HB1⟩
        case measure => simp [intOf]; omega
    · obtain rfl : i = l.length := by omega
      go_wp2
      go_ret
      exact ⟨-1, rfl, fun h => absurd h (by omega), fun _ x hx => HN.out x hx hx, HB.out⟩

set_option maxHeartbeats 1600000 in
set_option maxRecDepth 100000 in
theorem find_typed (A : Option Addr) (c : Nat) (l : List (ByteArray × Int)) (key : ByteArray) (w : World) (hr : Rd w A l) (hlen : l.length ≤ 1000000) :
    Calls Tryz.prog 105 #[.slice A l.length c, .string key, .func (.func 106) #[] #[]] w (FdPost l key w) := by
  have hm := mkf
  have HR := Lib.hid hr
  clear hr
  have hB0 := Lib.hid (((Below.refl w.heap.size w).alloc (Nat.le_refl _) (.cells #[.string key] 9)).alloc (by simp) (.cells #[.func (.func 106) #[] #[]] 132))
  go_enter Tryz.func105, Tryz.ntmps105
  go_wp2_with fail
  have H0 : Hid (((w.alloc (.cells #[.string key] 9)).alloc (.cells #[.func (.func 106) #[] #[]] 132)).cell? ⟨w.heap.size + 1, 0, none⟩ = some (.func (.func 106) #[] #[])) := Lib.hid (by rw [World.cell?_alloc_at _ _ _ _ (by simp)]; rfl)
  have H1 : Hid (((w.alloc (.cells #[.string key] 9)).alloc (.cells #[.func (.func 106) #[] #[]] 132)).cell? ⟨w.heap.size, 0, none⟩ = some (.string key)) := Lib.hid (by rw [World.cell?_alloc_past _ _ _ (by simp), World.cell?_alloc_at _ _ _ _ rfl]; rfl)
  generalize (w.alloc (.cells #[.string key] 9)).alloc (.cells #[.func (.func 106) #[] #[]] 132) = W at hB0 H0 H1 ⊢
  refine (sorted_typed A c l (w.heap.size + 1) W (HR.out.below hB0.out) H0.out).mono ?_
  rintro e w1 ⟨b, rfl, hs, hb⟩
  have HS := Lib.hid hs
  have HB1 := Lib.hid (bl_then hB0.out hb)
  have x0 := (hb.cell (World.block_lt_of_cell? _ _ H0.out)).trans H0.out
  have x1 := (hb.cell (World.block_lt_of_cell? _ _ H1.out)).trans H1.out
  clear hs hb
  cases b with
  | true =>
    go_wp2_with fail
    refine (bs_typed A c l key (w.heap.size + 1) w1 (HR.out.below HB1.out) (HS.out trivial) hlen x0).mono ?_
    rintro e w2 ⟨i, f, rfl, h1, h2, hb⟩
    have P1 := Lib.hid h1
    have P2 := Lib.hid h2
    have HB2 := Lib.hid (bl_then HB1.out hb)
    clear h1 h2 hb x0 x1
    go_wp2
    go_ret2
    exact ⟨i, f, rfl, P1.out, P2.out, HB2.out⟩
  | false =>
    go_wp2_with fail
    refine (ix_typed A c l key (w.heap.size + 1) w.heap.size w1 (HR.out.below HB1.out) x0 x1).mono ?_
    rintro e w2 ⟨i, rfl, h1, h2, hb⟩
    have P1 := Lib.hid h1
    have P2 := Lib.hid h2
    have HB2 := Lib.hid (bl_then HB1.out hb)
    clear h1 h2 hb x0 x1
    by_cases hi : 0 ≤ i
    · go_wp2
      go_ret2
      exact ⟨i, true, by simp [hi], fun _ => P1.out hi, (fun h => by cases h), HB2.out⟩
    · go_wp2
      go_ret2
      exact ⟨i, false, by simp; omega, (fun h => by cases h), fun _ => P2.out (by omega), HB2.out⟩
end Go.Proofs.YtpflimghkckpjaaGreatDoor.H
