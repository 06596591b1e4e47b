/-
Contracts of the reference's package outlawref01, by hand: wide, point and Valid answer as utf8 does. Condition: none but that a text is no longer than a slice may be.
The contract of the reference's Valid (package outlawref01), by hand: it answers as utf8 does. Condition: none but that a text is no longer than a slice may be.
-/
import Derived.Test.YtbjfmkmaghapgaaGreatDoorJU
import Derived.Deep.RegionHeld3
import Derived.Deep.DrawnRows
import Derived.WalkLawsBesides
import Derived.Lib.DecodeN
import Derived.Lib.ValidLaws
set_option linter.unusedVariables false
set_option linter.unusedSimpArgs false
namespace Go.Proofs.YtbjfmkmaghapgaaGreatDoor.H
open Go.RowKit Go.Shelf

def wideI (c : Nat) : Int := if c < 128 then 1 else if 192 ≤ c ∧ c < 224 then 2 else if 224 ≤ c ∧ c < 240 then 3 else if 240 ≤ c ∧ c < 248 then 4 else 0
set_option maxHeartbeats 1600000 in
theorem wide_any (c : UInt8) (w : World) : Calls Tryz.prog 111 #[.int .u8 (c.toNat : Int)] w fun e w' => e = .returned (.int .i64 (wideI c.toNat)) ∧ w = w' := by
  generalize hc : c.toNat = n
  clear hc
  by_cases h1 : (n : Int) < 128
  · have hw : wideI n = 1 := by unfold wideI; rw [if_pos (by omega)]
    rw [hw]
    go_enter Tryz.func111, Tryz.ntmps111
    go_wp2
    go_ret
    exact ⟨rfl, rfl⟩
  by_cases h2 : (n : Int) < 192
  · have g0 : ¬ (192 ≤ (n : Int)) := by omega
    have g1 : ¬ (224 ≤ (n : Int)) := by omega
    have g2 : ¬ (240 ≤ (n : Int)) := by omega
    have hw : wideI n = 0 := by unfold wideI; rw [if_neg (by omega), if_neg (by omega), if_neg (by omega), if_neg (by omega)]
    rw [hw]
    go_enter Tryz.func111, Tryz.ntmps111
    go_wp2
    go_ret
    exact ⟨rfl, rfl⟩
  by_cases h3 : (n : Int) < 224
  · have g0 : 192 ≤ (n : Int) := by omega
    have hw : wideI n = 2 := by unfold wideI; rw [if_neg (by omega)]; rw [if_pos (by omega)]
    rw [hw]
    go_enter Tryz.func111, Tryz.ntmps111
    go_wp2
    go_ret
    exact ⟨rfl, rfl⟩
  by_cases h4 : (n : Int) < 240
  · have g0 : 192 ≤ (n : Int) := by omega
    have g1 : 224 ≤ (n : Int) := by omega
    have hw : wideI n = 3 := by unfold wideI; rw [if_neg (by omega)]; rw [if_neg (by omega)]; rw [if_pos (by omega)]
    rw [hw]
    go_enter Tryz.func111, Tryz.ntmps111
    go_wp2
    go_ret
    exact ⟨rfl, rfl⟩
  by_cases h5 : (n : Int) < 248
  · have g0 : 192 ≤ (n : Int) := by omega
    have g1 : 224 ≤ (n : Int) := by omega
    have g2 : 240 ≤ (n : Int) := by omega
    have hw : wideI n = 4 := by unfold wideI; rw [if_neg (by omega)]; rw [if_neg (by omega)]; rw [if_neg (by omega)]; rw [if_pos (by omega)]
    rw [hw]
    go_enter Tryz.func111, Tryz.ntmps111
    go_wp2
    go_ret
    exact ⟨rfl, rfl⟩
  · have g0 : 192 ≤ (n : Int) := by omega
    have g1 : 224 ≤ (n : Int) := by omega
    have g2 : 240 ≤ (n : Int) := by omega
    have hw : wideI n = 0 := by unfold wideI; rw [if_neg (by omega), if_neg (by omega), if_neg (by omega), if_neg (by omega)]
    rw [hw]
    go_enter Tryz.func111, Tryz.ntmps111
    go_wp2
    go_ret
    exact ⟨rfl, rfl⟩

/-- The byte at a place; 0 behind the end. -/
def byA (s : ByteArray) (i : Nat) : Nat := (s.data.toList.getD i 0).toNat
theorem byA_at {s : ByteArray} {i : Nat} (h : i < s.size) : byA s i = (s[i]).toNat := by
  unfold byA
  rw [List.getD_eq_getElem?_getD, List.getElem?_eq_getElem (by rw [size_eq']; exact h)]
  rfl
def pointP (s : ByteArray) : Int × Int :=
  if s.size = 0 then (0, 0) else if Lib.decodeN s.size (byA s 0) (byA s 1) (byA s 2) (byA s 3) = (65533, 1) then (0, 0)
  else (((Lib.decodeN s.size (byA s 0) (byA s 1) (byA s 2) (byA s 3)).1 : Int), ((Lib.decodeN s.size (byA s 0) (byA s 1) (byA s 2) (byA s 3)).2 : Int))
theorem pointP_nil {s : ByteArray} (h : s.size = 0) : pointP s = (0, 0) := by unfold pointP; rw [if_pos h]
theorem pointP_bad {s : ByteArray} (h : Lib.decodeN s.size (byA s 0) (byA s 1) (byA s 2) (byA s 3) = (65533, 1)) : pointP s = (0, 0) := by
  unfold pointP
  by_cases h0 : s.size = 0
  · rw [if_pos h0]
  · rw [if_neg h0, if_pos h]
theorem pointP_ok {s : ByteArray} {r k : Nat} (h0 : s.size ≠ 0) (h : Lib.decodeN s.size (byA s 0) (byA s 1) (byA s 2) (byA s 3) = (r, k)) (hr : ¬ (r = 65533 ∧ k = 1)) : pointP s = ((r : Int), (k : Int)) := by
  unfold pointP
  rw [if_neg h0, h, if_neg (fun e => hr (by cases e; exact ⟨rfl, rfl⟩))]
/-- Valid, by pointP. -/
theorem validD_point {s : ByteArray} (h0 : s.size ≠ 0) : Lib.validD s.data.toList = if (pointP s).2 = 0 then false else Lib.validD (s.data.toList.drop (pointP s).2.toNat) := by
  have hne : s.data.toList ≠ [] := fun e => h0 (by rw [← size_eq', e]; rfl)
  rw [Lib.validD_step _ hne, Lib.decodeL_N, size_eq']
  show (if (Lib.decodeN s.size (byA s 0) (byA s 1) (byA s 2) (byA s 3)).1 = 65533 ∧ (Lib.decodeN s.size (byA s 0) (byA s 1) (byA s 2) (byA s 3)).2 = 1 then false else Lib.validD (s.data.toList.drop (Lib.decodeN s.size (byA s 0) (byA s 1) (byA s 2) (byA s 3)).2)) = _
  generalize hd : Lib.decodeN s.size (byA s 0) (byA s 1) (byA s 2) (byA s 3) = d
  by_cases hb : d = (65533, 1)
  · rw [pointP_bad (hd.trans hb), hb]
    rfl
  · obtain ⟨r, k⟩ := d
    have hb' : ¬ (r = 65533 ∧ k = 1) := fun e => hb (by rw [e.1, e.2])
    rw [pointP_ok h0 hd hb']
    have hk : k ≠ 0 := by
      unfold Lib.decodeN at hd
      repeat' split at hd
      all_goals first | (cases hd; omega) | (simp at hd; omega)
    rw [if_neg hb']
    simp [hk]
theorem and31 (c : UInt8) : bits BinOp.and IntKind.i64 (c.toNat : Int) 31 = ((c.toNat % 32 : Nat) : Int) := by
  have h : ∀ b : Fin 256, bits BinOp.and IntKind.i64 (b.val : Int) 31 = ((b.val % 32 : Nat) : Int) := by decide +kernel
  exact h ⟨c.toNat, c.toNat_lt⟩
theorem and15 (c : UInt8) : bits BinOp.and IntKind.i64 (c.toNat : Int) 15 = ((c.toNat % 16 : Nat) : Int) := by
  have h : ∀ b : Fin 256, bits BinOp.and IntKind.i64 (b.val : Int) 15 = ((b.val % 16 : Nat) : Int) := by decide +kernel
  exact h ⟨c.toNat, c.toNat_lt⟩
theorem and7 (c : UInt8) : bits BinOp.and IntKind.i64 (c.toNat : Int) 7 = ((c.toNat % 8 : Nat) : Int) := by
  have h : ∀ b : Fin 256, bits BinOp.and IntKind.i64 (b.val : Int) 7 = ((b.val % 8 : Nat) : Int) := by decide +kernel
  exact h ⟨c.toNat, c.toNat_lt⟩
theorem bl_alloc1 (w : World) (o : Obj) : Below w.heap.size w (w.alloc o) := (Below.refl _ _).alloc (Nat.le_refl _) _
set_option maxHeartbeats 4000000 in
set_option maxRecDepth 100000 in
theorem point_any (s : ByteArray) (w : World) (hs : s.size ≤ 9223372036854775807) :
    Calls Tryz.prog 98 #[.string s] w fun e w' => e = .returned (.tuple #[.int .i64 (pointP s).1, .int .i64 (pointP s).2]) ∧ Below w.heap.size w w' := by
  by_cases h0 : s.size = 0
  · rw [pointP_nil h0]
    have he : s.toList = [] := by rw [Lib.toList_data]; exact List.length_eq_zero_iff.1 (by rw [size_eq']; exact h0)
    have he1 : s.toList.isEmpty = true := by simp [he]
    have he2 : (s.toList == []) = true := by simp [he]
    go_enter Tryz.func98, Tryz.ntmps98
    go_wp2
    go_ret2
    exact ⟨rfl, Below.refl _ _⟩
  have hne : ¬ (s.toList = []) := by rw [Lib.toList_data]; exact fun e => h0 (by rw [← size_eq', e]; rfl)
  have he1 : s.toList.isEmpty = false := by simp [hne]
  have he2 : (s.toList == []) = false := by simp [hne]
  have hp : 0 < s.size := by omega
  have CW := Lib.hid (wide_any s[0])
  have hb0 : byA s 0 = (s[0]).toNat := byA_at hp
  have hlt0 := (s[0]).toNat_lt
  have HD := Lib.hid (@pointP_bad s)
  have HG := Lib.hid (fun r k => @pointP_ok s r k h0)
  rw [hb0] at HD HG
  clear hb0 h0
  by_cases c1 : (s[0]).toNat < 128
  · have hw : wideI (s[0]).toNat = 1 := by unfold wideI; rw [if_pos c1]
    rw [hw] at CW
    have hv := HG.out (s[0]).toNat 1 (by unfold Lib.decodeN; rw [if_pos c1]) (by omega)
    rw [hv]
    clear hv HD HG hw
    have g1 : ¬ ((s.size : Int) < 1) := by omega
    go_enter Tryz.func98, Tryz.ntmps98
    go_wp2_with fail
    refine (CW.out _).mono ?_
    rintro e w' ⟨rfl, rfl⟩
    go_wp2_with fail
    refine (CW.out _).mono ?_
    rintro e w' ⟨rfl, rfl⟩
    go_wp2_with fail
    refine (CW.out _).mono ?_
    rintro e w' ⟨rfl, rfl⟩
    go_wp2
    go_ret2
    exact ⟨rfl, Below.refl _ _⟩
  by_cases c2 : (s[0]).toNat < 192 ∨ 248 ≤ (s[0]).toNat
  · have hw : wideI (s[0]).toNat = 0 := by unfold wideI; rw [if_neg c1, if_neg (by omega), if_neg (by omega), if_neg (by omega)]
    rw [hw] at CW
    have hv := HD.out (by unfold Lib.decodeN; (repeat' split); all_goals first | rfl | (exfalso; omega))
    rw [hv]
    clear hv HD HG hw
    go_enter Tryz.func98, Tryz.ntmps98
    go_wp2_with fail
    refine (CW.out _).mono ?_
    rintro e w' ⟨rfl, rfl⟩
    go_wp2
    go_ret2
    exact ⟨rfl, Below.refl _ _⟩
  by_cases c3 : (s[0]).toNat < 224
  · have hw : wideI (s[0]).toNat = 2 := by unfold wideI; rw [if_neg c1, if_pos (by omega)]
    rw [hw] at CW
    clear hw
    by_cases hs2 : s.size < 2
    · have hv := HD.out (by unfold Lib.decodeN; (repeat' split); all_goals first | rfl | (exfalso; omega))
      rw [hv]
      clear hv HD HG
      go_enter Tryz.func98, Tryz.ntmps98
      go_wp2_with fail
      refine (CW.out _).mono ?_
      rintro e w' ⟨rfl, rfl⟩
      go_wp2_with fail
      refine (CW.out _).mono ?_
      rintro e w' ⟨rfl, rfl⟩
      go_wp2
      go_ret2
      exact ⟨rfl, Below.refl _ _⟩
    have h1 : ¬ ((s.size : Int) < 2) := by omega
    go_enter Tryz.func98, Tryz.ntmps98
    go_wp2_with fail
    refine (CW.out _).mono ?_
    rintro e w' ⟨rfl, rfl⟩
    go_wp2_with fail
    refine (CW.out _).mono ?_
    rintro e w' ⟨rfl, rfl⟩
    go_wp2_with fail
    refine (CW.out _).mono ?_
    rintro e w' ⟨rfl, rfl⟩
    go_wp2
    simp only [and31]
    generalize hB : ((s[0]).toNat % 32 : Nat) = B
    have hB' : B < 32 := by omega
    go_loop [5, 6] (fun r i => (i = .int .i64 1 ∧ r = .int .i64 ((B : Nat) : Int)) ∨ (i = .int .i64 2 ∧ 128 ≤ byA s 1 ∧ byA s 1 < 192 ∧ r = .int .i64 (((B * 64 + (byA s 1 - 128)) : Nat) : Int))) (fun _ i => 5 - (intOf i).toNat)
    case atStart => exact .inl ⟨rfl, rfl⟩
    case round =>
      rcases hrel with ⟨rfl, rfl⟩ | ⟨rfl, k1, j1, rfl⟩
      · have hsi : 1 < s.size := by omega
        have ei := byA_at hsi
        by_cases q1 : ((s[1]).toNat : Int) < 128
        · have hv := HD.out (by unfold Lib.decodeN; (repeat' split); all_goals first | rfl | (exfalso; omega))
          have HV := Lib.hid hv
          clear hv HD HG
          go_wp2
          go_ret2
          exact ⟨by rw [HV.out]; rfl, Below.refl _ _⟩
        by_cases q2 : 191 < ((s[1]).toNat : Int)
        · have hv := HD.out (by unfold Lib.decodeN; (repeat' split); all_goals first | rfl | (exfalso; omega))
          have HV := Lib.hid hv
          clear hv HD HG
          go_wp2
          go_ret2
          exact ⟨by rw [HV.out]; rfl, Below.refl _ _⟩
        go_wp2
        go_round
        case rel => exact .inr (⟨by go_num, by omega, by omega, by rw [ei]; congr 1; go_num⟩)
        case measure => simp [intOf]
      · have hsi : 1 < s.size := by omega
        by_cases p0 : (B * 64 + (byA s 1 - 128)) < 128
        · have hv := HD.out (by unfold Lib.decodeN; (repeat' split); all_goals first | rfl | (exfalso; omega))
          have HV := Lib.hid hv
          clear hv HD HG
          go_wp2
          go_ret2
          exact ⟨by rw [HV.out]; rfl, bl_alloc1 _ _⟩
        have hv := HG.out ((B * 64 + (byA s 1 - 128))) 2 (by unfold Lib.decodeN; (repeat' split); all_goals first | (exfalso; omega) | (apply Prod.ext <;> simp only <;> omega)) (by omega)
        have HV := Lib.hid hv
        clear hv HD HG
        go_wp2
        go_ret2
        exact ⟨by rw [HV.out]; rfl, bl_alloc1 _ _⟩
  by_cases c4 : (s[0]).toNat < 240
  · have hw : wideI (s[0]).toNat = 3 := by unfold wideI; rw [if_neg c1, if_neg (by omega), if_pos (by omega)]
    rw [hw] at CW
    clear hw
    by_cases hs2 : s.size < 3
    · have hv := HD.out (by unfold Lib.decodeN; (repeat' split); all_goals first | rfl | (exfalso; omega))
      rw [hv]
      clear hv HD HG
      go_enter Tryz.func98, Tryz.ntmps98
      go_wp2_with fail
      refine (CW.out _).mono ?_
      rintro e w' ⟨rfl, rfl⟩
      go_wp2_with fail
      refine (CW.out _).mono ?_
      rintro e w' ⟨rfl, rfl⟩
      go_wp2
      go_ret2
      exact ⟨rfl, Below.refl _ _⟩
    have h1 : ¬ ((s.size : Int) < 3) := by omega
    go_enter Tryz.func98, Tryz.ntmps98
    go_wp2_with fail
    refine (CW.out _).mono ?_
    rintro e w' ⟨rfl, rfl⟩
    go_wp2_with fail
    refine (CW.out _).mono ?_
    rintro e w' ⟨rfl, rfl⟩
    go_wp2_with fail
    refine (CW.out _).mono ?_
    rintro e w' ⟨rfl, rfl⟩
    go_wp2
    simp only [and15]
    generalize hB : ((s[0]).toNat % 16 : Nat) = B
    have hB' : B < 16 := by omega
    go_loop [5, 6] (fun r i => (i = .int .i64 1 ∧ r = .int .i64 ((B : Nat) : Int)) ∨ (i = .int .i64 2 ∧ 128 ≤ byA s 1 ∧ byA s 1 < 192 ∧ r = .int .i64 (((B * 64 + (byA s 1 - 128)) : Nat) : Int)) ∨ (i = .int .i64 3 ∧ 128 ≤ byA s 1 ∧ byA s 1 < 192 ∧ 128 ≤ byA s 2 ∧ byA s 2 < 192 ∧ r = .int .i64 ((((B * 64 + (byA s 1 - 128)) * 64 + (byA s 2 - 128)) : Nat) : Int))) (fun _ i => 5 - (intOf i).toNat)
    case atStart => exact .inl ⟨rfl, rfl⟩
    case round =>
      rcases hrel with ⟨rfl, rfl⟩ | ⟨rfl, k1, j1, rfl⟩ | ⟨rfl, k1, j1, k2, j2, rfl⟩
      · have hsi : 1 < s.size := by omega
        have ei := byA_at hsi
        by_cases q1 : ((s[1]).toNat : Int) < 128
        · have hv := HD.out (by unfold Lib.decodeN; (repeat' split); all_goals first | rfl | (exfalso; omega))
          have HV := Lib.hid hv
          clear hv HD HG
          go_wp2
          go_ret2
          exact ⟨by rw [HV.out]; rfl, Below.refl _ _⟩
        by_cases q2 : 191 < ((s[1]).toNat : Int)
        · have hv := HD.out (by unfold Lib.decodeN; (repeat' split); all_goals first | rfl | (exfalso; omega))
          have HV := Lib.hid hv
          clear hv HD HG
          go_wp2
          go_ret2
          exact ⟨by rw [HV.out]; rfl, Below.refl _ _⟩
        go_wp2
        go_round
        case rel => exact .inr (.inl ⟨by go_num, by omega, by omega, by rw [ei]; congr 1; go_num⟩)
        case measure => simp [intOf]
      · have hsi : 2 < s.size := by omega
        have ei := byA_at hsi
        by_cases q1 : ((s[2]).toNat : Int) < 128
        · have hv := HD.out (by unfold Lib.decodeN; (repeat' split); all_goals first | rfl | (exfalso; omega))
          have HV := Lib.hid hv
          clear hv HD HG
          go_wp2
          go_ret2
          exact ⟨by rw [HV.out]; rfl, Below.refl _ _⟩
        by_cases q2 : 191 < ((s[2]).toNat : Int)
        · have hv := HD.out (by unfold Lib.decodeN; (repeat' split); all_goals first | rfl | (exfalso; omega))
          have HV := Lib.hid hv
          clear hv HD HG
          go_wp2
          go_ret2
          exact ⟨by rw [HV.out]; rfl, Below.refl _ _⟩
        go_wp2
        go_round
        case rel => exact .inr (.inr (⟨by go_num, by omega, by omega, by omega, by omega, by rw [ei]; congr 1; go_num⟩))
        case measure => simp [intOf]
      · have hsi : 2 < s.size := by omega
        by_cases p0 : ((B * 64 + (byA s 1 - 128)) * 64 + (byA s 2 - 128)) < 2048
        · have hv := HD.out (by unfold Lib.decodeN; (repeat' split); all_goals first | rfl | (exfalso; omega))
          have HV := Lib.hid hv
          clear hv HD HG
          go_wp2
          go_ret2
          exact ⟨by rw [HV.out]; rfl, bl_alloc1 _ _⟩
        by_cases p1 : 55296 ≤ ((B * 64 + (byA s 1 - 128)) * 64 + (byA s 2 - 128)) ∧ ((B * 64 + (byA s 1 - 128)) * 64 + (byA s 2 - 128)) ≤ 57343
        · have hv := HD.out (by unfold Lib.decodeN; (repeat' split); all_goals first | rfl | (exfalso; omega))
          have HV := Lib.hid hv
          clear hv HD HG
          have p1a := p1.1
          have p1b := p1.2
          go_wp2
          go_ret2
          exact ⟨by rw [HV.out]; rfl, bl_alloc1 _ _⟩
        have hv := HG.out (((B * 64 + (byA s 1 - 128)) * 64 + (byA s 2 - 128))) 3 (by unfold Lib.decodeN; (repeat' split); all_goals first | (exfalso; omega) | (apply Prod.ext <;> simp only <;> omega)) (by omega)
        have HV := Lib.hid hv
        clear hv HD HG
        by_cases p2 : 55296 ≤ ((B * 64 + (byA s 1 - 128)) * 64 + (byA s 2 - 128))
        · have p3 : ¬ (((B * 64 + (byA s 1 - 128)) * 64 + (byA s 2 - 128)) ≤ 57343) := by omega
          go_wp2
          go_ret2
          exact ⟨by rw [HV.out]; rfl, bl_alloc1 _ _⟩
        go_wp2
        go_ret2
        exact ⟨by rw [HV.out]; rfl, bl_alloc1 _ _⟩
  have c5 : (s[0]).toNat < 248 := by omega
  have hw : wideI (s[0]).toNat = 4 := by unfold wideI; rw [if_neg c1, if_neg (by omega), if_neg (by omega), if_pos (by omega)]
  rw [hw] at CW
  clear hw
  by_cases hs2 : s.size < 4
  · have hv := HD.out (by unfold Lib.decodeN; (repeat' split); all_goals first | rfl | (exfalso; omega))
    rw [hv]
    clear hv HD HG
    go_enter Tryz.func98, Tryz.ntmps98
    go_wp2_with fail
    refine (CW.out _).mono ?_
    rintro e w' ⟨rfl, rfl⟩
    go_wp2_with fail
    refine (CW.out _).mono ?_
    rintro e w' ⟨rfl, rfl⟩
    go_wp2
    go_ret2
    exact ⟨rfl, Below.refl _ _⟩
  have h1 : ¬ ((s.size : Int) < 4) := by omega
  go_enter Tryz.func98, Tryz.ntmps98
  go_wp2_with fail
  refine (CW.out _).mono ?_
  rintro e w' ⟨rfl, rfl⟩
  go_wp2_with fail
  refine (CW.out _).mono ?_
  rintro e w' ⟨rfl, rfl⟩
  go_wp2_with fail
  refine (CW.out _).mono ?_
  rintro e w' ⟨rfl, rfl⟩
  go_wp2
  simp only [and7]
  generalize hB : ((s[0]).toNat % 8 : Nat) = B
  have hB' : B < 8 := by omega
  go_loop [5, 6] (fun r i => (i = .int .i64 1 ∧ r = .int .i64 ((B : Nat) : Int)) ∨ (i = .int .i64 2 ∧ 128 ≤ byA s 1 ∧ byA s 1 < 192 ∧ r = .int .i64 (((B * 64 + (byA s 1 - 128)) : Nat) : Int)) ∨ (i = .int .i64 3 ∧ 128 ≤ byA s 1 ∧ byA s 1 < 192 ∧ 128 ≤ byA s 2 ∧ byA s 2 < 192 ∧ r = .int .i64 ((((B * 64 + (byA s 1 - 128)) * 64 + (byA s 2 - 128)) : Nat) : Int)) ∨ (i = .int .i64 4 ∧ 128 ≤ byA s 1 ∧ byA s 1 < 192 ∧ 128 ≤ byA s 2 ∧ byA s 2 < 192 ∧ 128 ≤ byA s 3 ∧ byA s 3 < 192 ∧ r = .int .i64 (((((B * 64 + (byA s 1 - 128)) * 64 + (byA s 2 - 128)) * 64 + (byA s 3 - 128)) : Nat) : Int))) (fun _ i => 5 - (intOf i).toNat)
  case atStart => exact .inl ⟨rfl, rfl⟩
  case round =>
    rcases hrel with ⟨rfl, rfl⟩ | ⟨rfl, k1, j1, rfl⟩ | ⟨rfl, k1, j1, k2, j2, rfl⟩ | ⟨rfl, k1, j1, k2, j2, k3, j3, rfl⟩
    · have hsi : 1 < s.size := by omega
      have ei := byA_at hsi
      by_cases q1 : ((s[1]).toNat : Int) < 128
      · have hv := HD.out (by unfold Lib.decodeN; (repeat' split); all_goals first | rfl | (exfalso; omega))
        have HV := Lib.hid hv
        clear hv HD HG
        go_wp2
        go_ret2
        exact ⟨by rw [HV.out]; rfl, Below.refl _ _⟩
      by_cases q2 : 191 < ((s[1]).toNat : Int)
      · have hv := HD.out (by unfold Lib.decodeN; (repeat' split); all_goals first | rfl | (exfalso; omega))
        have HV := Lib.hid hv
        clear hv HD HG
        go_wp2
        go_ret2
        exact ⟨by rw [HV.out]; rfl, Below.refl _ _⟩
      go_wp2
      go_round
      case rel => exact .inr (.inl ⟨by go_num, by omega, by omega, by rw [ei]; congr 1; go_num⟩)
      case measure => simp [intOf]
    · have hsi : 2 < s.size := by omega
      have ei := byA_at hsi
      by_cases q1 : ((s[2]).toNat : Int) < 128
      · have hv := HD.out (by unfold Lib.decodeN; (repeat' split); all_goals first | rfl | (exfalso; omega))
        have HV := Lib.hid hv
        clear hv HD HG
        go_wp2
        go_ret2
        exact ⟨by rw [HV.out]; rfl, Below.refl _ _⟩
      by_cases q2 : 191 < ((s[2]).toNat : Int)
      · have hv := HD.out (by unfold Lib.decodeN; (repeat' split); all_goals first | rfl | (exfalso; omega))
        have HV := Lib.hid hv
        clear hv HD HG
        go_wp2
        go_ret2
        exact ⟨by rw [HV.out]; rfl, Below.refl _ _⟩
      go_wp2
      go_round
      case rel => exact .inr (.inr (.inl ⟨by go_num, by omega, by omega, by omega, by omega, by rw [ei]; congr 1; go_num⟩))
      case measure => simp [intOf]
    · have hsi : 3 < s.size := by omega
      have ei := byA_at hsi
      by_cases q1 : ((s[3]).toNat : Int) < 128
      · have hv := HD.out (by unfold Lib.decodeN; (repeat' split); all_goals first | rfl | (exfalso; omega))
        have HV := Lib.hid hv
        clear hv HD HG
        go_wp2
        go_ret2
        exact ⟨by rw [HV.out]; rfl, Below.refl _ _⟩
      by_cases q2 : 191 < ((s[3]).toNat : Int)
      · have hv := HD.out (by unfold Lib.decodeN; (repeat' split); all_goals first | rfl | (exfalso; omega))
        have HV := Lib.hid hv
        clear hv HD HG
        go_wp2
        go_ret2
        exact ⟨by rw [HV.out]; rfl, Below.refl _ _⟩
      go_wp2
      go_round
      case rel => exact .inr (.inr (.inr (⟨by go_num, by omega, by omega, by omega, by omega, by omega, by omega, by rw [ei]; congr 1; go_num⟩)))
      case measure => simp [intOf]
    · have hsi : 3 < s.size := by omega
      by_cases p0 : (((B * 64 + (byA s 1 - 128)) * 64 + (byA s 2 - 128)) * 64 + (byA s 3 - 128)) < 65536
      · have hv := HD.out (by unfold Lib.decodeN; (repeat' split); all_goals first | rfl | (exfalso; omega))
        have HV := Lib.hid hv
        clear hv HD HG
        go_wp2
        go_ret2
        exact ⟨by rw [HV.out]; rfl, bl_alloc1 _ _⟩
      by_cases p1 : 1114111 < (((B * 64 + (byA s 1 - 128)) * 64 + (byA s 2 - 128)) * 64 + (byA s 3 - 128))
      · have hv := HD.out (by unfold Lib.decodeN; (repeat' split); all_goals first | rfl | (exfalso; omega))
        have HV := Lib.hid hv
        clear hv HD HG
        go_wp2
        go_ret2
        exact ⟨by rw [HV.out]; rfl, bl_alloc1 _ _⟩
      have hv := HG.out ((((B * 64 + (byA s 1 - 128)) * 64 + (byA s 2 - 128)) * 64 + (byA s 3 - 128))) 4 (by unfold Lib.decodeN; (repeat' split); all_goals first | (exfalso; omega) | (apply Prod.ext <;> simp only <;> omega)) (by omega)
      have HV := Lib.hid hv
      clear hv HD HG
      go_wp2
      go_ret2
      exact ⟨by rw [HV.out]; rfl, bl_alloc1 _ _⟩
end Go.Proofs.YtbjfmkmaghapgaaGreatDoor.H

set_option linter.unusedVariables false
set_option linter.unusedSimpArgs false
namespace Go.Proofs.YtbjfmkmaghapgaaGreatDoor.H
open Go.RowKit Go.Shelf

theorem pointP_le (s : ByteArray) : 0 ≤ (pointP s).2 ∧ (pointP s).2 ≤ s.size := by
  by_cases h0 : s.size = 0
  · rw [pointP_nil h0]; simp
  generalize hd : Lib.decodeN s.size (byA s 0) (byA s 1) (byA s 2) (byA s 3) = d
  by_cases hb : d = (65533, 1)
  · rw [pointP_bad (hd.trans hb)]; simp
  · obtain ⟨r, k⟩ := d
    rw [pointP_ok h0 hd (fun e => hb (by rw [e.1, e.2]))]
    have hk : k ≤ s.size := by
      unfold Lib.decodeN at hd
      repeat' split at hd
      all_goals first | (cases hd; omega) | (simp at hd; omega)
    simp only
    omega
theorem drop_ext (t : ByteArray) (k : Nat) : (t.extract k t.size).data.toList = t.data.toList.drop k := by
  simp
  rw [List.take_of_length_le (by rw [List.length_drop, size_eq']; omega)]
def strSize : Value → Nat
  | .string t => t.size
  | _ => 0
set_option maxHeartbeats 1600000 in
set_option maxRecDepth 100000 in
theorem rvalid_any (s : ByteArray) (w : World) (hs : s.size ≤ 9223372036854775807) :
    Calls Tryz.prog 72 #[.string s] w fun e w' => e = .returned (.bool (Lib.validD s.data.toList)) ∧ Below w.heap.size w w' := by
  generalize hV : Lib.validD s.data.toList = V
  go_enter Tryz.func72, Tryz.ntmps72
  go_wp2
  go_loopw [0] (fun v wr => ∃ t : ByteArray, v = .string t ∧ t.size ≤ 9223372036854775807 ∧ Hid (Lib.validD t.data.toList = V) ∧ Hid (Below w.heap.size w wr)) (fun v _ => strSize v)
  case atStart => exact ⟨s, rfl, hs, Lib.hid hV, Lib.hid (Below.refl _ _)⟩
  case round =>
    obtain ⟨t, rfl, ht, HV, HB⟩ := hrel
    by_cases h0 : t.size = 0
    · have hn : t.data.toList = [] := List.length_eq_zero_iff.1 (by rw [size_eq']; exact h0)
      have he : t.toList = [] := by rw [Lib.toList_data]; exact hn
      have he1 : t.toList.isEmpty = true := by simp [he]
      have he2 : (t.toList == []) = true := by simp [he]
      have he3 : (t.toList != []) = false := by simp [he]
      have HT : Hid (V = true) := Lib.hid (by rw [← HV.out, hn]; rfl)
      clear hn
      go_wp2
      go_ret
      exact ⟨ret_bool HT.out.symm, HB.out⟩
    · have hne : ¬ (t.toList = []) := by rw [Lib.toList_data]; exact fun e => h0 (by rw [← size_eq', e]; rfl)
      have he1 : t.toList.isEmpty = false := by simp [hne]
      have he2 : (t.toList == []) = false := by simp [hne]
      have he3 : (t.toList != []) = true := by simp [hne]
      have hle := pointP_le t
      have CP := Lib.hid (fun W => point_any t W ht)
      have HS := Lib.hid (validD_point h0)
      generalize (pointP t).1 = r at CP
      generalize (pointP t).2 = n at CP HS hle
      obtain ⟨k, rfl⟩ := Int.eq_ofNat_of_zero_le hle.1
      have hk : k ≤ t.size := by omega
      clear hle
      cases k with
      | zero =>
        have HT : Hid (V = false) := Lib.hid (by rw [← HV.out, HS.out]; rfl)
        clear HS
        go_wp2_with fail
        refine (CP.out _).mono ?_
        rintro e w1 ⟨rfl, hb⟩
        have HB1 := Lib.hid (bl_then HB.out hb)
        clear hb
        go_wp2
        go_ret
        exact ⟨ret_bool HT.out.symm, HB1.out⟩
      | succ k =>
        have HT : Hid (Lib.validD (t.extract (k + 1) t.size).data.toList = V) := Lib.hid (by
          rw [drop_ext, ← HV.out, HS.out, if_neg (by omega)]
          rfl)
        clear HS HV
        go_wp2_with fail
        refine (CP.out _).mono ?_
        rintro e w1 ⟨rfl, hb⟩
        have HB1 := Lib.hid (bl_then HB.out hb)
        clear hb
        go_wp2
        go_roundw
        case rel => exact ⟨t.extract (k + 1) t.size, rfl, by simp; omega, HT, HB1⟩
        case measure => simp [strSize]; omega
end Go.Proofs.YtbjfmkmaghapgaaGreatDoor.H
