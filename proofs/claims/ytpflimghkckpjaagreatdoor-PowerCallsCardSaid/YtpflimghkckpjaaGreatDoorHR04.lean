/-
Contracts of the reference's package outlawref04, by hand: each function answers as the program's own package ident does. Condition: none but that a text is no longer than a slice may be.
-/
import Derived.Test.YtpflimghkckpjaaGreatDoorHId2
import Derived.Lib.IndexLaws
set_option linter.unusedVariables false
set_option linter.unusedSimpArgs false
namespace Go.Proofs.YtpflimghkckpjaaGreatDoor.H
open Go.RowKit Go.Shelf

def letC (c : UInt8) : Bool := (decide (97 ≤ (c.toNat : Int)) && decide ((c.toNat : Int) ≤ 122)) || (decide (65 ≤ (c.toNat : Int)) && decide ((c.toNat : Int) ≤ 90))
set_option maxHeartbeats 400000 in
theorem rdig_any (c : UInt8) (w : World) : Calls Tryz.prog 137 #[.int .u8 (c.toNat : Int)] w fun e w' => e = .returned (.bool (digC c)) ∧ w = w' := by
  unfold digC
  by_cases h1 : 48 ≤ (c.toNat : Int)
  · by_cases h2 : (c.toNat : Int) ≤ 57
    all_goals
      go_enter Tryz.func137, Tryz.ntmps137
      go_wp2
      go_ret
      exact ⟨ret_bool (by first | (simp [h1, h2]; done) | (simp; omega)), rfl⟩
  · go_enter Tryz.func137, Tryz.ntmps137
    go_wp2
    go_ret
    exact ⟨ret_bool (by first | (simp [h1]; done) | (simp; omega)), rfl⟩
set_option maxHeartbeats 400000 in
theorem rlet_any (c : UInt8) (w : World) : Calls Tryz.prog 136 #[.int .u8 (c.toNat : Int)] w fun e w' => e = .returned (.bool (letC c)) ∧ w = w' := by
  unfold letC
  by_cases h1 : 97 ≤ (c.toNat : Int)
  · by_cases h2 : (c.toNat : Int) ≤ 122
    all_goals
      go_enter Tryz.func136, Tryz.ntmps136
      go_wp2
      go_ret
      exact ⟨ret_bool (by first | (simp [h1, h2]; done) | (simp; omega)), rfl⟩
  · by_cases h3 : 65 ≤ (c.toNat : Int)
    · by_cases h4 : (c.toNat : Int) ≤ 90
      all_goals
        go_enter Tryz.func136, Tryz.ntmps136
        go_wp2
        go_ret
        exact ⟨ret_bool (by first | (simp [h1, h3, h4]; done) | (simp; omega)), rfl⟩
    · go_enter Tryz.func136, Tryz.ntmps136
      go_wp2
      go_ret
      exact ⟨ret_bool (by first | (simp [h1, h3]; done) | (simp; omega)), rfl⟩

def amongB (c : UInt8) (s : ByteArray) : Bool := decide (0 ≤ Lib.indexByte s.data.toList c)
def NoneTo (c : UInt8) (s : ByteArray) (k : Nat) : Prop := ∀ j (hj : j < s.size), j < k → s[j] ≠ c
theorem idx_at {c : UInt8} {s : ByteArray} {k : Nat} (h : k < s.size) (e : s[k] = c) (hn : NoneTo c s k) : Lib.indexByte s.data.toList c = k := by
  have g := Lib.indexByte_ge s.data.toList c
  have hg : ∀ (j : Nat) (hj : j < s.size), s.data.toList[j]? = some s[j] := fun j hj => by
    rw [List.getElem?_eq_getElem (by rw [size_eq']; exact hj)]; rfl
  rcases (by omega : Lib.indexByte s.data.toList c = -1 ∨ 0 ≤ Lib.indexByte s.data.toList c) with h1 | h1
  · exact absurd ((hg k h).trans (by rw [e])) (Lib.indexByte_none h1 k)
  · obtain ⟨o, ho⟩ := Int.eq_ofNat_of_zero_le h1
    obtain ⟨h2, h3⟩ := Lib.indexByte_some ho
    have hol : o < s.size := by rw [← size_eq']; exact (List.getElem?_eq_some_iff.1 h2).1
    rw [hg o hol] at h2
    rcases Nat.lt_trichotomy o k with h4 | h4 | h4
    · exact absurd (Option.some.inj h2) (hn o hol h4)
    · rw [ho, h4]
    · exact absurd ((hg k h).trans (by rw [e])) (h3 k h4)
theorem idx_none {c : UInt8} {s : ByteArray} (hn : NoneTo c s s.size) : Lib.indexByte s.data.toList c = -1 := by
  have g := Lib.indexByte_ge s.data.toList c
  rcases (by omega : Lib.indexByte s.data.toList c = -1 ∨ 0 ≤ Lib.indexByte s.data.toList c) with h1 | h1
  · exact h1
  · obtain ⟨o, ho⟩ := Int.eq_ofNat_of_zero_le h1
    obtain ⟨h2, _⟩ := Lib.indexByte_some ho
    have hol : o < s.size := by rw [← size_eq']; exact (List.getElem?_eq_some_iff.1 h2).1
    rw [List.getElem?_eq_getElem (by rw [size_eq']; exact hol)] at h2
    exact absurd (Option.some.inj h2) (hn o hol hol)
theorem among_yes {c : UInt8} {s : ByteArray} {k : Nat} (h : k < s.size) (e : s[k] = c) (hn : NoneTo c s k) : amongB c s = true := by
  unfold amongB
  rw [idx_at h e hn]
  exact decide_eq_true (by omega)
theorem among_no {c : UInt8} {s : ByteArray} (h : NoneTo c s s.size) : amongB c s = false := by
  unfold amongB
  rw [idx_none h]
  rfl
theorem toNat_inj' {a b : UInt8} (h : (a.toNat : Int) = (b.toNat : Int)) : a = b := UInt8.toNat_inj.1 (by omega)
set_option maxHeartbeats 400000 in
theorem among_any (c : UInt8) (s : ByteArray) (w : World) (hs : s.size ≤ 9223372036854775807) :
    Calls Tryz.prog 138 #[.int .u8 (c.toNat : Int), .string s] w fun e w' => e = .returned (.bool (amongB c s)) ∧ w = w' := by
  go_enter Tryz.func138, Tryz.ntmps138
  go_wp2
  go_loop [5] (fun i => ∃ k : Nat, k ≤ s.size ∧ i = .int .i64 k ∧ NoneTo c s k) (fun i => s.size - (intOf i).toNat)
  case atStart => exact ⟨0, Nat.zero_le _, rfl, fun j _ h => absurd h (by omega)⟩
  case round =>
    obtain ⟨k, hk, rfl, ha⟩ := hrel
    have HA := Lib.hid ha
    clear ha
    by_cases hlt : k < s.size
    · by_cases he : (s[k].toNat : Int) = (c.toNat : Int)
      · have HY := Lib.hid (among_yes hlt (toNat_inj' he) HA.out)
        go_wp2
        go_ret
        exact ⟨ret_bool HY.out.symm, rfl⟩
      · have HN : Hid (s[k] ≠ c) := Lib.hid (fun e => he (by rw [e]))
        go_wp2
        go_round
        case rel => exact ⟨k + 1, by omega, by go_num, fun j hj hlt' => by
          rcases Nat.lt_or_ge j k with h | h
          · exact HA.out j hj h
          · obtain rfl : j = k := by omega
            exact HN.out⟩
        case measure => simp [intOf]; omega
    · obtain rfl : k = s.size := by omega
      have HN := Lib.hid (among_no HA.out)
      go_wp2
      go_ret
      exact ⟨ret_bool HN.out.symm, rfl⟩

set_option maxHeartbeats 400000 in
theorem rcolon_any (s : ByteArray) (w : World) (hs : s.size ≤ 9223372036854775807) :
    Calls Tryz.prog 134 #[.string s] w fun e w' => e = .returned (.int .i64 (colonAt s)) ∧ w = w' := by
  go_enter Tryz.func134, Tryz.ntmps134
  go_wp2
  go_loop [3] (fun i => ∃ k : Nat, k ≤ s.size ∧ i = .int .i64 k ∧ NoneTo 58 s k) (fun i => s.size - (intOf i).toNat)
  case atStart => exact ⟨0, Nat.zero_le _, rfl, fun j _ h => absurd h (by omega)⟩
  case round =>
    obtain ⟨k, hk, rfl, ha⟩ := hrel
    have HA := Lib.hid ha
    clear ha
    by_cases hlt : k < s.size
    · by_cases he : (s[k].toNat : Int) = 58
      · have HY := (Lib.hid (idx_at hlt (toNat_inj' he) HA.out) : Hid (colonAt s = k))
        go_wp2
        go_ret
        exact ⟨by rw [HY.out]; rfl, rfl⟩
      · have HN : Hid (s[k] ≠ 58) := Lib.hid (fun e => he (by rw [e]; rfl))
        go_wp2
        go_round
        case rel => exact ⟨k + 1, by omega, by go_num, fun j hj hlt' => by
          rcases Nat.lt_or_ge j k with h | h
          · exact HA.out j hj h
          · obtain rfl : j = k := by omega
            exact HN.out⟩
        case measure => simp [intOf]; omega
    · obtain rfl : k = s.size := by omega
      have HN := (Lib.hid (idx_none HA.out) : Hid (colonAt s = -1))
      go_wp2
      go_ret
      exact ⟨by rw [HN.out]; rfl, rfl⟩

theorem host_one (c : UInt8) : (letC c || (digC c || amongB c ⟨#[46, 45]⟩)) = hostP c := by
  unfold hostP orC greatC smallC letC digC amongB
  generalize decide (0 ≤ Lib.indexByte _ c) = x
  generalize decide (97 ≤ (c.toNat : Int)) = b1
  generalize decide ((c.toNat : Int) ≤ 122) = b2
  generalize decide (65 ≤ (c.toNat : Int)) = b3
  generalize decide ((c.toNat : Int) ≤ 90) = b4
  generalize decide (48 ≤ (c.toNat : Int)) = b5
  generalize decide ((c.toNat : Int) ≤ 57) = b6
  cases x <;> cases b1 <;> cases b2 <;> cases b3 <;> cases b4 <;> cases b5 <;> cases b6 <;> rfl
set_option maxHeartbeats 1600000 in
theorem rhost_any (s : ByteArray) (w : World) (hs : s.size ≤ 9223372036854775807) :
    Calls Tryz.prog 176 #[.string s] w fun e w' => e = .returned (.bool (allC hostP s.data.toList s.size)) ∧ w = w' := by
  go_enter Tryz.func176, Tryz.ntmps176
  go_wp2
  go_loop [3] (fun i => ∃ k : Nat, k ≤ s.size ∧ i = .int .i64 k ∧ AllTo hostP s k) (fun i => s.size - (intOf i).toNat)
  case atStart => exact ⟨0, Nat.zero_le _, rfl, fun j _ h => absurd h (by omega)⟩
  case round =>
    obtain ⟨k, hk, rfl, ha⟩ := hrel
    have HA := Lib.hid ha
    clear ha
    by_cases hlt : k < s.size
    · have hx : k < s.data.toList.length := by rw [size_eq']; exact hlt
      have CL := Lib.hid (rlet_any s[k])
      have CD := Lib.hid (rdig_any s[k])
      have CA := Lib.hid (fun w => among_any s[k] ⟨#[46, 45]⟩ w (by decide))
      have HO := Lib.hid (host_one s[k])
      generalize letC s[k] = b1 at CL HO
      generalize digC s[k] = b2 at CD HO
      generalize amongB s[k] ⟨#[46, 45]⟩ = b3 at CA HO
      cases b1 with
      | true =>
        go_wp2_with fail
        refine (CL.out _).mono ?_
        rintro e w' ⟨rfl, rfl⟩
        go_wp2
        go_round
        case rel => exact ⟨k + 1, by omega, by go_num, fun j hj hlt' => by
          rcases Nat.lt_or_ge j k with h | h
          · exact HA.out j hj h
          · obtain rfl : j = k := by omega
            exact HO.out.symm⟩
        case measure => simp [intOf]; omega
      | false =>
      cases b2 with
      | true =>
        go_wp2_with fail
        refine (CL.out _).mono ?_
        rintro e w' ⟨rfl, rfl⟩
        go_wp2_with fail
        refine (CD.out _).mono ?_
        rintro e w' ⟨rfl, rfl⟩
        go_wp2
        go_round
        case rel => exact ⟨k + 1, by omega, by go_num, fun j hj hlt' => by
          rcases Nat.lt_or_ge j k with h | h
          · exact HA.out j hj h
          · obtain rfl : j = k := by omega
            exact HO.out.symm⟩
        case measure => simp [intOf]; omega
      | false =>
      cases b3 with
      | true =>
        go_wp2_with fail
        refine (CL.out _).mono ?_
        rintro e w' ⟨rfl, rfl⟩
        go_wp2_with fail
        refine (CD.out _).mono ?_
        rintro e w' ⟨rfl, rfl⟩
        go_wp2_with fail
        refine (CA.out _).mono ?_
        rintro e w' ⟨rfl, rfl⟩
        go_wp2
        go_round
        case rel => exact ⟨k + 1, by omega, by go_num, fun j hj hlt' => by
          rcases Nat.lt_or_ge j k with h | h
          · exact HA.out j hj h
          · obtain rfl : j = k := by omega
            exact HO.out.symm⟩
        case measure => simp [intOf]; omega
      | false =>
        go_wp2_with fail
        refine (CL.out _).mono ?_
        rintro e w' ⟨rfl, rfl⟩
        go_wp2_with fail
        refine (CD.out _).mono ?_
        rintro e w' ⟨rfl, rfl⟩
        go_wp2_with fail
        refine (CA.out _).mono ?_
        rintro e w' ⟨rfl, rfl⟩
        go_wp2
        go_ret
        exact ⟨ret_bool (all_no (p := hostP) (l := s.data.toList) hx HO.out.symm).symm, rfl⟩
    · obtain rfl : k = s.size := by omega
      have hall : s.data.toList.all hostP = true := all_yes (fun j hj => HA.out j hj (by rw [← size_eq']; exact hj))
      have HF : Hid (allC hostP s.data.toList s.size = !(s.toList == [])) := by
        refine Lib.hid ?_
        unfold allC
        rw [hall, size_eq', Bool.true_and, Lib.toList_data]
        cases s.data.toList <;> simp
      clear hall
      go_wp2
      go_ret
      exact ⟨ret_bool (by rw [HF.out]; simp [bne]), rfl⟩
set_option maxHeartbeats 800000 in
theorem rport_any (s : ByteArray) (w : World) (hs : s.size ≤ 9223372036854775807) :
    Calls Tryz.prog 177 #[.string s] w fun e w' => e = .returned (.bool (allC digC s.data.toList 5)) ∧ w = w' := by
  go_enter Tryz.func177, Tryz.ntmps177
  go_wp2
  go_loop [3] (fun i => ∃ k : Nat, k ≤ s.size ∧ i = .int .i64 k ∧ AllTo digC s k) (fun i => s.size - (intOf i).toNat)
  case atStart => exact ⟨0, Nat.zero_le _, rfl, fun j _ h => absurd h (by omega)⟩
  case round =>
    obtain ⟨k, hk, rfl, ha⟩ := hrel
    have HA := Lib.hid ha
    clear ha
    by_cases hlt : k < s.size
    · have hx : k < s.data.toList.length := by rw [size_eq']; exact hlt
      have CD := Lib.hid (rdig_any s[k])
      have HO : Hid (digC s[k] = digC s[k]) := Lib.hid rfl
      generalize hb : digC s[k] = b2 at CD HO
      have HBB := Lib.hid hb
      clear hb
      cases b2 with
      | true =>
        go_wp2_with fail
        refine (CD.out _).mono ?_
        rintro e w' ⟨rfl, rfl⟩
        go_wp2
        go_round
        case rel => exact ⟨k + 1, by omega, by go_num, fun j hj hlt' => by
          rcases Nat.lt_or_ge j k with h | h
          · exact HA.out j hj h
          · obtain rfl : j = k := by omega
            exact HBB.out⟩
        case measure => simp [intOf]; omega
      | false =>
        go_wp2_with fail
        refine (CD.out _).mono ?_
        rintro e w' ⟨rfl, rfl⟩
        go_wp2
        go_ret
        exact ⟨ret_bool (all_no (p := digC) (l := s.data.toList) hx HBB.out).symm, rfl⟩
    · obtain rfl : k = s.size := by omega
      have hall : s.data.toList.all digC = true := all_yes (fun j hj => HA.out j hj (by rw [← size_eq']; exact hj))
      have HF : Hid (allC digC s.data.toList 5 = (decide (1 ≤ s.size) && decide ((s.size : Int) ≤ 5))) := by
        refine Lib.hid ?_
        unfold allC
        rw [hall, Bool.true_and, size_eq', ← size_eq' s]
        cases s.data.toList <;> simp
      clear hall
      by_cases h1 : 1 ≤ s.size
      · by_cases h5 : (s.size : Int) ≤ 5
        all_goals
          go_wp2
          go_ret
          exact ⟨ret_bool (by rw [HF.out]; first | (simp [h1, h5]; done) | (simp; omega)), rfl⟩
      · go_wp2
        go_ret
        exact ⟨ret_bool (by rw [HF.out]; first | (simp [h1]; done) | (simp; omega)), rfl⟩

theorem allC_most {p : UInt8 → Bool} {l : List UInt8} {m : Int} (h : (l.length : Int) ≤ m) : allC p l m = (l.all p && !l.isEmpty) := by
  unfold allC
  rw [decide_eq_true h, Bool.and_true]
theorem cut_at {s : ByteArray} {k : Nat} (hk : colonAt s = k) : cutA s = s.extract 0 k ∧ cutB s = s.extract (k + 1) s.size ∧ k < s.size := by
  have h := (colon_lt s).1
  unfold cutA cutB
  rw [hk, if_pos (by omega), if_pos (by omega)]
  exact ⟨rfl, rfl, by omega⟩
theorem ext_len (s : ByteArray) (a b : Nat) : (s.extract a b).data.toList.length ≤ s.size := by
  rw [size_eq']
  simp
  omega
set_option maxHeartbeats 800000 in
theorem rserver_any (s : ByteArray) (w : World) (hs : s.size ≤ 9223372036854775807) :
    Calls Tryz.prog 135 #[.string s] w fun e w' => e = .returned (.bool (serverB s)) ∧ w = w' := by
  by_cases h128 : 128 < s.size
  · have hF : serverB s = false := by unfold serverB; rw [if_pos (by omega)]
    rw [hF]
    clear hF
    go_enter Tryz.func135, Tryz.ntmps135
    go_wp2
    go_ret
    exact ⟨rfl, rfl⟩
  · have CI := Lib.hid (rcolon_any s)
    have g := colon_lt s
    rcases (by omega : colonAt s = -1 ∨ 0 ≤ colonAt s) with hc | hc
    · have hF : serverB s = allC hostP s.data.toList s.size := by unfold serverB; rw [if_neg (by omega), if_neg (by omega)]
      rw [hF]
      rw [hc] at CI
      have CH := Lib.hid (fun w => rhost_any s w hs)
      generalize allC hostP s.data.toList s.size = r at CH ⊢
      clear hF g hc
      go_enter Tryz.func135, Tryz.ntmps135
      go_wp2_with fail
      refine (CI.out _ hs).mono ?_
      rintro e w' ⟨rfl, rfl⟩
      go_wp2_with fail
      refine (CH.out _).mono ?_
      rintro e w' ⟨rfl, rfl⟩
      go_wp2
      go_ret
      exact ⟨rfl, rfl⟩
    · obtain ⟨k, hk⟩ := Int.eq_ofNat_of_zero_le hc
      obtain ⟨eA, eB, hkl⟩ := cut_at hk
      have hF : serverB s = (allC hostP (s.extract 0 k).data.toList (s.extract 0 k).size && allC digC (s.extract (k + 1) s.size).data.toList 5) := by
        unfold serverB
        rw [if_neg (by omega), if_pos hc, eA, eB, allC_most (m := (s.size : Int)) (by have := ext_len s 0 k; omega), allC_most (m := ((s.extract 0 k).size : Int)) (by rw [size_eq']; omega)]
      rw [hF]
      rw [hk] at CI
      have CH := Lib.hid (fun w => rhost_any (s.extract 0 k) w (by have := ext_len s 0 k; rw [size_eq'] at this; omega))
      have CP := Lib.hid (fun w => rport_any (s.extract (k + 1) s.size) w (by have := ext_len s (k + 1) s.size; rw [size_eq'] at this; omega))
      generalize allC hostP (s.extract 0 k).data.toList (s.extract 0 k).size = r at CH ⊢
      generalize allC digC (s.extract (k + 1) s.size).data.toList 5 = q at CP ⊢
      clear hF g hc hk eA eB
      cases r with
      | false =>
        go_enter Tryz.func135, Tryz.ntmps135
        go_wp2_with fail
        refine (CI.out _ hs).mono ?_
        rintro e w' ⟨rfl, rfl⟩
        go_wp2_with fail
        refine (CH.out _).mono ?_
        rintro e w' ⟨rfl, rfl⟩
        go_wp2
        go_ret
        exact ⟨rfl, rfl⟩
      | true =>
        go_enter Tryz.func135, Tryz.ntmps135
        go_wp2_with fail
        refine (CI.out _ hs).mono ?_
        rintro e w' ⟨rfl, rfl⟩
        go_wp2_with fail
        refine (CH.out _).mono ?_
        rintro e w' ⟨rfl, rfl⟩
        go_wp2_with fail
        refine (CP.out _).mono ?_
        rintro e w' ⟨rfl, rfl⟩
        go_wp2
        go_ret
        exact ⟨ret_bool (by simp), rfl⟩

def bigC (c : UInt8) : Bool := decide (65 ≤ (c.toNat : Int)) && decide ((c.toNat : Int) ≤ 90)
def namP (small : Bool) (more : ByteArray) (c : UInt8) : Bool := (letC c || (digC c || amongB c more)) && !(bigC c && small)
theorem cutA_list {s : ByteArray} {k : Nat} (hk : colonAt s = k) : (cutA s).data.toList = s.data.toList.take k := by
  rw [(cut_at hk).1]
  simp
theorem named_no {sign : UInt8} {p : UInt8 → Bool} {s : ByteArray} (h : colonAt s < 2) : namedB sign p s = false := by
  have g := (colon_lt s).2
  unfold namedB
  rcases (by omega : colonAt s = -1 ∨ colonAt s = 0 ∨ colonAt s = 1) with h1 | h1 | h1
  · rw [h1]; rfl
  · have e := cutA_list (k := 0) h1
    rw [e]
    simp [Lib.hasPrefix]
  · have e := cutA_list (k := 1) h1
    have hl := (cut_at (k := 1) h1).2.2
    rw [e]
    generalize hd : s.data.toList = d
    match d with
    | [] => simp [Lib.hasPrefix]
    | x :: d =>
      simp only [List.take_succ_cons, List.take_zero]
      by_cases hx : sign = x
      · subst hx
        have e2 : Lib.trimPrefix [sign] [sign] = [] := by simp [Lib.trimPrefix, Lib.hasPrefix]
        rw [e2]
        simp [allC]
      · have e2 : Lib.hasPrefix [x] [sign] = false := by simp [Lib.hasPrefix, List.isPrefixOf, hx]
        rw [e2]
        simp
theorem named_long {sign : UInt8} {p : UInt8 → Bool} {s : ByteArray} (h : 255 < s.size) : namedB sign p s = false := by
  unfold namedB
  rw [decide_eq_true (by omega : (255 : Int) < s.size)]
  simp
def MidTo (p : UInt8 → Bool) (s : ByteArray) (k : Nat) : Prop := ∀ j (hj : j < s.size), 1 ≤ j → j < k → p s[j] = true
theorem hd_list {d : List UInt8} {k : Nat} {sign : UInt8} {p : UInt8 → Bool} {m : Int} (h2 : 2 ≤ k) (hlen : 2 ≤ d.length) (hm : (d.length : Int) ≤ m) :
    (Lib.hasPrefix (d.take k) [sign] && allC p (Lib.trimPrefix (d.take k) [sign]) m) = (decide (d[0] = sign) && ((d.take k).drop 1).all p) := by
  match d, hlen with
  | x :: d, hlen =>
    obtain ⟨m, rfl⟩ : ∃ m, k = m + 2 := ⟨k - 2, by omega⟩
    simp only [List.take_succ_cons, List.getElem_cons_zero, List.drop_succ_cons, List.drop_zero]
    by_cases hx : x = sign
    · subst hx
      have e1 : ∀ q : List UInt8, Lib.hasPrefix (x :: q) [x] = true := fun q => by simp [Lib.hasPrefix]
      have e2 : ∀ q : List UInt8, Lib.trimPrefix (x :: q) [x] = q := fun q => by simp [Lib.trimPrefix, e1]
      rw [e1, e2, decide_eq_true rfl, Bool.true_and, Bool.true_and, allC_most (by simp at hm; simp; omega)]
      match d, hlen with
      | y :: d, _ => simp
    · have e1 : ∀ q : List UInt8, Lib.hasPrefix (x :: q) [sign] = false := fun q => by simp [Lib.hasPrefix, List.isPrefixOf]; exact fun e => hx e.symm
      rw [e1, decide_eq_false hx, Bool.false_and, Bool.false_and]
theorem named_mid {sign : UInt8} {p : UInt8 → Bool} {s : ByteArray} {k : Nat} (hk : colonAt s = k) (h2 : 2 ≤ k) (h255 : s.size ≤ 255) (hl : k < s.size) (h00 : 0 < s.size) :
    namedB sign p s = (serverB (s.extract (k + 1) s.size) && (decide (s[0]'h00 = sign) && ((s.data.toList.take k).drop 1).all p)) := by
  have eB := (cut_at hk).2.1
  unfold namedB
  rw [cutA_list hk, eB, hk, decide_eq_true (by omega : (0 : Int) ≤ (k : Int)), decide_eq_false (by omega : ¬ (255 : Int) < s.size)]
  simp only [Bool.true_and, Bool.not_false]
  congr 1
  exact hd_list h2 (by rw [size_eq']; omega) (by rw [size_eq']; omega)
theorem mid_all {p : UInt8 → Bool} {s : ByteArray} {k : Nat} (hl : k ≤ s.size) (h : MidTo p s k) : ((s.data.toList.take k).drop 1).all p = true := by
  rw [List.all_eq_true]
  intro x hx
  obtain ⟨j, hj, rfl⟩ := List.getElem_of_mem hx
  simp at hj
  have hj2 : j + 1 < s.size := by omega
  have := h (j + 1) hj2 (by omega) (by omega)
  rw [← get_eq' s (j + 1) hj2] at this
  simpa using this
theorem mid_not {p : UInt8 → Bool} {s : ByteArray} {k j : Nat} (hl : k ≤ s.size) (h1 : 1 ≤ j) (hj : j < k) (h : p (s[j]'(by omega)) = false) : ((s.data.toList.take k).drop 1).all p = false := by
  rw [List.all_eq_false]
  refine ⟨s[j]'(by omega), ?_, by simp [h]⟩
  rw [← get_eq' s j (by omega)]
  rw [List.mem_iff_getElem]
  refine ⟨j - 1, by simp [size_eq']; omega, ?_⟩
  simp
  congr 1
  omega
end Go.Proofs.YtpflimghkckpjaaGreatDoor.H
