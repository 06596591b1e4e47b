/-
Contracts of the reference's package outlawref04, continued: named, User and Room answer as the program's own do. Condition: none but that a text is no longer than a slice may be.
-/
import Derived.Test.YtpflimghkckpjaaGreatDoorHR04
set_option linter.unusedVariables false
set_option linter.unusedSimpArgs false
namespace Go.Proofs.YtpflimghkckpjaaGreatDoor.H
open Go.RowKit Go.Shelf
set_option maxHeartbeats 4000000 in
set_option maxRecDepth 100000 in
theorem rnamed_any (s : ByteArray) (sign : UInt8) (small : Bool) (more : ByteArray) (w : World) (hs : s.size ≤ 9223372036854775807) (hm : more.size ≤ 9223372036854775807) :
    Calls Tryz.prog 102 #[.string s, .int .u8 (sign.toNat : Int), .bool small, .string more] w fun e w' => e = .returned (.bool (namedB sign (namP small more) s)) ∧ w = w' := by
  have CI := Lib.hid (fun w => rcolon_any s w hs)
  by_cases h255 : 255 < s.size
  · rw [named_long h255]
    go_enter Tryz.func102, Tryz.ntmps102
    go_wp2_with fail
    refine (CI.out _).mono ?_
    rintro e w' ⟨rfl, rfl⟩
    go_wp2
    go_ret
    exact ⟨rfl, rfl⟩
  by_cases h2 : colonAt s < 2
  · rw [named_no h2]
    generalize colonAt s = ci at CI h2
    go_enter Tryz.func102, Tryz.ntmps102
    go_wp2_with fail
    refine (CI.out _).mono ?_
    rintro e w' ⟨rfl, rfl⟩
    go_wp2
    go_ret
    exact ⟨rfl, rfl⟩
  obtain ⟨i, hi⟩ := Int.eq_ofNat_of_zero_le (by omega : 0 ≤ colonAt s)
  have hl := (cut_at hi).2.2
  have h00 : 0 < s.size := by omega
  rw [named_mid hi (by omega) (by omega) hl h00]
  rw [hi] at CI
  have h2i : 2 ≤ i := by omega
  have CS := Lib.hid (fun w => rserver_any (s.extract (i + 1) s.size) w (by have := ext_len s (i + 1) s.size; rw [size_eq'] at this; omega))
  generalize serverB (s.extract (i + 1) s.size) = sv at CS ⊢
  clear h2 hi
  by_cases h0 : ((s[0]'h00).toNat : Int) = (sign.toNat : Int)
  case neg =>
    have hne : ¬ (s[0]'h00 = sign) := fun e => h0 (by rw [e])
    rw [decide_eq_false hne]
    have hF : (sv && (false && ((s.data.toList.take i).drop 1).all (namP small more))) = false := by simp
    rw [hF]
    clear hF hne
    go_enter Tryz.func102, Tryz.ntmps102
    go_wp2_with fail
    refine (CI.out _).mono ?_
    rintro e w' ⟨rfl, rfl⟩
    go_wp2
    go_ret
    exact ⟨rfl, rfl⟩
  have hse : s[0]'h00 = sign := toNat_inj' h0
  rw [decide_eq_true hse, Bool.true_and]
  clear hse
  cases sv with
  | false =>
    rw [Bool.false_and]
    go_enter Tryz.func102, Tryz.ntmps102
    go_wp2_with fail
    refine (CI.out _).mono ?_
    rintro e w' ⟨rfl, rfl⟩
    go_wp2_with fail
    refine (CS.out _).mono ?_
    rintro e w' ⟨rfl, rfl⟩
    go_wp2
    go_ret
    exact ⟨rfl, rfl⟩
  | true =>
  rw [Bool.true_and]
  go_enter Tryz.func102, Tryz.ntmps102
  go_wp2_with fail
  refine (CI.out _).mono ?_
  rintro e w' ⟨rfl, rfl⟩
  go_wp2_with fail
  refine (CS.out _).mono ?_
  rintro e w' ⟨rfl, rfl⟩
  clear CS CI
  go_wp2
  go_loop [10] (fun v => ∃ k : Nat, 1 ≤ k ∧ k ≤ i ∧ v = .int .i64 k ∧ MidTo (namP small more) s k) (fun v => i - (intOf v).toNat)
  case atStart => exact ⟨1, by omega, by omega, rfl, fun j _ h h' => absurd h (by omega)⟩
  case round =>
    obtain ⟨k, hk1, hk, rfl, ha⟩ := hrel
    have HA := Lib.hid ha
    clear ha
    by_cases hlt : k < i
    case neg =>
      obtain rfl : k = i := by omega
      have HN := Lib.hid (mid_all (by omega) HA.out)
      go_wp2
      go_ret
      exact ⟨ret_bool (by simpa using HN.out), rfl⟩
    have hks : k < s.size := by omega
    have CL := Lib.hid (rlet_any s[k])
    have CD := Lib.hid (rdig_any s[k])
    have CA := Lib.hid (fun w => among_any s[k] more w hm)
    have HO : Hid (namP small more s[k] = ((letC s[k] || (digC s[k] || amongB s[k] more)) && !((decide (65 ≤ (s[k].toNat : Int)) && decide ((s[k].toNat : Int) ≤ 90)) && small))) := Lib.hid rfl
    generalize letC s[k] = b1 at CL HO
    generalize digC s[k] = b2 at CD HO
    generalize amongB s[k] more = b3 at CA HO
    by_cases g1 : 65 ≤ (s[k].toNat : Int)
    case neg =>
      cases small with
      | true =>
        cases b1 with
        | true =>
          have HY : Hid (namP true more s[k] = true) := Lib.hid (by rw [HO.out]; simp [g1])
          clear HO
          go_wp2_with fail
          refine (CL.out _).mono ?_
          rintro e w' ⟨rfl, rfl⟩
          go_wp2
          go_round
          case rel => exact ⟨k + 1, by omega, by omega, by go_num, fun j hj h1' hlt' => by
            rcases Nat.lt_or_ge j k with h | h
            · exact HA.out j hj h1' h
            · obtain rfl : j = k := by omega
              exact HY.out⟩
          case measure => simp [intOf]; omega
        | false =>
        cases b2 with
        | true =>
          have HY : Hid (namP true more s[k] = true) := Lib.hid (by rw [HO.out]; simp [g1])
          clear HO
          go_wp2_with fail
          refine (CL.out _).mono ?_
          rintro e w' ⟨rfl, rfl⟩
          go_wp2_with fail
          refine (CD.out _).mono ?_
          rintro e w' ⟨rfl, rfl⟩
          go_wp2
          go_round
          case rel => exact ⟨k + 1, by omega, by omega, by go_num, fun j hj h1' hlt' => by
            rcases Nat.lt_or_ge j k with h | h
            · exact HA.out j hj h1' h
            · obtain rfl : j = k := by omega
              exact HY.out⟩
          case measure => simp [intOf]; omega
        | false =>
        cases b3 with
        | true =>
          have HY : Hid (namP true more s[k] = true) := Lib.hid (by rw [HO.out]; simp [g1])
          clear HO
          go_wp2_with fail
          refine (CL.out _).mono ?_
          rintro e w' ⟨rfl, rfl⟩
          go_wp2_with fail
          refine (CD.out _).mono ?_
          rintro e w' ⟨rfl, rfl⟩
          go_wp2_with fail
          refine (CA.out _).mono ?_
          rintro e w' ⟨rfl, rfl⟩
          go_wp2
          go_round
          case rel => exact ⟨k + 1, by omega, by omega, by go_num, fun j hj h1' hlt' => by
            rcases Nat.lt_or_ge j k with h | h
            · exact HA.out j hj h1' h
            · obtain rfl : j = k := by omega
              exact HY.out⟩
          case measure => simp [intOf]; omega
        | false =>
          have HY : Hid (namP true more s[k] = false) := Lib.hid (by rw [HO.out]; simp [g1])
          clear HO
          go_wp2_with fail
          refine (CL.out _).mono ?_
          rintro e w' ⟨rfl, rfl⟩
          go_wp2_with fail
          refine (CD.out _).mono ?_
          rintro e w' ⟨rfl, rfl⟩
          go_wp2_with fail
          refine (CA.out _).mono ?_
          rintro e w' ⟨rfl, rfl⟩
          go_wp2
          go_ret
          exact ⟨ret_bool (mid_not (p := namP true more) (by omega) hk1 hlt HY.out).symm, rfl⟩
      | false =>
        cases b1 with
        | true =>
          have HY : Hid (namP false more s[k] = true) := Lib.hid (by rw [HO.out]; simp [g1])
          clear HO
          go_wp2_with fail
          refine (CL.out _).mono ?_
          rintro e w' ⟨rfl, rfl⟩
          go_wp2
          go_round
          case rel => exact ⟨k + 1, by omega, by omega, by go_num, fun j hj h1' hlt' => by
            rcases Nat.lt_or_ge j k with h | h
            · exact HA.out j hj h1' h
            · obtain rfl : j = k := by omega
              exact HY.out⟩
          case measure => simp [intOf]; omega
        | false =>
        cases b2 with
        | true =>
          have HY : Hid (namP false more s[k] = true) := Lib.hid (by rw [HO.out]; simp [g1])
          clear HO
          go_wp2_with fail
          refine (CL.out _).mono ?_
          rintro e w' ⟨rfl, rfl⟩
          go_wp2_with fail
          refine (CD.out _).mono ?_
          rintro e w' ⟨rfl, rfl⟩
          go_wp2
          go_round
          case rel => exact ⟨k + 1, by omega, by omega, by go_num, fun j hj h1' hlt' => by
            rcases Nat.lt_or_ge j k with h | h
            · exact HA.out j hj h1' h
            · obtain rfl : j = k := by omega
              exact HY.out⟩
          case measure => simp [intOf]; omega
        | false =>
        cases b3 with
        | true =>
          have HY : Hid (namP false more s[k] = true) := Lib.hid (by rw [HO.out]; simp [g1])
          clear HO
          go_wp2_with fail
          refine (CL.out _).mono ?_
          rintro e w' ⟨rfl, rfl⟩
          go_wp2_with fail
          refine (CD.out _).mono ?_
          rintro e w' ⟨rfl, rfl⟩
          go_wp2_with fail
          refine (CA.out _).mono ?_
          rintro e w' ⟨rfl, rfl⟩
          go_wp2
          go_round
          case rel => exact ⟨k + 1, by omega, by omega, by go_num, fun j hj h1' hlt' => by
            rcases Nat.lt_or_ge j k with h | h
            · exact HA.out j hj h1' h
            · obtain rfl : j = k := by omega
              exact HY.out⟩
          case measure => simp [intOf]; omega
        | false =>
          have HY : Hid (namP false more s[k] = false) := Lib.hid (by rw [HO.out]; simp [g1])
          clear HO
          go_wp2_with fail
          refine (CL.out _).mono ?_
          rintro e w' ⟨rfl, rfl⟩
          go_wp2_with fail
          refine (CD.out _).mono ?_
          rintro e w' ⟨rfl, rfl⟩
          go_wp2_with fail
          refine (CA.out _).mono ?_
          rintro e w' ⟨rfl, rfl⟩
          go_wp2
          go_ret
          exact ⟨ret_bool (mid_not (p := namP false more) (by omega) hk1 hlt HY.out).symm, rfl⟩
    by_cases g2 : (s[k].toNat : Int) ≤ 90
    case neg =>
      cases small with
      | true =>
        cases b1 with
        | true =>
          have HY : Hid (namP true more s[k] = true) := Lib.hid (by rw [HO.out]; simp [g1, g2])
          clear HO
          go_wp2_with fail
          refine (CL.out _).mono ?_
          rintro e w' ⟨rfl, rfl⟩
          go_wp2
          go_round
          case rel => exact ⟨k + 1, by omega, by omega, by go_num, fun j hj h1' hlt' => by
            rcases Nat.lt_or_ge j k with h | h
            · exact HA.out j hj h1' h
            · obtain rfl : j = k := by omega
              exact HY.out⟩
          case measure => simp [intOf]; omega
        | false =>
        cases b2 with
        | true =>
          have HY : Hid (namP true more s[k] = true) := Lib.hid (by rw [HO.out]; simp [g1, g2])
          clear HO
          go_wp2_with fail
          refine (CL.out _).mono ?_
          rintro e w' ⟨rfl, rfl⟩
          go_wp2_with fail
          refine (CD.out _).mono ?_
          rintro e w' ⟨rfl, rfl⟩
          go_wp2
          go_round
          case rel => exact ⟨k + 1, by omega, by omega, by go_num, fun j hj h1' hlt' => by
            rcases Nat.lt_or_ge j k with h | h
            · exact HA.out j hj h1' h
            · obtain rfl : j = k := by omega
              exact HY.out⟩
          case measure => simp [intOf]; omega
        | false =>
        cases b3 with
        | true =>
          have HY : Hid (namP true more s[k] = true) := Lib.hid (by rw [HO.out]; simp [g1, g2])
          clear HO
          go_wp2_with fail
          refine (CL.out _).mono ?_
          rintro e w' ⟨rfl, rfl⟩
          go_wp2_with fail
          refine (CD.out _).mono ?_
          rintro e w' ⟨rfl, rfl⟩
          go_wp2_with fail
          refine (CA.out _).mono ?_
          rintro e w' ⟨rfl, rfl⟩
          go_wp2
          go_round
          case rel => exact ⟨k + 1, by omega, by omega, by go_num, fun j hj h1' hlt' => by
            rcases Nat.lt_or_ge j k with h | h
            · exact HA.out j hj h1' h
            · obtain rfl : j = k := by omega
              exact HY.out⟩
          case measure => simp [intOf]; omega
        | false =>
          have HY : Hid (namP true more s[k] = false) := Lib.hid (by rw [HO.out]; simp [g1, g2])
          clear HO
          go_wp2_with fail
          refine (CL.out _).mono ?_
          rintro e w' ⟨rfl, rfl⟩
          go_wp2_with fail
          refine (CD.out _).mono ?_
          rintro e w' ⟨rfl, rfl⟩
          go_wp2_with fail
          refine (CA.out _).mono ?_
          rintro e w' ⟨rfl, rfl⟩
          go_wp2
          go_ret
          exact ⟨ret_bool (mid_not (p := namP true more) (by omega) hk1 hlt HY.out).symm, rfl⟩
      | false =>
        cases b1 with
        | true =>
          have HY : Hid (namP false more s[k] = true) := Lib.hid (by rw [HO.out]; simp [g1, g2])
          clear HO
          go_wp2_with fail
          refine (CL.out _).mono ?_
          rintro e w' ⟨rfl, rfl⟩
          go_wp2
          go_round
          case rel => exact ⟨k + 1, by omega, by omega, by go_num, fun j hj h1' hlt' => by
            rcases Nat.lt_or_ge j k with h | h
            · exact HA.out j hj h1' h
            · obtain rfl : j = k := by omega
              exact HY.out⟩
          case measure => simp [intOf]; omega
        | false =>
        cases b2 with
        | true =>
          have HY : Hid (namP false more s[k] = true) := Lib.hid (by rw [HO.out]; simp [g1, g2])
          clear HO
          go_wp2_with fail
          refine (CL.out _).mono ?_
          rintro e w' ⟨rfl, rfl⟩
          go_wp2_with fail
          refine (CD.out _).mono ?_
          rintro e w' ⟨rfl, rfl⟩
          go_wp2
          go_round
          case rel => exact ⟨k + 1, by omega, by omega, by go_num, fun j hj h1' hlt' => by
            rcases Nat.lt_or_ge j k with h | h
            · exact HA.out j hj h1' h
            · obtain rfl : j = k := by omega
              exact HY.out⟩
          case measure => simp [intOf]; omega
        | false =>
        cases b3 with
        | true =>
          have HY : Hid (namP false more s[k] = true) := Lib.hid (by rw [HO.out]; simp [g1, g2])
          clear HO
          go_wp2_with fail
          refine (CL.out _).mono ?_
          rintro e w' ⟨rfl, rfl⟩
          go_wp2_with fail
          refine (CD.out _).mono ?_
          rintro e w' ⟨rfl, rfl⟩
          go_wp2_with fail
          refine (CA.out _).mono ?_
          rintro e w' ⟨rfl, rfl⟩
          go_wp2
          go_round
          case rel => exact ⟨k + 1, by omega, by omega, by go_num, fun j hj h1' hlt' => by
            rcases Nat.lt_or_ge j k with h | h
            · exact HA.out j hj h1' h
            · obtain rfl : j = k := by omega
              exact HY.out⟩
          case measure => simp [intOf]; omega
        | false =>
          have HY : Hid (namP false more s[k] = false) := Lib.hid (by rw [HO.out]; simp [g1, g2])
          clear HO
          go_wp2_with fail
          refine (CL.out _).mono ?_
          rintro e w' ⟨rfl, rfl⟩
          go_wp2_with fail
          refine (CD.out _).mono ?_
          rintro e w' ⟨rfl, rfl⟩
          go_wp2_with fail
          refine (CA.out _).mono ?_
          rintro e w' ⟨rfl, rfl⟩
          go_wp2
          go_ret
          exact ⟨ret_bool (mid_not (p := namP false more) (by omega) hk1 hlt HY.out).symm, rfl⟩
    cases small with
    | true =>
      cases b1 with
      | true =>
        have HY : Hid (namP true more s[k] = false) := Lib.hid (by rw [HO.out]; simp [g1, g2])
        clear HO
        go_wp2_with fail
        refine (CL.out _).mono ?_
        rintro e w' ⟨rfl, rfl⟩
        go_wp2
        go_ret
        exact ⟨ret_bool (mid_not (p := namP true more) (by omega) hk1 hlt HY.out).symm, rfl⟩
      | false =>
      cases b2 with
      | true =>
        have HY : Hid (namP true more s[k] = false) := Lib.hid (by rw [HO.out]; simp [g1, g2])
        clear HO
        go_wp2_with fail
        refine (CL.out _).mono ?_
        rintro e w' ⟨rfl, rfl⟩
        go_wp2_with fail
        refine (CD.out _).mono ?_
        rintro e w' ⟨rfl, rfl⟩
        go_wp2
        go_ret
        exact ⟨ret_bool (mid_not (p := namP true more) (by omega) hk1 hlt HY.out).symm, rfl⟩
      | false =>
      cases b3 with
      | true =>
        have HY : Hid (namP true more s[k] = false) := Lib.hid (by rw [HO.out]; simp [g1, g2])
        clear HO
        go_wp2_with fail
        refine (CL.out _).mono ?_
        rintro e w' ⟨rfl, rfl⟩
        go_wp2_with fail
        refine (CD.out _).mono ?_
        rintro e w' ⟨rfl, rfl⟩
        go_wp2_with fail
        refine (CA.out _).mono ?_
        rintro e w' ⟨rfl, rfl⟩
        go_wp2
        go_ret
        exact ⟨ret_bool (mid_not (p := namP true more) (by omega) hk1 hlt HY.out).symm, rfl⟩
      | false =>
        have HY : Hid (namP true more s[k] = false) := Lib.hid (by rw [HO.out]; simp [g1, g2])
        clear HO
        go_wp2_with fail
        refine (CL.out _).mono ?_
        rintro e w' ⟨rfl, rfl⟩
        go_wp2_with fail
        refine (CD.out _).mono ?_
        rintro e w' ⟨rfl, rfl⟩
        go_wp2_with fail
        refine (CA.out _).mono ?_
        rintro e w' ⟨rfl, rfl⟩
        go_wp2
        go_ret
        exact ⟨ret_bool (mid_not (p := namP true more) (by omega) hk1 hlt HY.out).symm, rfl⟩
    | false =>
      cases b1 with
      | true =>
        have HY : Hid (namP false more s[k] = true) := Lib.hid (by rw [HO.out]; simp [g1, g2])
        clear HO
        go_wp2_with fail
        refine (CL.out _).mono ?_
        rintro e w' ⟨rfl, rfl⟩
        go_wp2
        go_round
        case rel => exact ⟨k + 1, by omega, by omega, by go_num, fun j hj h1' hlt' => by
          rcases Nat.lt_or_ge j k with h | h
          · exact HA.out j hj h1' h
          · obtain rfl : j = k := by omega
            exact HY.out⟩
        case measure => simp [intOf]; omega
      | false =>
      cases b2 with
      | true =>
        have HY : Hid (namP false more s[k] = true) := Lib.hid (by rw [HO.out]; simp [g1, g2])
        clear HO
        go_wp2_with fail
        refine (CL.out _).mono ?_
        rintro e w' ⟨rfl, rfl⟩
        go_wp2_with fail
        refine (CD.out _).mono ?_
        rintro e w' ⟨rfl, rfl⟩
        go_wp2
        go_round
        case rel => exact ⟨k + 1, by omega, by omega, by go_num, fun j hj h1' hlt' => by
          rcases Nat.lt_or_ge j k with h | h
          · exact HA.out j hj h1' h
          · obtain rfl : j = k := by omega
            exact HY.out⟩
        case measure => simp [intOf]; omega
      | false =>
      cases b3 with
      | true =>
        have HY : Hid (namP false more s[k] = true) := Lib.hid (by rw [HO.out]; simp [g1, g2])
        clear HO
        go_wp2_with fail
        refine (CL.out _).mono ?_
        rintro e w' ⟨rfl, rfl⟩
        go_wp2_with fail
        refine (CD.out _).mono ?_
        rintro e w' ⟨rfl, rfl⟩
        go_wp2_with fail
        refine (CA.out _).mono ?_
        rintro e w' ⟨rfl, rfl⟩
        go_wp2
        go_round
        case rel => exact ⟨k + 1, by omega, by omega, by go_num, fun j hj h1' hlt' => by
          rcases Nat.lt_or_ge j k with h | h
          · exact HA.out j hj h1' h
          · obtain rfl : j = k := by omega
            exact HY.out⟩
        case measure => simp [intOf]; omega
      | false =>
        have HY : Hid (namP false more s[k] = false) := Lib.hid (by rw [HO.out]; simp [g1, g2])
        clear HO
        go_wp2_with fail
        refine (CL.out _).mono ?_
        rintro e w' ⟨rfl, rfl⟩
        go_wp2_with fail
        refine (CD.out _).mono ?_
        rintro e w' ⟨rfl, rfl⟩
        go_wp2_with fail
        refine (CA.out _).mono ?_
        rintro e w' ⟨rfl, rfl⟩
        go_wp2
        go_ret
        exact ⟨ret_bool (mid_not (p := namP false more) (by omega) hk1 hlt HY.out).symm, rfl⟩

theorem idx_far {l : List UInt8} {c : UInt8} (h : ∀ b ∈ l, b ≠ c) : Lib.indexByte l c = -1 := by
  induction l with
  | nil => rfl
  | cons b l ih =>
    have e1 : (b == c) = false := by simpa using h b (List.mem_cons_self ..)
    have e2 := ih (fun x hx => h x (List.mem_cons_of_mem _ hx))
    simp [Lib.indexByte, e1, e2]
theorem namP_user : namP true ⟨#[46, 95, 61, 45, 47, 43]⟩ = orC smallC [46, 95, 61, 45, 47, 43] := by
  funext c
  by_cases g1 : 65 ≤ (c.toNat : Int)
  · by_cases g2 : (c.toNat : Int) ≤ 90
    · have e3 : Lib.indexByte [46, 95, 61, 45, 47, 43] c = -1 := idx_far (fun b hb e => by
        subst e
        simp at hb
        rcases hb with rfl | rfl | rfl | rfl | rfl | rfl <;> revert g1 g2 <;> decide)
      have e1 : ¬ (97 ≤ (c.toNat : Int)) := by omega
      have e2 : ¬ ((c.toNat : Int) ≤ 57) := by omega
      unfold namP orC smallC letC digC amongB bigC
      simp [g1, g2, e1, e2, e3]
    · unfold namP orC smallC letC digC amongB bigC
      simp [g1, g2, Bool.or_assoc]
  · unfold namP orC smallC letC digC amongB bigC
    simp [g1, Bool.or_assoc]
theorem namP_room : namP false ⟨#[46, 95, 45]⟩ = orC greatC [46, 95, 45] := by
  funext c
  unfold namP orC greatC smallC letC digC amongB bigC
  generalize decide (0 ≤ Lib.indexByte _ c) = x
  generalize decide (97 ≤ (c.toNat : Int)) = b1
  generalize decide ((c.toNat : Int) ≤ 122) = b2
  generalize decide (65 ≤ (c.toNat : Int)) = b3
  generalize decide ((c.toNat : Int) ≤ 90) = b4
  generalize decide (48 ≤ (c.toNat : Int)) = b5
  generalize decide ((c.toNat : Int) ≤ 57) = b6
  cases x <;> cases b1 <;> cases b2 <;> cases b3 <;> cases b4 <;> cases b5 <;> cases b6 <;> rfl
theorem ruser_any (s : ByteArray) (w : World) (hs : s.size ≤ 9223372036854775807) :
    Calls Tryz.prog 61 #[.string s] w fun e w' => e = .returned (.bool (userB s)) ∧ w = w' := by
  have C := Lib.hid (fun w => rnamed_any s 64 true ⟨#[46, 95, 61, 45, 47, 43]⟩ w hs (by decide))
  rw [namP_user] at C
  unfold userB
  generalize namedB 64 (orC smallC [46, 95, 61, 45, 47, 43]) s = r at C ⊢
  go_enter Tryz.func61, Tryz.ntmps61
  go_wp2_with fail
  refine (C.out _).mono ?_
  rintro e w' ⟨rfl, rfl⟩
  go_wp2
  go_ret
  exact ⟨rfl, rfl⟩
end Go.Proofs.YtpflimghkckpjaaGreatDoor.H
