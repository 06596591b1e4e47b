/-
The contract of the reference's Valid (package outlawref01), by hand: it answers as utf8 does. Condition: none but that a text is no longer than a slice may be.
-/
import Derived.Test.YtpflimghkckpjaaGreatDoorHR01
set_option linter.unusedVariables false
set_option linter.unusedSimpArgs false
namespace Go.Proofs.YtpflimghkckpjaaGreatDoor.H
open Go.RowKit Go.Shelf

theorem pointP_le (s : ByteArray) : 0 ≤ (pointP s).2 ∧ (pointP s).2 ≤ s.size := by
  by_cases h0 : s.size = 0
  · rw [pointP_nil h0]; simp
  generalize hd : Lib.decodeN s.size (byA s 0) (byA s 1) (byA s 2) (byA s 3) = d
  by_cases hb : d = (65533, 1)
  · rw [pointP_bad (hd.trans hb)]; simp
  · obtain ⟨r, k⟩ := d
    rw [pointP_ok h0 hd (fun e => hb (by rw [e.1, e.2]))]
    have hk : k ≤ s.size := by
      unfold Lib.decodeN at hd
      repeat' split at hd
      all_goals first | (cases hd; omega) | (simp at hd; omega)
    simp only
    omega
theorem drop_ext (t : ByteArray) (k : Nat) : (t.extract k t.size).data.toList = t.data.toList.drop k := by
  simp
  rw [List.take_of_length_le (by rw [List.length_drop, size_eq']; omega)]
def strSize : Value → Nat
  | .string t => t.size
  | _ => 0
set_option maxHeartbeats 1600000 in
set_option maxRecDepth 100000 in
theorem rvalid_any (s : ByteArray) (w : World) (hs : s.size ≤ 9223372036854775807) :
    Calls Tryz.prog 98 #[.string s] w fun e w' => e = .returned (.bool (Lib.validD s.data.toList)) ∧ Below w.heap.size w w' := by
  generalize hV : Lib.validD s.data.toList = V
  go_enter Tryz.func98, Tryz.ntmps98
  go_wp2
  go_loopw [0] (fun v wr => ∃ t : ByteArray, v = .string t ∧ t.size ≤ 9223372036854775807 ∧ Hid (Lib.validD t.data.toList = V) ∧ Hid (Below w.heap.size w wr)) (fun v _ => strSize v)
  case atStart => exact ⟨s, rfl, hs, Lib.hid hV, Lib.hid (Below.refl _ _)⟩
  case round =>
    obtain ⟨t, rfl, ht, HV, HB⟩ := hrel
    by_cases h0 : t.size = 0
    · have hn : t.data.toList = [] := List.length_eq_zero_iff.1 (by rw [size_eq']; exact h0)
      have he : t.toList = [] := by rw [Lib.toList_data]; exact hn
      have he1 : t.toList.isEmpty = true := by simp [he]
      have he2 : (t.toList == []) = true := by simp [he]
      have he3 : (t.toList != []) = false := by simp [he]
      have HT : Hid (V = true) := Lib.hid (by rw [← HV.out, hn]; rfl)
      clear hn
      go_wp2
      go_ret
      exact ⟨ret_bool HT.out.symm, HB.out⟩
    · have hne : ¬ (t.toList = []) := by rw [Lib.toList_data]; exact fun e => h0 (by rw [← size_eq', e]; rfl)
      have he1 : t.toList.isEmpty = false := by simp [hne]
      have he2 : (t.toList == []) = false := by simp [hne]
      have he3 : (t.toList != []) = true := by simp [hne]
      have hle := pointP_le t
      have CP := Lib.hid (fun W => point_any t W ht)
      have HS := Lib.hid (validD_point h0)
      generalize (pointP t).1 = r at CP
      generalize (pointP t).2 = n at CP HS hle
      obtain ⟨k, rfl⟩ := Int.eq_ofNat_of_zero_le hle.1
      have hk : k ≤ t.size := by omega
      clear hle
      cases k with
      | zero =>
        have HT : Hid (V = false) := Lib.hid (by rw [← HV.out, HS.out]; rfl)
        clear HS
        go_wp2_with fail
        refine (CP.out _).mono ?_
        rintro e w1 ⟨rfl, hb⟩
        have HB1 := Lib.hid (bl_then HB.out hb)
        clear hb
        go_wp2
        go_ret
        exact ⟨ret_bool HT.out.symm, HB1.out⟩
      | succ k =>
        have HT : Hid (Lib.validD (t.extract (k + 1) t.size).data.toList = V) := Lib.hid (by
          rw [drop_ext, ← HV.out, HS.out, if_neg (by omega)]
          rfl)
        clear HS HV
        go_wp2_with fail
        refine (CP.out _).mono ?_
        rintro e w1 ⟨rfl, hb⟩
        have HB1 := Lib.hid (bl_then HB.out hb)
        clear hb
        go_wp2
        go_roundw
        case rel => exact ⟨t.extract (k + 1) t.size, rfl, by simp; omega, HT, HB1⟩
        case measure => simp [strSize]; omega
end Go.Proofs.YtpflimghkckpjaaGreatDoor.H
