/-
Contracts of package ident's functions, and of scan.Valid, by hand. Conditions: utf8's tables in memory (scan.Valid alone).
-/
import Derived.Test.YtkppcahnbifkgaaGreatDoorShelf
import Derived.WalkKit
import Derived.WalkSpells
import Derived.Below
import Derived.OwnWalk
import Derived.Deep.QuietTactic
import Derived.BigQuiet
import Derived.LoopTactic
import Derived.Outline
import Derived.Lib.Hide
import Derived.Deep.DeepFit
import Derived.KernelRfl
import Derived.Lib.IndexLaws
import Derived.RegionTactic
import Derived.IntWalk
set_option linter.unusedVariables false
set_option linter.unusedSimpArgs false
namespace Go.Proofs.YtkppcahnbifkgaaGreatDoor.H
open Go.RowKit Go.Shelf

def digC (c : UInt8) : Bool := decide (48 ≤ (c.toNat : Int)) && decide ((c.toNat : Int) ≤ 57)
def smallC (c : UInt8) : Bool := (decide (97 ≤ (c.toNat : Int)) && decide ((c.toNat : Int) ≤ 122)) || digC c
def greatC (c : UInt8) : Bool := (decide (65 ≤ (c.toNat : Int)) && decide ((c.toNat : Int) ≤ 90)) || smallC c
theorem ret_bool {a b : Bool} (h : a = b) : Ending.returned (.bool a) = .returned (.bool b) := by rw [h]

set_option maxHeartbeats 400000 in
theorem dig_any (c : UInt8) (w : World) : Calls Tryz.prog 222 #[.int .u8 (c.toNat : Int)] w fun e w' => e = .returned (.bool (digC c)) ∧ w = w' := by
  unfold digC
  by_cases h1 : 48 ≤ (c.toNat : Int)
  · by_cases h2 : (c.toNat : Int) ≤ 57
    · go_enter Tryz.func222, Tryz.ntmps222
      go_wp2
      go_ret
      exact ⟨ret_bool (by first | (simp [h1, h2]; done) | (simp; omega)), rfl⟩
    · go_enter Tryz.func222, Tryz.ntmps222
      go_wp2
      go_ret
      exact ⟨ret_bool (by first | (simp [h1, h2]; done) | (simp; omega)), rfl⟩
  · go_enter Tryz.func222, Tryz.ntmps222
    go_wp2
    go_ret
    exact ⟨ret_bool (by first | (simp [h1]; done) | (simp; omega)), rfl⟩

set_option maxHeartbeats 400000 in
theorem small_any (c : UInt8) (w : World) : Calls Tryz.prog 172 #[.int .u8 (c.toNat : Int)] w fun e w' => e = .returned (.bool (smallC c)) ∧ w = w' := by
  unfold smallC
  have cD := dig_any c
  generalize digC c = D at cD ⊢
  by_cases h1 : 97 ≤ (c.toNat : Int)
  · by_cases h2 : (c.toNat : Int) ≤ 122
    · go_enter Tryz.func172, Tryz.ntmps172
      go_wp2
      go_ret
      exact ⟨ret_bool (by first | (simp [h1, h2]; done) | (simp; omega)), rfl⟩
    · go_enter Tryz.func172, Tryz.ntmps172
      go_wp2_with (go_at_call 222; refine (cD _).mono ?_; rintro e w' ⟨rfl, rfl⟩)
      go_ret
      exact ⟨ret_bool (by first | (simp [h1, h2]; done) | (simp; omega)), rfl⟩
  · go_enter Tryz.func172, Tryz.ntmps172
    go_wp2_with (go_at_call 222; refine (cD _).mono ?_; rintro e w' ⟨rfl, rfl⟩)
    go_ret
    exact ⟨ret_bool (by first | (simp [h1]; done) | (simp; omega)), rfl⟩

set_option maxHeartbeats 400000 in
theorem great_any (c : UInt8) (w : World) : Calls Tryz.prog 264 #[.int .u8 (c.toNat : Int)] w fun e w' => e = .returned (.bool (greatC c)) ∧ w = w' := by
  unfold greatC
  have cD := small_any c
  generalize smallC c = D at cD ⊢
  by_cases h1 : 65 ≤ (c.toNat : Int)
  · by_cases h2 : (c.toNat : Int) ≤ 90
    · go_enter Tryz.func264, Tryz.ntmps264
      go_wp2
      go_ret
      exact ⟨ret_bool (by first | (simp [h1, h2]; done) | (simp; omega)), rfl⟩
    · go_enter Tryz.func264, Tryz.ntmps264
      go_wp2_with (go_at_call 172; refine (cD _).mono ?_; rintro e w' ⟨rfl, rfl⟩)
      go_ret
      exact ⟨ret_bool (by first | (simp [h1, h2]; done) | (simp; omega)), rfl⟩
  · go_enter Tryz.func264, Tryz.ntmps264
    go_wp2_with (go_at_call 172; refine (cD _).mono ?_; rintro e w' ⟨rfl, rfl⟩)
    go_ret
    exact ⟨ret_bool (by first | (simp [h1]; done) | (simp; omega)), rfl⟩

/-- What 'class.or' makes. -/
def orC (p : UInt8 → Bool) (more : List UInt8) (c : UInt8) : Bool := p c || decide (0 ≤ Lib.indexByte more c)

theorem mkf (fn : Fn) (first cap : Array Value) (w : World) : (Instr.makeFunc fn first cap).run Tryz.prog w = .ok (.func fn first cap) w := rfl

set_option maxHeartbeats 400000 in
theorem or_small (c : UInt8) (b : Nat) (more : ByteArray) (w : World) (h0 : w.cell? ⟨b, 0, none⟩ = some (.func (.func 172) #[] #[])) (h1 : w.cell? ⟨b + 1, 0, none⟩ = some (.string more)) :
    Calls Tryz.prog 223 #[.int .u8 (c.toNat : Int), .pointer (some ⟨b, 0, none⟩), .pointer (some ⟨b + 1, 0, none⟩)] w fun e w' => e = .returned (.bool (orC smallC more.data.toList c)) ∧ w = w' := by
  have cD := small_any c
  have cI := fun W => Tryz.strings_IndexByte more (c.toNat : Int) W
  rw [show ((c.toNat : Int).toNat.toUInt8) = c from by simp] at cI
  unfold orC
  generalize smallC c = D at cD ⊢
  generalize Lib.indexByte more.data.toList c = X at cI ⊢
  cases D with
  | true =>
    go_enter Tryz.func223, Tryz.ntmps223
    go_wp2_with (go_at_call 172; refine (cD _).mono ?_; rintro e w' ⟨rfl, rfl⟩)
    go_ret
    exact ⟨rfl, rfl⟩
  | false =>
    go_enter Tryz.func223, Tryz.ntmps223
    go_wp2_with (first | (go_at_call 172; refine (cD _).mono ?_; rintro e w' ⟨rfl, rfl⟩) | (go_at_call 224; refine (cI _).mono ?_; rintro e w' ⟨rfl, rfl⟩))
    go_ret
    exact ⟨ret_bool (by simp), rfl⟩
set_option maxHeartbeats 400000 in
theorem or_great (c : UInt8) (b : Nat) (more : ByteArray) (w : World) (h0 : w.cell? ⟨b, 0, none⟩ = some (.func (.func 264) #[] #[])) (h1 : w.cell? ⟨b + 1, 0, none⟩ = some (.string more)) :
    Calls Tryz.prog 223 #[.int .u8 (c.toNat : Int), .pointer (some ⟨b, 0, none⟩), .pointer (some ⟨b + 1, 0, none⟩)] w fun e w' => e = .returned (.bool (orC greatC more.data.toList c)) ∧ w = w' := by
  have cD := great_any c
  have cI := fun W => Tryz.strings_IndexByte more (c.toNat : Int) W
  rw [show ((c.toNat : Int).toNat.toUInt8) = c from by simp] at cI
  unfold orC
  generalize greatC c = D at cD ⊢
  generalize Lib.indexByte more.data.toList c = X at cI ⊢
  cases D with
  | true =>
    go_enter Tryz.func223, Tryz.ntmps223
    go_wp2_with (go_at_call 264; refine (cD _).mono ?_; rintro e w' ⟨rfl, rfl⟩)
    go_ret
    exact ⟨rfl, rfl⟩
  | false =>
    go_enter Tryz.func223, Tryz.ntmps223
    go_wp2_with (first | (go_at_call 264; refine (cD _).mono ?_; rintro e w' ⟨rfl, rfl⟩) | (go_at_call 224; refine (cI _).mono ?_; rintro e w' ⟨rfl, rfl⟩))
    go_ret
    exact ⟨ret_bool (by simp), rfl⟩

/-- What 'class.all' tells. -/
def allC (p : UInt8 → Bool) (l : List UInt8) (most : Int) : Bool := l.all p && (!l.isEmpty && decide ((l.length : Int) ≤ most))
theorem all_no {p : UInt8 → Bool} {l : List UInt8} {most : Int} {k : Nat} (hk : k < l.length) (h : p l[k] = false) : allC p l most = false := by
  unfold allC
  have : l.all p = false := by
    rw [List.all_eq_false]
    exact ⟨l[k], List.getElem_mem hk, by simp [h]⟩
  simp [this]
theorem all_yes {p : UInt8 → Bool} {l : List UInt8} (h : ∀ k (hk : k < l.length), p l[k] = true) : l.all p = true := by
  rw [List.all_eq_true]
  intro x hx
  obtain ⟨k, hk, rfl⟩ := List.getElem_of_mem hx
  exact h k hk
def AllTo (p : UInt8 → Bool) (s : ByteArray) (k : Nat) : Prop := ∀ j (hj : j < s.data.toList.length), j < k → p s.data.toList[j] = true
theorem size_eq' (s : ByteArray) : s.data.toList.length = s.size := (Lib.size_eq s).symm
theorem get_eq' (s : ByteArray) (k : Nat) (h : k < s.size) : s.data.toList[k]'(by rw [size_eq']; exact h) = s[k] := rfl

set_option maxHeartbeats 400000 in
theorem all_plain (p : UInt8 → Bool) (s : ByteArray) (m : Int) (w : World)  (hs : s.size ≤ 9223372036854775807)
    (cF : ∀ c : UInt8, Calls Tryz.prog 222 #[.int .u8 (c.toNat : Int)] w fun e w' => e = .returned (.bool (p c)) ∧ w = w') :
    Calls Tryz.prog 221 #[.func (.func 222) #[] #[], .string s, .int .i64 m] w fun e w' => e = .returned (.bool (allC p s.data.toList m)) ∧ w = w' := by
  have CF := Lib.hid cF
  clear cF
  go_enter Tryz.func221, Tryz.ntmps221
  go_wp2
  go_loop [10] (fun i => ∃ k : Nat, k ≤ s.size ∧ i = .int .i64 k ∧ AllTo p s k) (fun i => s.size - (intOf i).toNat)
  case atStart => exact ⟨0, Nat.zero_le _, rfl, fun j _ h => absurd h (by omega)⟩
  case round =>
    obtain ⟨k, hk, rfl, ha⟩ := hrel
    have HA := Lib.hid ha
    clear ha
    by_cases hlt : k < s.size
    · have hx : k < s.data.toList.length := by rw [size_eq']; exact hlt
      have C := Lib.hid (CF.out s[k])
      cases hp : p s[k] with
      | true =>
        have HP := Lib.hid hp
        rw [hp] at C
        clear hp
        go_wp2_with (go_at_call 222; refine (C.out).mono ?_; rintro e w' ⟨rfl, rfl⟩)
        go_round
        case rel => exact ⟨k + 1, by omega, by go_num, fun j hj hlt' => by
          rcases Nat.lt_or_ge j k with h | h
          · exact HA.out j hj h
          · obtain rfl : j = k := by omega
            exact HP.out⟩
        case measure => simp [intOf]; omega
      | false =>
        have HP := Lib.hid hp
        rw [hp] at C
        clear hp
        go_wp2_with (go_at_call 222; refine (C.out).mono ?_; rintro e w' ⟨rfl, rfl⟩)
        go_ret
        exact ⟨ret_bool (all_no (p := p) (l := s.data.toList) hx HP.out).symm, rfl⟩
    · obtain rfl : k = s.size := by omega
      have hall : s.data.toList.all p = true := all_yes (fun j hj => HA.out j hj (by rw [← size_eq']; exact hj))
      have HF : Hid (allC p s.data.toList m = (!s.data.toList.isEmpty && decide ((s.size : Int) ≤ m))) := by
        refine Lib.hid ?_
        unfold allC
        rw [hall, size_eq', Bool.true_and]
      clear hall
      by_cases he0 : s.data.toList = []
      · have he : s.toList = [] := by rw [Lib.toList_data]; exact he0
        have he1 : s.toList.isEmpty = true := by simp [he]
        have HF2 : Hid (allC p s.data.toList m = false) := by refine Lib.hid ?_; rw [HF.out, he0]; rfl
        clear he0 HF
        go_wp2
        go_ret
        exact ⟨ret_bool (by rw [HF2.out]; try simp [*]), rfl⟩
      · have he : ¬ (s.toList = []) := by rw [Lib.toList_data]; exact he0
        have he1 : s.toList.isEmpty = false := by simp [he]
        have he2 : s.data.toList.isEmpty = false := List.isEmpty_eq_false_iff.2 he0
        have HF2 : Hid (allC p s.data.toList m = decide ((s.size : Int) ≤ m)) := by refine Lib.hid ?_; rw [HF.out, he2]; rfl
        clear he0 he2 HF
        by_cases hm : (s.size : Int) ≤ m
        · go_wp2
          go_ret
          exact ⟨ret_bool (by rw [HF2.out]; simp [hm]), rfl⟩
        · go_wp2
          go_ret
          exact ⟨ret_bool (by rw [HF2.out]; simp; omega), rfl⟩
set_option maxHeartbeats 400000 in
theorem all_clo (p : UInt8 → Bool) (s : ByteArray) (m : Int) (w : World) (p1 p2 : Value) (hs : s.size ≤ 9223372036854775807)
    (cF : ∀ c : UInt8, Calls Tryz.prog 223 #[.int .u8 (c.toNat : Int), p1, p2] w fun e w' => e = .returned (.bool (p c)) ∧ w = w') :
    Calls Tryz.prog 221 #[.func (.func 223) #[] #[p1, p2], .string s, .int .i64 m] w fun e w' => e = .returned (.bool (allC p s.data.toList m)) ∧ w = w' := by
  have CF := Lib.hid cF
  clear cF
  go_enter Tryz.func221, Tryz.ntmps221
  go_wp2
  go_loop [10] (fun i => ∃ k : Nat, k ≤ s.size ∧ i = .int .i64 k ∧ AllTo p s k) (fun i => s.size - (intOf i).toNat)
  case atStart => exact ⟨0, Nat.zero_le _, rfl, fun j _ h => absurd h (by omega)⟩
  case round =>
    obtain ⟨k, hk, rfl, ha⟩ := hrel
    have HA := Lib.hid ha
    clear ha
    by_cases hlt : k < s.size
    · have hx : k < s.data.toList.length := by rw [size_eq']; exact hlt
      have C := Lib.hid (CF.out s[k])
      cases hp : p s[k] with
      | true =>
        have HP := Lib.hid hp
        rw [hp] at C
        clear hp
        go_wp2_with (go_at_call 223; refine (C.out).mono ?_; rintro e w' ⟨rfl, rfl⟩)
        go_round
        case rel => exact ⟨k + 1, by omega, by go_num, fun j hj hlt' => by
          rcases Nat.lt_or_ge j k with h | h
          · exact HA.out j hj h
          · obtain rfl : j = k := by omega
            exact HP.out⟩
        case measure => simp [intOf]; omega
      | false =>
        have HP := Lib.hid hp
        rw [hp] at C
        clear hp
        go_wp2_with (go_at_call 223; refine (C.out).mono ?_; rintro e w' ⟨rfl, rfl⟩)
        go_ret
        exact ⟨ret_bool (all_no (p := p) (l := s.data.toList) hx HP.out).symm, rfl⟩
    · obtain rfl : k = s.size := by omega
      have hall : s.data.toList.all p = true := all_yes (fun j hj => HA.out j hj (by rw [← size_eq']; exact hj))
      have HF : Hid (allC p s.data.toList m = (!s.data.toList.isEmpty && decide ((s.size : Int) ≤ m))) := by
        refine Lib.hid ?_
        unfold allC
        rw [hall, size_eq', Bool.true_and]
      clear hall
      by_cases he0 : s.data.toList = []
      · have he : s.toList = [] := by rw [Lib.toList_data]; exact he0
        have he1 : s.toList.isEmpty = true := by simp [he]
        have HF2 : Hid (allC p s.data.toList m = false) := by refine Lib.hid ?_; rw [HF.out, he0]; rfl
        clear he0 HF
        go_wp2
        go_ret
        exact ⟨ret_bool (by rw [HF2.out]; try simp [*]), rfl⟩
      · have he : ¬ (s.toList = []) := by rw [Lib.toList_data]; exact he0
        have he1 : s.toList.isEmpty = false := by simp [he]
        have he2 : s.data.toList.isEmpty = false := List.isEmpty_eq_false_iff.2 he0
        have HF2 : Hid (allC p s.data.toList m = decide ((s.size : Int) ≤ m)) := by refine Lib.hid ?_; rw [HF.out, he2]; rfl
        clear he0 he2 HF
        by_cases hm : (s.size : Int) ≤ m
        · go_wp2
          go_ret
          exact ⟨ret_bool (by rw [HF2.out]; simp [hm]), rfl⟩
        · go_wp2
          go_ret
          exact ⟨ret_bool (by rw [HF2.out]; simp; omega), rfl⟩

set_option maxHeartbeats 400000 in
/-- 'class.or' makes two variables and a closure over them. -/
theorem or_any (F : Nat) (more : ByteArray) (w : World) :
    Calls Tryz.prog 173 #[.func (.func F) #[] #[], .string more] w fun e w' => e = .returned (.func (.func 223) #[] #[.pointer (some ⟨w.heap.size, 0, none⟩), .pointer (some ⟨w.heap.size + 1, 0, none⟩)]) ∧ w' = (w.alloc (.cells #[.func (.func F) #[] #[]] 201)).alloc (.cells #[.string more] 9) := by
  have hm := mkf
  go_enter Tryz.func173, Tryz.ntmps173
  go_wp2
  go_ret
  exact ⟨rfl, rfl⟩

def colonAt (s : ByteArray) : Int := Lib.indexByte s.data.toList 58
def cutA (s : ByteArray) : ByteArray := if 0 ≤ colonAt s then s.extract 0 (colonAt s).toNat else s
def cutB (s : ByteArray) : ByteArray := if 0 ≤ colonAt s then s.extract ((colonAt s).toNat + 1) s.size else ⟨#[]⟩
theorem colon_lt (s : ByteArray) : colonAt s < s.size ∧ -1 ≤ colonAt s := by
  refine ⟨?_, Lib.indexByte_ge _ _⟩
  rcases (by omega : colonAt s < 0 ∨ 0 ≤ colonAt s) with h | h
  · omega
  · obtain ⟨n, hn⟩ := Int.eq_ofNat_of_zero_le h
    have := (Lib.indexByte_some (l := s.data.toList) (c := 58) (o := n) hn).1
    have := (List.getElem?_eq_some_iff.1 this).1
    rw [size_eq'] at this
    omega
set_option maxHeartbeats 400000 in
theorem lcut_any (s : ByteArray) (w : World) (hs : s.size ≤ 9223372036854775807) :
    Calls Tryz.prog 263 #[.string s, .string ⟨#[58]⟩] w fun e w' => e = .returned (.tuple #[.string (cutA s), .string (cutB s), .bool (decide (0 ≤ colonAt s))]) ∧ ∃ n, w' = w.drewN n := by
  have cI := Lib.hid (Tryz.stringslite_Index_one s 58)
  have hlt := colon_lt s
  unfold cutA cutB
  change Hid (∀ W, Calls _ _ _ W fun e w' => e = .returned (.int .i64 (colonAt s)) ∧ w' = W) at cI
  generalize colonAt s = i at hlt cI ⊢
  obtain ⟨h1, h2⟩ := hlt
  by_cases h0 : 0 ≤ i
  · obtain ⟨n, rfl⟩ := Int.eq_ofNat_of_zero_le h0
    rw [if_pos h0, if_pos h0, decide_eq_true h0]
    go_enter Tryz.func263, Tryz.ntmps263
    go_wp2_with (go_at_call 297; refine (cI.out _).mono ?_; rintro e w' ⟨rfl, rfl⟩)
    have e1 : IntKind.i64.wrap ((n : Int) + 1) = (n : Int) + 1 := IntWalk.i64_in _ (by omega)
    go_quiet (fail)
    clear e1
    go_wp2
    go_ret3
    exact ⟨by simp, _, rfl⟩
  · rw [if_neg h0, if_neg h0, decide_eq_false h0]
    go_enter Tryz.func263, Tryz.ntmps263
    go_wp2_with (go_at_call 297; refine (cI.out _).mono ?_; rintro e w' ⟨rfl, rfl⟩)
    go_ret3
    exact ⟨rfl, 0, rfl⟩

set_option maxHeartbeats 400000 in
theorem cut_any (s : ByteArray) (w : World) (hs : s.size ≤ 9223372036854775807) :
    Calls Tryz.prog 218 #[.string s, .string ⟨#[58]⟩] w fun e w' => e = .returned (.tuple #[.string (cutA s), .string (cutB s), .bool (decide (0 ≤ colonAt s))]) ∧ ∃ n, w' = w.drewN n := by
  have cI := Lib.hid (lcut_any s)
  generalize cutA s = a at cI ⊢
  generalize cutB s = b at cI ⊢
  generalize decide (0 ≤ colonAt s) = y at cI ⊢
  go_enter Tryz.func218, Tryz.ntmps218
  go_wp2_with (go_at_call 263; refine (cI.out _ hs).mono ?_; rintro e w' ⟨rfl, n, rfl⟩)
  go_ret3
  exact ⟨rfl, _, rfl⟩
end Go.Proofs.YtkppcahnbifkgaaGreatDoor.H
