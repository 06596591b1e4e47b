/-
The contract of power.Change, by hand. Condition: utf8's tables in memory.
-/
import Derived.Test.YtpflimghkckpjaaGreatDoorHRight
import Derived.Test.YtpflimghkckpjaaGreatDoorHPow3
import Derived.Test.YtpflimghkckpjaaGreatDoorHConcat
set_option linter.unusedVariables false
set_option linter.unusedSimpArgs false
namespace Go.Proofs.YtpflimghkckpjaaGreatDoor.H
open Go.RowKit Go.Shelf Go.Proofs.YtpflimghkckpjaaGreatDoorW.PrintLast
attribute [local go_sem] Go.Proofs.YtpflimghkckpjaaGreatDoorW.PrintMore.max2_int Go.Proofs.YtpflimghkckpjaaGreatDoorW.PrintMore.max_two

def sevOK (own a b : Int) : Bool := decide (a = b) || !decide (own < max a b)
def userOK (l0 : List (ByteArray × Int)) (a2 : Int) (m0 : List (ByteArray × Int)) (b2 : Int) (s : ByteArray) (own : Int) (u : ByteArray) : Bool :=
  decide (lookS l0 u = lookS m0 u) || !(decide (own < ofS m0 b2 u) || (decide (own < ofS l0 a2 u) || (decide (ofS l0 a2 u = own) && !(u.toList == s.toList))))
def typeOK (l1 : List (ByteArray × Int)) (a3 a4 : Int) (m1 : List (ByteArray × Int)) (b3 b4 : Int) (own : Int) (t : ByteArray) : Bool :=
  decide (lookS l1 t = lookS m1 t) || !decide (own < max (needsS l1 a3 a4 t) (needsS m1 b3 b4 t))
def changeB (l0 l1 : List (ByteArray × Int)) (a2 a3 a4 a5 a6 a7 a8 : Int) (m0 m1 : List (ByteArray × Int)) (b2 b3 b4 b5 b6 b7 b8 : Int) (s : ByteArray) : Bool :=
  rightB l0 l1 a2 a3 a4 a5 a6 a7 a8 && (rightB m0 m1 b2 b3 b4 b5 b6 b7 b8 && (((seven a2 a3 a4 a5 a6 a7 a8).zip (seven b2 b3 b4 b5 b6 b7 b8)).all (fun p => sevOK (ofS l0 a2 s) p.1 p.2) &&
    ((l0 ++ m0).all (fun p => userOK l0 a2 m0 b2 s (ofS l0 a2 s) p.1) && (l1 ++ m1).all (fun p => typeOK l1 a3 a4 m1 b3 b4 (ofS l0 a2 s) p.1))))
theorem alloc_cell {w : World} {b i : Nat} {v : Value} (h : w.cell? ⟨b, i, none⟩ = some v) : ∀ o, (w.alloc o).cell? ⟨b, i, none⟩ = some v := fun o => by rw [World.cell?_alloc_past _ _ _ (World.block_lt_of_cell? _ _ h)]; exact h
theorem bl_of {w w1 w2 : World} (h : Below w.heap.size w w1) (k : Below w1.heap.size w1 w2) : Below w.heap.size w w2 := bl_then h k
def AllTo2 (p : ByteArray × Int → Bool) (l : List (ByteArray × Int)) (k : Nat) : Prop := ∀ i (h : i < l.length), i < k → p l[i] = true
theorem all_of2 {p : ByteArray × Int → Bool} {l : List (ByteArray × Int)} (h : AllTo2 p l l.length) : l.all p = true := by
  rw [List.all_eq_true]
  intro x hx
  obtain ⟨i, hi, rfl⟩ := List.getElem_of_mem hx
  exact h i hi hi
theorem not_all2 {p : ByteArray × Int → Bool} {l : List (ByteArray × Int)} {k : Nat} (hk : k < l.length) (h : p l[k] = false) : l.all p = false := by
  rw [List.all_eq_false]
  exact ⟨l[k], List.getElem_mem hk, by simp [h]⟩
def SevTo (own : Int) (l : List (Int × Int)) (k : Nat) : Prop := ∀ i (h : i < l.length), i < k → sevOK own l[i].1 l[i].2 = true

theorem pick7 (A0 : Option Addr) (n0 c0 : Nat) (A1 : Option Addr) (n1 c1 : Nat) (a2 a3 a4 a5 a6 a7 a8 : Int) (B0 : Option Addr) (m0 d0 : Nat) (B1 : Option Addr) (m1 d1 : Nat) (b2 b3 b4 b5 b6 b7 b8 : Int) (k : Nat) (hk : k < 7) :
    ∃ (F : FuncId) (fn : Func) (a b : Int), (∀ w, (Instr.index 92 (.agg #[.func (.func 107) #[] #[], .func (.func 108) #[] #[], .func (.func 109) #[] #[], .func (.func 68) #[] #[], .func (.func 67) #[] #[], .func (.func 69) #[] #[], .func (.func 66) #[] #[]]) (.int .i64 (k : Int))).run Tryz.prog w = .ok (.func (.func F) #[] #[]) w) ∧ Tryz.prog.funcs[F]? = some fn ∧ (fn.name == "runtime.NumGoroutine") = false ∧ fn.body.isSome = true ∧
      (∀ w, Calls Tryz.prog F #[.agg #[.slice A0 n0 c0, .slice A1 n1 c1, .int .i64 a2, .int .i64 a3, .int .i64 a4, .int .i64 a5, .int .i64 a6, .int .i64 a7, .int .i64 a8]] w fun e w' => e = .returned (.int .i64 a) ∧ Below w.heap.size w w') ∧ (∀ w, Calls Tryz.prog F #[.agg #[.slice B0 m0 d0, .slice B1 m1 d1, .int .i64 b2, .int .i64 b3, .int .i64 b4, .int .i64 b5, .int .i64 b6, .int .i64 b7, .int .i64 b8]] w fun e w' => e = .returned (.int .i64 b) ∧ Below w.heap.size w w') ∧
      ∀ h : k < ((seven a2 a3 a4 a5 a6 a7 a8).zip (seven b2 b3 b4 b5 b6 b7 b8)).length, ((seven a2 a3 a4 a5 a6 a7 a8).zip (seven b2 b3 b4 b5 b6 b7 b8))[k] = (a, b) := by
  obtain rfl | rfl | rfl | rfl | rfl | rfl | rfl : k = 0 ∨ k = 1 ∨ k = 2 ∨ k = 3 ∨ k = 4 ∨ k = 5 ∨ k = 6 := by omega
  · exact ⟨_, _, a2, b2, ixn0, Tryz.func107, by kernel_rfl, rfl, num_users _ _ _ _ _ _ _ _ _ _ _ _ _, num_users _ _ _ _ _ _ _ _ _ _ _ _ _, fun _ => rfl⟩
  · exact ⟨_, _, a3, b3, ixn1, Tryz.func108, by kernel_rfl, rfl, num_events _ _ _ _ _ _ _ _ _ _ _ _ _, num_events _ _ _ _ _ _ _ _ _ _ _ _ _, fun _ => rfl⟩
  · exact ⟨_, _, a4, b4, ixn2, Tryz.func109, by kernel_rfl, rfl, num_state _ _ _ _ _ _ _ _ _ _ _ _ _, num_state _ _ _ _ _ _ _ _ _ _ _ _ _, fun _ => rfl⟩
  · exact ⟨_, _, a5, b5, ixn3, Tryz.func68, by kernel_rfl, rfl, num_ban _ _ _ _ _ _ _ _ _ _ _ _ _, num_ban _ _ _ _ _ _ _ _ _ _ _ _ _, fun _ => rfl⟩
  · exact ⟨_, _, a6, b6, ixn4, Tryz.func67, by kernel_rfl, rfl, num_kick _ _ _ _ _ _ _ _ _ _ _ _ _, num_kick _ _ _ _ _ _ _ _ _ _ _ _ _, fun _ => rfl⟩
  · exact ⟨_, _, a7, b7, ixn5, Tryz.func69, by kernel_rfl, rfl, num_redact _ _ _ _ _ _ _ _ _ _ _ _ _, num_redact _ _ _ _ _ _ _ _ _ _ _ _ _, fun _ => rfl⟩
  · exact ⟨_, _, a8, b8, ixn6, Tryz.func66, by kernel_rfl, rfl, num_invite _ _ _ _ _ _ _ _ _ _ _ _ _, num_invite _ _ _ _ _ _ _ _ _ _ _ _ _, fun _ => rfl⟩

set_option maxHeartbeats 8000000 in
set_option maxRecDepth 100000 in
theorem change_any (A0 : Option Addr) (c0 : Nat) (A1 : Option Addr) (c1 : Nat) (a2 a3 a4 a5 a6 a7 a8 : Int) (B0 : Option Addr) (d0 : Nat) (B1 : Option Addr) (d1 : Nat) (b2 b3 b4 b5 b6 b7 b8 : Int) (s : ByteArray)
    (l0 l1 m0 m1 : List (ByteArray × Int)) (w : World) (hr0 : Rd w A0 l0) (hr1 : Rd w A1 l1) (hq0 : Rd w B0 m0) (hq1 : Rd w B1 m1)
    (hs0 : ∀ p ∈ l0, p.1.size ≤ 9223372036854775807) (hs1 : ∀ p ∈ l1, p.1.size ≤ 9223372036854775807) (ht0 : ∀ p ∈ m0, p.1.size ≤ 9223372036854775807) (ht1 : ∀ p ∈ m1, p.1.size ≤ 9223372036854775807)
    (hn0 : l0.length ≤ 1000000) (hn1 : l1.length ≤ 1000000) (hm0 : m0.length ≤ 1000000) (hm1 : m1.length ≤ 1000000) (hT : Tab w) :
    Calls Tryz.prog 26 #[.agg #[.slice A0 l0.length c0, .slice A1 l1.length c1, .int .i64 a2, .int .i64 a3, .int .i64 a4, .int .i64 a5, .int .i64 a6, .int .i64 a7, .int .i64 a8], .agg #[.slice B0 m0.length d0, .slice B1 m1.length d1, .int .i64 b2, .int .i64 b3, .int .i64 b4, .int .i64 b5, .int .i64 b6, .int .i64 b7, .int .i64 b8], .string s] w fun e w' => e = .returned (.bool (changeB l0 l1 a2 a3 a4 a5 a6 a7 a8 m0 m1 b2 b3 b4 b5 b6 b7 b8 s)) ∧ Below w.heap.size w w' := by
  have hu := Tryz.underlying25
  have hu2 := Tryz.underlying90
  have hu3 := Tryz.underlying79
  have hu4 := Tryz.underlying81
  have CO := Lib.hid (fun W key (h : Rd W A0 l0) => Of_any A0 l0.length c0 A1 l1.length c1 a2 a3 a4 a5 a6 a7 a8 l0 key W h hn0 rfl)
  have CN := Lib.hid (fun W key (h : Rd W B0 m0) => Of_any B0 m0.length d0 B1 m1.length d1 b2 b3 b4 b5 b6 b7 b8 m0 key W h hm0 rfl)
  have CU := Lib.hid (fun W key (h : Rd W A0 l0) => user_any A0 l0.length c0 A1 l1.length c1 a2 a3 a4 a5 a6 a7 a8 l0 key W h hn0 rfl)
  have CV := Lib.hid (fun W key (h : Rd W B0 m0) => user_any B0 m0.length d0 B1 m1.length d1 b2 b3 b4 b5 b6 b7 b8 m0 key W h hm0 rfl)
  have CT := Lib.hid (fun W key (h : Rd W A1 l1) => typed_any A0 l0.length c0 A1 l1.length c1 a2 a3 a4 a5 a6 a7 a8 l1 key W h hn1 rfl)
  have CS := Lib.hid (fun W key (h : Rd W B1 m1) => typed_any B0 m0.length d0 B1 m1.length d1 b2 b3 b4 b5 b6 b7 b8 m1 key W h hm1 rfl)
  have CE := Lib.hid (fun W key (h : Rd W A1 l1) => needs_any A0 l0.length c0 A1 l1.length c1 a2 a3 a4 a5 a6 a7 a8 l1 key W h hn1 rfl)
  have CF := Lib.hid (fun W key (h : Rd W B1 m1) => needs_any B0 m0.length d0 B1 m1.length d1 b2 b3 b4 b5 b6 b7 b8 m1 key W h hm1 rfl)
  have C1 := Lib.hid (fun W h h' hT => right_any A0 c0 A1 c1 a2 a3 a4 a5 a6 a7 a8 l0 l1 W h h' hs0 hs1 hT)
  have C2 := Lib.hid (fun W h h' hT => right_any B0 d0 B1 d1 b2 b3 b4 b5 b6 b7 b8 m0 m1 W h h' ht0 ht1 hT)
  have CA := Lib.hid (fun (g : Nat) W h h' h0 h1 => concat_UserLevel g A0 c0 B0 d0 l0 m0 W h h' (by omega) h0 h1)
  have CB := Lib.hid (fun (g : Nat) W h h' h0 h1 => concat_TypeLevel g A1 c1 B1 d1 l1 m1 W h h' (by omega) h0 h1)
  unfold changeB
  generalize rightB l0 l1 a2 a3 a4 a5 a6 a7 a8 = R1 at C1 ⊢
  generalize rightB m0 m1 b2 b3 b4 b5 b6 b7 b8 = R2 at C2 ⊢
  have CO1 := Lib.hid (fun W h => CO.out W s h)
  generalize ofS l0 a2 s = own at CO1 ⊢
  generalize hQ1 : ((seven a2 a3 a4 a5 a6 a7 a8).zip (seven b2 b3 b4 b5 b6 b7 b8)).all (fun p => sevOK own p.1 p.2) = Q1
  generalize hQ2 : (l0 ++ m0).all (fun p => userOK l0 a2 m0 b2 s own p.1) = Q2
  generalize hQ3 : (l1 ++ m1).all (fun p => typeOK l1 a3 a4 m1 b3 b4 own p.1) = Q3
  have HQ1 := Lib.hid hQ1
  have HQ2 := Lib.hid hQ2
  have HQ3 := Lib.hid hQ3
  clear hQ1 hQ2 hQ3
  have HLN : Hid (l0.length + m0.length ≤ 2000000 ∧ l1.length + m1.length ≤ 2000000) := Lib.hid ⟨by omega, by omega⟩
  clear hs0 hs1 ht0 ht1 hn0 hn1 hm0 hm1
  go_enter Tryz.func26, Tryz.ntmps26
  go_wp2_with fail
  obtain ⟨hB0, hC0, hC1⟩ := boxed2 w #[.slice A0 l0.length c0, .slice A1 l1.length c1, .int .i64 a2, .int .i64 a3, .int .i64 a4, .int .i64 a5, .int .i64 a6, .int .i64 a7, .int .i64 a8] 25 #[.slice B0 m0.length d0, .slice B1 m1.length d1, .int .i64 b2, .int .i64 b3, .int .i64 b4, .int .i64 b5, .int .i64 b6, .int .i64 b7, .int .i64 b8] 25
  generalize (w.alloc (.cells #[.slice A0 l0.length c0, .slice A1 l1.length c1, .int .i64 a2, .int .i64 a3, .int .i64 a4, .int .i64 a5, .int .i64 a6, .int .i64 a7, .int .i64 a8] 25)).alloc (.cells #[.slice B0 m0.length d0, .slice B1 m1.length d1, .int .i64 b2, .int .i64 b3, .int .i64 b4, .int .i64 b5, .int .i64 b6, .int .i64 b7, .int .i64 b8] 25) = W at hB0 hC0 hC1 ⊢
  have HR0 := Lib.hid (hr0.below hB0)
  have HR1 := Lib.hid (hr1.below hB0)
  have HS0 := Lib.hid (hq0.below hB0)
  have HS1 := Lib.hid (hq1.below hB0)
  have HT := Lib.hid (hT.below hB0)
  have HB0 := Lib.hid hB0
  have HC0 := Lib.hid hC0
  have HC1 := Lib.hid hC1
  clear hr0 hr1 hq0 hq1 hT hB0 hC0 hC1
  generalize w.heap.size = gb at HC0 HC1 ⊢
  refine (C1.out W HR0.out HR1.out HT.out).mono ?_
  rintro e w1 ⟨rfl, hb⟩
  have HB := Lib.hid hb
  clear hb
  have y := nine HC1.out HB.out
  have y0 := y 0 _ rfl
  have y1 := y 1 _ rfl
  have y2 := y 2 _ rfl
  have y3 := y 3 _ rfl
  have y4 := y 4 _ rfl
  have y5 := y 5 _ rfl
  have y6 := y 6 _ rfl
  have y7 := y 7 _ rfl
  have y8 := y 8 _ rfl
  clear y
  cases R1 with
  | false =>
    go_wp2
    go_ret
    exact ⟨rfl, bl_then HB0.out HB.out⟩
  | true =>
  go_wp2_with fail
  clear y0 y1 y2 y3 y4 y5 y6 y7 y8
  refine (C2.out _ (HS0.out.below HB.out) (HS1.out.below HB.out) (HT.out.below HB.out)).mono ?_
  rintro e w2 ⟨rfl, hb⟩
  have HB2 := Lib.hid (bl_then HB.out hb)
  clear hb HB
  have x := nine HC0.out HB2.out
  have x0 := x 0 _ rfl
  have x1 := x 1 _ rfl
  have x2 := x 2 _ rfl
  have x3 := x 3 _ rfl
  have x4 := x 4 _ rfl
  have x5 := x 5 _ rfl
  have x6 := x 6 _ rfl
  have x7 := x 7 _ rfl
  have x8 := x 8 _ rfl
  clear x
  cases R2 with
  | false =>
    go_wp2
    go_ret
    exact ⟨rfl, bl_then HB0.out HB2.out⟩
  | true =>
  go_wp2_with fail
  refine (CO1.out _ (HR0.out.below HB2.out)).mono ?_
  rintro e w3 ⟨rfl, hb⟩
  have HB3 := Lib.hid (bl_then HB2.out hb)
  clear hb HB2 x0 x1 x2 x3 x4 x5 x6 x7 x8
  go_wp2_with fail
  refine (numbers_any _).mono ?_
  rintro e w4 ⟨rfl, hb⟩
  have HB4 := Lib.hid (bl_then HB3.out hb)
  clear hb HB3
  unfold numsV
  go_wp2
  go_loopw [37] (fun v wr => ∃ k : Nat, v = .int .i64 k ∧ k ≤ 7 ∧ Hid (SevTo own ((seven a2 a3 a4 a5 a6 a7 a8).zip (seven b2 b3 b4 b5 b6 b7 b8)) k) ∧ Hid (Below W.heap.size W wr)) (fun v _ => 7 - (intOf v).toNat)
  case atStart => exact ⟨0, rfl, by omega, Lib.hid (fun i h hi => absurd hi (by omega)), HB4⟩
  case round =>
    clear HB4
    obtain ⟨k, rfl, hk, HI, HB⟩ := hrel
    by_cases hlt : k < 7
    · skip
      -- {{1
      have x := nine HC0.out HB.out
      have x0 := x 0 _ rfl
      have x1 := x 1 _ rfl
      have x2 := x 2 _ rfl
      have x3 := x 3 _ rfl
      have x4 := x 4 _ rfl
      have x5 := x 5 _ rfl
      have x6 := x 6 _ rfl
      have x7 := x 7 _ rfl
      have x8 := x 8 _ rfl
      clear x
      have y := nine HC1.out HB.out
      have y0 := y 0 _ rfl
      have y1 := y 1 _ rfl
      have y2 := y 2 _ rfl
      have y3 := y 3 _ rfl
      have y4 := y 4 _ rfl
      have y5 := y 5 _ rfl
      have y6 := y 6 _ rfl
      have y7 := y 7 _ rfl
      have y8 := y 8 _ rfl
      clear y
      obtain ⟨F, fn, a, b, hix, hfn, hna, hbo, hcO, hcN, hz⟩ := pick7 A0 l0.length c0 A1 l1.length c1 a2 a3 a4 a5 a6 a7 a8 B0 m0.length d0 B1 m1.length d1 b2 b3 b4 b5 b6 b7 b8 k hlt
      have CCO := Lib.hid hcO
      have CCN := Lib.hid hcN
      have HFN := Lib.hid hfn
      have HNA := Lib.hid hna
      have HBO := Lib.hid hbo
      have HZ := Lib.hid hz
      clear hcO hcN hfn hna hbo hz
      go_wp2
      refine start_ (n := 10) (S := fun w' => w'.cell? ⟨gb, 0, none⟩ = some (.slice A0 l0.length c0) ∧ w'.cell? ⟨gb, 1, none⟩ = some (.slice A1 l1.length c1) ∧ w'.cell? ⟨gb, 2, none⟩ = some (.int .i64 a2) ∧ w'.cell? ⟨gb, 3, none⟩ = some (.int .i64 a3) ∧ w'.cell? ⟨gb, 4, none⟩ = some (.int .i64 a4) ∧ w'.cell? ⟨gb, 5, none⟩ = some (.int .i64 a5) ∧ w'.cell? ⟨gb, 6, none⟩ = some (.int .i64 a6) ∧ w'.cell? ⟨gb, 7, none⟩ = some (.int .i64 a7) ∧ w'.cell? ⟨gb, 8, none⟩ = some (.int .i64 a8) ∧ w'.cell? ⟨gb + 1, 0, none⟩ = some (.slice B0 m0.length d0) ∧ w'.cell? ⟨gb + 1, 1, none⟩ = some (.slice B1 m1.length d1) ∧ w'.cell? ⟨gb + 1, 2, none⟩ = some (.int .i64 b2) ∧ w'.cell? ⟨gb + 1, 3, none⟩ = some (.int .i64 b3) ∧ w'.cell? ⟨gb + 1, 4, none⟩ = some (.int .i64 b4) ∧ w'.cell? ⟨gb + 1, 5, none⟩ = some (.int .i64 b5) ∧ w'.cell? ⟨gb + 1, 6, none⟩ = some (.int .i64 b6) ∧ w'.cell? ⟨gb + 1, 7, none⟩ = some (.int .i64 b7) ∧ w'.cell? ⟨gb + 1, 8, none⟩ = some (.int .i64 b8) ∧ Below W.heap.size W w') (ds := []) (bA 10 0) (by kernel_rfl) rfl rfl ⟨x0, x1, x2, x3, x4, x5, x6, x7, x8, y0, y1, y2, y3, y4, y5, y6, y7, y8, (bl_drew HB.out)⟩ (fun hHeld => ?_)
      refine pure_ (i := 0) (N := some 40) (v := ?_) (a' := ?_) (bA 10 1) rfl rfl (by kernel_rfl) (fun _ _ _ h => h) (Or.inl ⟨by rfl, ?_⟩) ?_ ?_
      rotate_left
      · intro w'
        go_simp
        with_reducible rfl
      rotate_left
      · simp only [Act.put, List.setIfInBounds_toArray, List.set_cons_zero, List.set_cons_succ, i64_w, i32_w]
        rfl
      refine pure_ (i := 4) (N := some 44) (v := ?_) (a' := ?_) (bA 10 17) rfl rfl (by kernel_rfl) (fun _ _ _ h => h) (Or.inl ⟨by rfl, ?_⟩) ?_ ?_
      rotate_left
      · intro w'
        go_simp
        with_reducible rfl
      rotate_left
      · simp only [Act.put, List.setIfInBounds_toArray, List.set_cons_zero, List.set_cons_succ, i64_w, i32_w]
        rfl
      refine take_ (i := 1) (N := some 41) (v := ?_) (a' := ?_) (bA 10 19) rfl rfl (by kernel_rfl) (fun _ _ _ h => h) (Or.inl ⟨by rfl, ?_⟩) hHeld ?_ ?_
      rotate_left
      · rintro w' ⟨s0, s1, s2, s3, s4, s5, s6, s7, s8, s9, s10, s11, s12, s13, s14, s15, s16, s17, s18⟩
        go_simp
        with_reducible rfl
      rotate_left
      · simp only [Act.put, List.setIfInBounds_toArray, List.set_cons_zero, List.set_cons_succ, i64_w, i32_w]
        rfl
      refine pure_ (i := 2) (N := some 42) (v := ?_) (a' := ?_) (bA 10 23) rfl rfl (by kernel_rfl) (fun _ _ _ h => h) (Or.inl ⟨by rfl, ?_⟩) ?_ ?_
      rotate_left
      · intro w'
        go_simp
        with_reducible rfl
      rotate_left
      · simp only [Act.put, List.setIfInBounds_toArray, List.set_cons_zero, List.set_cons_succ, i64_w, i32_w]
        rfl
      refine take_ (i := 5) (N := some 45) (v := ?_) (a' := ?_) (bA 10 55) rfl rfl (by kernel_rfl) (fun _ _ _ h => h) (Or.inl ⟨by rfl, ?_⟩) hHeld ?_ ?_
      rotate_left
      · rintro w' ⟨s0, s1, s2, s3, s4, s5, s6, s7, s8, s9, s10, s11, s12, s13, s14, s15, s16, s17, s18⟩
        go_simp
        with_reducible rfl
      rotate_left
      · simp only [Act.put, List.setIfInBounds_toArray, List.set_cons_zero, List.set_cons_succ, i64_w, i32_w]
        rfl
      refine pure_ (i := 6) (N := some 46) (v := ?_) (a' := ?_) (bA 10 119) rfl rfl (by kernel_rfl) (fun _ _ _ h => h) (Or.inl ⟨by rfl, ?_⟩) ?_ ?_
      rotate_left
      · intro w'
        go_simp
        with_reducible rfl
      rotate_left
      · simp only [Act.put, List.setIfInBounds_toArray, List.set_cons_zero, List.set_cons_succ, i64_w, i32_w]
        rfl
      refine one_ (i := 3) (N := some 43) (bA 10 127) rfl rfl (by kernel_rfl) (by decide) (fun K hK => ?_)
      refine goesV_ HFN.out HNA.out HBO.out #[.agg #[.slice A0 l0.length c0, .slice A1 l1.length c1, .int .i64 a2, .int .i64 a3, .int .i64 a4, .int .i64 a5, .int .i64 a6, .int .i64 a7, .int .i64 a8]] (by rfl) rfl rfl (by rfl) (by (try simp only [List.map_toArray, List.map_cons, List.map_nil]); rfl) ?_
      with_reducible refine (CCO.out _).mono ?_
      rintro e w1 ⟨rfl, hb⟩
      refine ⟨_, rfl, ?_⟩
      refine hK.out _ _ ⟨((hb.cell (World.block_lt_of_cell? _ _ hHeld.1)).trans hHeld.1), ((hb.cell (World.block_lt_of_cell? _ _ hHeld.2.1)).trans hHeld.2.1), ((hb.cell (World.block_lt_of_cell? _ _ hHeld.2.2.1)).trans hHeld.2.2.1), ((hb.cell (World.block_lt_of_cell? _ _ hHeld.2.2.2.1)).trans hHeld.2.2.2.1), ((hb.cell (World.block_lt_of_cell? _ _ hHeld.2.2.2.2.1)).trans hHeld.2.2.2.2.1), ((hb.cell (World.block_lt_of_cell? _ _ hHeld.2.2.2.2.2.1)).trans hHeld.2.2.2.2.2.1), ((hb.cell (World.block_lt_of_cell? _ _ hHeld.2.2.2.2.2.2.1)).trans hHeld.2.2.2.2.2.2.1), ((hb.cell (World.block_lt_of_cell? _ _ hHeld.2.2.2.2.2.2.2.1)).trans hHeld.2.2.2.2.2.2.2.1), ((hb.cell (World.block_lt_of_cell? _ _ hHeld.2.2.2.2.2.2.2.2.1)).trans hHeld.2.2.2.2.2.2.2.2.1), ((hb.cell (World.block_lt_of_cell? _ _ hHeld.2.2.2.2.2.2.2.2.2.1)).trans hHeld.2.2.2.2.2.2.2.2.2.1), ((hb.cell (World.block_lt_of_cell? _ _ hHeld.2.2.2.2.2.2.2.2.2.2.1)).trans hHeld.2.2.2.2.2.2.2.2.2.2.1), ((hb.cell (World.block_lt_of_cell? _ _ hHeld.2.2.2.2.2.2.2.2.2.2.2.1)).trans hHeld.2.2.2.2.2.2.2.2.2.2.2.1), ((hb.cell (World.block_lt_of_cell? _ _ hHeld.2.2.2.2.2.2.2.2.2.2.2.2.1)).trans hHeld.2.2.2.2.2.2.2.2.2.2.2.2.1), ((hb.cell (World.block_lt_of_cell? _ _ hHeld.2.2.2.2.2.2.2.2.2.2.2.2.2.1)).trans hHeld.2.2.2.2.2.2.2.2.2.2.2.2.2.1), ((hb.cell (World.block_lt_of_cell? _ _ hHeld.2.2.2.2.2.2.2.2.2.2.2.2.2.2.1)).trans hHeld.2.2.2.2.2.2.2.2.2.2.2.2.2.2.1), ((hb.cell (World.block_lt_of_cell? _ _ hHeld.2.2.2.2.2.2.2.2.2.2.2.2.2.2.2.1)).trans hHeld.2.2.2.2.2.2.2.2.2.2.2.2.2.2.2.1), ((hb.cell (World.block_lt_of_cell? _ _ hHeld.2.2.2.2.2.2.2.2.2.2.2.2.2.2.2.2.1)).trans hHeld.2.2.2.2.2.2.2.2.2.2.2.2.2.2.2.2.1), ((hb.cell (World.block_lt_of_cell? _ _ hHeld.2.2.2.2.2.2.2.2.2.2.2.2.2.2.2.2.2.1)).trans hHeld.2.2.2.2.2.2.2.2.2.2.2.2.2.2.2.2.2.1), (bl_then hHeld.2.2.2.2.2.2.2.2.2.2.2.2.2.2.2.2.2.2 hb)⟩ (fun hHeld => ?_)
      clear hK K
      refine norm_ (a' := ?_) ?_ ?_
      rotate_left
      · show Act.put _ (some 43) _ = _
        simp only [Act.put, List.setIfInBounds_toArray, List.set_cons_zero, List.set_cons_succ, i64_w, i32_w]
        rfl
      refine one_ (i := 7) (N := some 47) (bA 10 255) rfl rfl (by kernel_rfl) (by decide) (fun K hK => ?_)
      refine goesV_ HFN.out HNA.out HBO.out #[.agg #[.slice B0 m0.length d0, .slice B1 m1.length d1, .int .i64 b2, .int .i64 b3, .int .i64 b4, .int .i64 b5, .int .i64 b6, .int .i64 b7, .int .i64 b8]] (by rfl) rfl rfl (by rfl) (by (try simp only [List.map_toArray, List.map_cons, List.map_nil]); rfl) ?_
      with_reducible refine (CCN.out _).mono ?_
      rintro e w1 ⟨rfl, hb⟩
      refine ⟨_, rfl, ?_⟩
      refine hK.out _ _ ⟨((hb.cell (World.block_lt_of_cell? _ _ hHeld.1)).trans hHeld.1), ((hb.cell (World.block_lt_of_cell? _ _ hHeld.2.1)).trans hHeld.2.1), ((hb.cell (World.block_lt_of_cell? _ _ hHeld.2.2.1)).trans hHeld.2.2.1), ((hb.cell (World.block_lt_of_cell? _ _ hHeld.2.2.2.1)).trans hHeld.2.2.2.1), ((hb.cell (World.block_lt_of_cell? _ _ hHeld.2.2.2.2.1)).trans hHeld.2.2.2.2.1), ((hb.cell (World.block_lt_of_cell? _ _ hHeld.2.2.2.2.2.1)).trans hHeld.2.2.2.2.2.1), ((hb.cell (World.block_lt_of_cell? _ _ hHeld.2.2.2.2.2.2.1)).trans hHeld.2.2.2.2.2.2.1), ((hb.cell (World.block_lt_of_cell? _ _ hHeld.2.2.2.2.2.2.2.1)).trans hHeld.2.2.2.2.2.2.2.1), ((hb.cell (World.block_lt_of_cell? _ _ hHeld.2.2.2.2.2.2.2.2.1)).trans hHeld.2.2.2.2.2.2.2.2.1), ((hb.cell (World.block_lt_of_cell? _ _ hHeld.2.2.2.2.2.2.2.2.2.1)).trans hHeld.2.2.2.2.2.2.2.2.2.1), ((hb.cell (World.block_lt_of_cell? _ _ hHeld.2.2.2.2.2.2.2.2.2.2.1)).trans hHeld.2.2.2.2.2.2.2.2.2.2.1), ((hb.cell (World.block_lt_of_cell? _ _ hHeld.2.2.2.2.2.2.2.2.2.2.2.1)).trans hHeld.2.2.2.2.2.2.2.2.2.2.2.1), ((hb.cell (World.block_lt_of_cell? _ _ hHeld.2.2.2.2.2.2.2.2.2.2.2.2.1)).trans hHeld.2.2.2.2.2.2.2.2.2.2.2.2.1), ((hb.cell (World.block_lt_of_cell? _ _ hHeld.2.2.2.2.2.2.2.2.2.2.2.2.2.1)).trans hHeld.2.2.2.2.2.2.2.2.2.2.2.2.2.1), ((hb.cell (World.block_lt_of_cell? _ _ hHeld.2.2.2.2.2.2.2.2.2.2.2.2.2.2.1)).trans hHeld.2.2.2.2.2.2.2.2.2.2.2.2.2.2.1), ((hb.cell (World.block_lt_of_cell? _ _ hHeld.2.2.2.2.2.2.2.2.2.2.2.2.2.2.2.1)).trans hHeld.2.2.2.2.2.2.2.2.2.2.2.2.2.2.2.1), ((hb.cell (World.block_lt_of_cell? _ _ hHeld.2.2.2.2.2.2.2.2.2.2.2.2.2.2.2.2.1)).trans hHeld.2.2.2.2.2.2.2.2.2.2.2.2.2.2.2.2.1), ((hb.cell (World.block_lt_of_cell? _ _ hHeld.2.2.2.2.2.2.2.2.2.2.2.2.2.2.2.2.2.1)).trans hHeld.2.2.2.2.2.2.2.2.2.2.2.2.2.2.2.2.2.1), (bl_then hHeld.2.2.2.2.2.2.2.2.2.2.2.2.2.2.2.2.2.2 hb)⟩ (fun hHeld => ?_)
      clear hK K
      refine norm_ (a' := ?_) ?_ ?_
      rotate_left
      · show Act.put _ (some 47) _ = _
        simp only [Act.put, List.setIfInBounds_toArray, List.set_cons_zero, List.set_cons_succ, i64_w, i32_w]
        rfl
      refine pure_ (i := 8) (N := some 10) (v := ?_) (a' := ?_) (bA 10 511) rfl rfl (by kernel_rfl) (fun _ _ _ h => h) (Or.inl ⟨by rfl, ?_⟩) ?_ ?_
      rotate_left
      · intro w'
        go_simp
        with_reducible rfl
      rotate_left
      · simp only [Act.put, List.setIfInBounds_toArray, List.set_cons_zero, List.set_cons_succ, i64_w, i32_w]
        rfl
      refine pure_ (i := 9) (N := some 11) (v := ?_) (a' := ?_) (bA 10 1023) rfl rfl (by kernel_rfl) (fun _ _ _ h => h) (Or.inl ⟨by rfl, ?_⟩) ?_ ?_
      rotate_left
      · intro w'
        go_simp
        with_reducible rfl
      rotate_left
      · simp only [Act.put, List.setIfInBounds_toArray, List.set_cons_zero, List.set_cons_succ, i64_w, i32_w]
        rfl
      refine done_ (by kernel_rfl) ?_
      have HBN := Lib.hid hHeld.2.2.2.2.2.2.2.2.2.2.2.2.2.2.2.2.2.2
      clear hHeld x0 x1 x2 x3 x4 x5 x6 x7 x8 y0 y1 y2 y3 y4 y5 y6 y7 y8 hix
      have HKL : Hid (k < ((seven a2 a3 a4 a5 a6 a7 a8).zip (seven b2 b3 b4 b5 b6 b7 b8)).length) := Lib.hid (by simpa [seven] using hlt)
      by_cases hab : a = b
      · have HAB := Lib.hid hab
        have hab1 : (a == b) = true := beq_iff_eq.2 hab
        have hab2 : (a != b) = false := by simp [hab]
        clear hab
        go_wp2
        go_roundw
        case rel => exact ⟨k + 1, by go_num, by omega, Lib.hid (fun i h hi => by
          rcases Nat.lt_or_ge i k with h' | h'
          · exact HI.out i h h'
          · obtain rfl : i = k := by omega
            rw [HZ.out h]
            simp [sevOK, HAB.out]), HBN⟩
        case measure => simp [intOf]; omega
      · have HAB := Lib.hid hab
        have hab1 : (a == b) = false := beq_eq_false_iff_ne.2 hab
        have hab2 : (a != b) = true := by simp [hab]
        clear hab
        by_cases hl : a < b
        · by_cases hmx : own < b
          · have HMX : Hid (own < max a b) := Lib.hid (by omega)
            go_wp2
            go_ret
            have hno : Q1 = false := by
              rw [← HQ1.out, List.all_eq_false]
              exact ⟨_, List.getElem_mem HKL.out, by rw [HZ.out HKL.out]; simp only [sevOK, decide_eq_false HAB.out, decide_eq_true HMX.out]; decide⟩
            exact ⟨ret_bool (by simp [hno]), bl_then HB0.out HBN.out⟩
          · have HMX : Hid (¬ own < max a b) := Lib.hid (by omega)
            go_wp2
            go_roundw
            case rel => exact ⟨k + 1, by go_num, by omega, Lib.hid (fun i h hi => by
              rcases Nat.lt_or_ge i k with h' | h'
              · exact HI.out i h h'
              · obtain rfl : i = k := by omega
                rw [HZ.out h]
                simp only [sevOK, decide_eq_false HMX.out]; simp), HBN⟩
            case measure => simp [intOf]; omega
        · by_cases hmx : own < a
          · have HMX : Hid (own < max a b) := Lib.hid (by omega)
            go_wp2
            go_ret
            have hno : Q1 = false := by
              rw [← HQ1.out, List.all_eq_false]
              exact ⟨_, List.getElem_mem HKL.out, by rw [HZ.out HKL.out]; simp only [sevOK, decide_eq_false HAB.out, decide_eq_true HMX.out]; decide⟩
            exact ⟨ret_bool (by simp [hno]), bl_then HB0.out HBN.out⟩
          · have HMX : Hid (¬ own < max a b) := Lib.hid (by omega)
            go_wp2
            go_roundw
            case rel => exact ⟨k + 1, by go_num, by omega, Lib.hid (fun i h hi => by
              rcases Nat.lt_or_ge i k with h' | h'
              · exact HI.out i h h'
              · obtain rfl : i = k := by omega
                rw [HZ.out h]
                simp only [sevOK, decide_eq_false HMX.out]; simp), HBN⟩
            case measure => simp [intOf]; omega
      -- }}1
    · obtain rfl : k = 7 := by omega
      have HA : Hid (Q1 = true) := Lib.hid (by
        rw [← HQ1.out, List.all_eq_true]
        intro x hx
        obtain ⟨i, hi, rfl⟩ := List.getElem_of_mem hx
        exact HI.out i hi (by simpa [seven] using hi))
      clear HI
      have x := nine HC0.out HB.out
      have x0 := x 0 _ rfl
      have x1 := x 1 _ rfl
      have x2 := x 2 _ rfl
      have x3 := x 3 _ rfl
      have x4 := x 4 _ rfl
      have x5 := x 5 _ rfl
      have x6 := x 6 _ rfl
      have x7 := x 7 _ rfl
      have x8 := x 8 _ rfl
      clear x
      have y := nine HC1.out HB.out
      have y0 := y 0 _ rfl
      have y1 := y 1 _ rfl
      have y2 := y 2 _ rfl
      have y3 := y 3 _ rfl
      have y4 := y 4 _ rfl
      have y5 := y 5 _ rfl
      have y6 := y 6 _ rfl
      have y7 := y 7 _ rfl
      have y8 := y 8 _ rfl
      clear y
      go_wp2_with fail
      clear x0 x1 x2 x3 x4 x5 x6 x7 x8 y0 y1 y2 y3 y4 y5 y6 y7 y8
      obtain ⟨hBV, hCV⟩ := boxed wr #[.slice A0 l0.length c0, .slice B0 m0.length d0] 22
      generalize wr.alloc (.cells #[.slice A0 l0.length c0, .slice B0 m0.length d0] 22) = V at hBV hCV ⊢
      have HV := Lib.hid (bl_then HB.out hBV)
      have u0 : V.cell? ⟨wr.heap.size, 0, none⟩ = some (.slice A0 l0.length c0) := hCV 0
      have u1 : V.cell? ⟨wr.heap.size, 1, none⟩ = some (.slice B0 m0.length d0) := hCV 1
      clear hBV hCV
      generalize wr.heap.size = ub at u0 u1 ⊢
      refine (CA.out ub V (HR0.out.below HV.out) (HS0.out.below HV.out) u0 u1).mono ?_
      rintro e w5 ⟨A, c, rfl, hrd, hb⟩
      have HRD := Lib.hid hrd
      have HB5 := Lib.hid (bl_then HV.out hb)
      clear hrd hb u0 u1 HV HB
      have HLEN : Hid ((l0 ++ m0).length ≤ 2000000) := Lib.hid (by rw [List.length_append]; exact HLN.out.1)
      generalize hLL : l0 ++ m0 = LL at HRD HLEN ⊢
      have HLL := Lib.hid hLL
      clear hLL
      have hlenL := HLEN.out
      clear HLEN
      go_wp2
      go_loopw [66] (fun v wr => ∃ k : Nat, v = .int .i64 k ∧ k ≤ LL.length ∧ Hid (AllTo2 (fun p => userOK l0 a2 m0 b2 s own p.1) LL k) ∧ Hid (Below w5.heap.size w5 wr)) (fun v _ => LL.length - (intOf v).toNat)
      case atStart => exact ⟨0, rfl, by omega, Lib.hid (fun i h hi => absurd hi (by omega)), Lib.hid (Below.refl _ _)⟩
      case round =>
        obtain ⟨k, rfl, hk, HI, HBr⟩ := hrel
        by_cases hlt : k < LL.length
        · skip
          -- {{Q2
          have HB := Lib.hid (bl_then HB5.out HBr.out)
          have x := nine HC0.out HB.out
          have x0 := x 0 _ rfl
          have x1 := x 1 _ rfl
          have x2 := x 2 _ rfl
          have x3 := x 3 _ rfl
          have x4 := x 4 _ rfl
          have x5 := x 5 _ rfl
          have x6 := x 6 _ rfl
          have x7 := x 7 _ rfl
          have x8 := x 8 _ rfl
          clear x
          obtain ⟨ad, rfl, hcell⟩ := (HRD.out.below HBr.out).2 (by omega)
          obtain ⟨z1, z2⟩ := hcell k _ (List.getElem?_eq_getElem hlt)
          clear hcell
          have i3 : (0 : Int) ≤ (k : Int) := by omega
          have i4 : (k : Int) < (LL.length : Int) := by omega
          generalize hX1 : LL[k].1 = X1 at z1
          generalize hX2 : LL[k].2 = X2 at z2
          have HX1 := Lib.hid hX1
          clear hX1 hX2
          have CUX := Lib.hid (fun W h => CU.out W X1 h)
          have CVX := Lib.hid (fun W h => CV.out W X1 h)
          have COX := Lib.hid (fun W h => CO.out W X1 h)
          have CNX := Lib.hid (fun W h => CN.out W X1 h)
          have HOK : Hid (∀ (P : Bool), userOK l0 a2 m0 b2 s own X1 = P → (fun p => userOK l0 a2 m0 b2 s own p.1) LL[k] = P) := Lib.hid (fun P h => by show userOK l0 a2 m0 b2 s own LL[k].1 = P; rw [HX1.out]; exact h)
          have hok : userOK l0 a2 m0 b2 s own X1 = (decide (lookS l0 X1 = lookS m0 X1) || !(decide (own < ofS m0 b2 X1) || (decide (own < ofS l0 a2 X1) || (decide (ofS l0 a2 X1 = own) && !(X1.toList == s.toList))))) := rfl
          rw [hok] at HOK
          clear hok
          generalize lookS l0 X1 = r at CUX HOK
          generalize lookS m0 X1 = q at CVX HOK
          generalize ofS l0 a2 X1 = had at COX HOK
          generalize ofS m0 b2 X1 = nw at CNX HOK
          obtain ⟨r1, r2⟩ := r
          obtain ⟨q1, q2⟩ := q
          have x0 := alloc_cell x0
          have x1 := alloc_cell x1
          have x2 := alloc_cell x2
          have x3 := alloc_cell x3
          have x4 := alloc_cell x4
          have x5 := alloc_cell x5
          have x6 := alloc_cell x6
          have x7 := alloc_cell x7
          have x8 := alloc_cell x8
          go_wp2_with fail
          obtain ⟨hBV, hCV⟩ := boxed wr #[.string X1, .int .i64 X2] 79
          generalize wr.alloc (.cells #[.string X1, .int .i64 X2] 79) = V at hBV hCV ⊢
          have u1 : V.cell? ⟨wr.heap.size, 0, none⟩ = some (.string X1) := hCV 0
          have HBV := Lib.hid hBV
          clear hBV hCV z1 z2 x0 x1 x2 x3 x4 x5 x6 x7 x8
          generalize wr.heap.size = ub at u1 ⊢
          have U1 := Lib.hid u1
          clear u1
          refine (CUX.out _ (HR0.out.below (bl_then HB.out HBV.out))).mono ?_
          rintro e w6 ⟨rfl, hb⟩
          have HBw6 := Lib.hid (bl_then HBV.out hb)
          have Uw6 := Lib.hid ((hb.cell (World.block_lt_of_cell? _ _ U1.out)).trans U1.out)
          clear hb
          have NB := bl_then HB.out HBw6.out
          have y := nine HC1.out NB
          have y0 := y 0 _ rfl
          have y1 := y 1 _ rfl
          have y2 := y 2 _ rfl
          have y3 := y 3 _ rfl
          have y4 := y 4 _ rfl
          have y5 := y 5 _ rfl
          have y6 := y 6 _ rfl
          have y7 := y 7 _ rfl
          have y8 := y 8 _ rfl
          clear y
          clear NB
          have u1 := Uw6.out
          go_wp2_with fail
          refine (CVX.out _ (HS0.out.below (bl_then HB.out HBw6.out))).mono ?_
          rintro e w7 ⟨rfl, hb⟩
          have HBw7 := Lib.hid (bl_then HBw6.out hb)
          have Uw7 := Lib.hid ((hb.cell (World.block_lt_of_cell? _ _ Uw6.out)).trans Uw6.out)
          clear hb y0 y1 y2 y3 y4 y5 y6 y7 y8 u1
          by_cases he : r1 = q1
          · subst he
            cases r2 with
            | true =>
              cases q2 with
              | true =>
                go_wp2
                have HBE := Lib.hid HBw7.out
                go_roundw
                case rel => exact ⟨k + 1, by go_num, by omega, Lib.hid (fun i h hi => by
                  rcases Nat.lt_or_ge i k with h' | h'
                  · exact HI.out i h h'
                  · obtain rfl : i = k := by omega
                    exact HOK.out true (by simp)), Lib.hid (bl_of HBr.out HBE.out)⟩
                case measure => simp [intOf]; omega
              | false =>
                have HD : Hid (decide ((r1, true) = (r1, false)) = false) := Lib.hid (by simp)
                have NB := bl_then HB.out HBw7.out
                have x := nine HC0.out NB
                have x0 := x 0 _ rfl
                have x1 := x 1 _ rfl
                have x2 := x 2 _ rfl
                have x3 := x 3 _ rfl
                have x4 := x 4 _ rfl
                have x5 := x 5 _ rfl
                have x6 := x 6 _ rfl
                have x7 := x 7 _ rfl
                have x8 := x 8 _ rfl
                clear x
                clear NB
                have u1 := Uw7.out
                go_wp2_with fail
                refine (COX.out _ (HR0.out.below (bl_then HB.out HBw7.out))).mono ?_
                rintro e w8 ⟨rfl, hb⟩
                have HBw8 := Lib.hid (bl_then HBw7.out hb)
                have Uw8 := Lib.hid ((hb.cell (World.block_lt_of_cell? _ _ Uw7.out)).trans Uw7.out)
                clear hb x0 x1 x2 x3 x4 x5 x6 x7 x8 u1
                have NB := bl_then HB.out HBw8.out
                have y := nine HC1.out NB
                have y0 := y 0 _ rfl
                have y1 := y 1 _ rfl
                have y2 := y 2 _ rfl
                have y3 := y 3 _ rfl
                have y4 := y 4 _ rfl
                have y5 := y 5 _ rfl
                have y6 := y 6 _ rfl
                have y7 := y 7 _ rfl
                have y8 := y 8 _ rfl
                clear y
                clear NB
                have u1 := Uw8.out
                go_wp2_with fail
                refine (CNX.out _ (HS0.out.below (bl_then HB.out HBw8.out))).mono ?_
                rintro e w9 ⟨rfl, hb⟩
                have HBw9 := Lib.hid (bl_then HBw8.out hb)
                have Uw9 := Lib.hid ((hb.cell (World.block_lt_of_cell? _ _ Uw8.out)).trans Uw8.out)
                clear hb y0 y1 y2 y3 y4 y5 y6 y7 y8 u1
                have u1 := Uw9.out
                by_cases h1 : own < nw
                · have H1 := Lib.hid h1
                  go_wp2
                  go_ret
                  have hno : Q2 = false := by
                    rw [← HQ2.out, HLL.out]
                    exact not_all2 hlt (HOK.out false (by simp only [HD.out, decide_eq_true H1.out]; simp))
                  exact ⟨ret_bool (by simp [hno]), bl_then HB0.out (bl_then HB.out HBw9.out)⟩
                · by_cases h2 : own < had
                  · have H2 := Lib.hid h2
                    go_wp2
                    go_ret
                    have hno : Q2 = false := by
                      rw [← HQ2.out, HLL.out]
                      exact not_all2 hlt (HOK.out false (by simp only [HD.out, decide_eq_true H2.out]; simp))
                    exact ⟨ret_bool (by simp [hno]), bl_then HB0.out (bl_then HB.out HBw9.out)⟩
                  · have H1 := Lib.hid h1
                    have H2 := Lib.hid h2
                    by_cases h3 : had = own
                    · have H3 := Lib.hid h3
                      have h3b : (had == own) = true := beq_iff_eq.2 h3
                      clear h3
                      cases h4 : (X1.toList == s.toList) with
                      | true =>
                        have H4 := Lib.hid h4
                        have h5 : (X1.toList != s.toList) = false := by simp [bne, h4]
                        go_wp2
                        have HBE := Lib.hid HBw9.out
                        go_roundw
                        case rel => exact ⟨k + 1, by go_num, by omega, Lib.hid (fun i h hi => by
                          rcases Nat.lt_or_ge i k with h' | h'
                          · exact HI.out i h h'
                          · obtain rfl : i = k := by omega
                            exact HOK.out true (by simp only [decide_eq_false (show ¬ own < nw from by have := H1.out; omega), decide_eq_false (show ¬ own < had from by have := H2.out; omega), H4.out]; simp)), Lib.hid (bl_of HBr.out HBE.out)⟩
                        case measure => simp [intOf]; omega
                      | false =>
                        have H4 := Lib.hid h4
                        have h5 : (X1.toList != s.toList) = true := by simp [bne, h4]
                        go_wp2
                        go_ret
                        have hno : Q2 = false := by
                          rw [← HQ2.out, HLL.out]
                          exact not_all2 hlt (HOK.out false (by simp only [HD.out, decide_eq_true H3.out, H4.out]; simp))
                        exact ⟨ret_bool (by simp [hno]), bl_then HB0.out (bl_then HB.out HBw9.out)⟩
                    · have H3 := Lib.hid h3
                      have h3b : (had == own) = false := beq_eq_false_iff_ne.2 h3
                      clear h3
                      go_wp2
                      have HBE := Lib.hid HBw9.out
                      go_roundw
                      case rel => exact ⟨k + 1, by go_num, by omega, Lib.hid (fun i h hi => by
                        rcases Nat.lt_or_ge i k with h' | h'
                        · exact HI.out i h h'
                        · obtain rfl : i = k := by omega
                          exact HOK.out true (by simp only [decide_eq_false (show ¬ own < nw from by have := H1.out; omega), decide_eq_false (show ¬ own < had from by have := H2.out; omega), decide_eq_false H3.out]; simp)), Lib.hid (bl_of HBr.out HBE.out)⟩
                      case measure => simp [intOf]; omega
            | false =>
              cases q2 with
              | true =>
                have HD : Hid (decide ((r1, false) = (r1, true)) = false) := Lib.hid (by simp)
                have NB := bl_then HB.out HBw7.out
                have x := nine HC0.out NB
                have x0 := x 0 _ rfl
                have x1 := x 1 _ rfl
                have x2 := x 2 _ rfl
                have x3 := x 3 _ rfl
                have x4 := x 4 _ rfl
                have x5 := x 5 _ rfl
                have x6 := x 6 _ rfl
                have x7 := x 7 _ rfl
                have x8 := x 8 _ rfl
                clear x
                clear NB
                have u1 := Uw7.out
                go_wp2_with fail
                refine (COX.out _ (HR0.out.below (bl_then HB.out HBw7.out))).mono ?_
                rintro e w8 ⟨rfl, hb⟩
                have HBw8 := Lib.hid (bl_then HBw7.out hb)
                have Uw8 := Lib.hid ((hb.cell (World.block_lt_of_cell? _ _ Uw7.out)).trans Uw7.out)
                clear hb x0 x1 x2 x3 x4 x5 x6 x7 x8 u1
                have NB := bl_then HB.out HBw8.out
                have y := nine HC1.out NB
                have y0 := y 0 _ rfl
                have y1 := y 1 _ rfl
                have y2 := y 2 _ rfl
                have y3 := y 3 _ rfl
                have y4 := y 4 _ rfl
                have y5 := y 5 _ rfl
                have y6 := y 6 _ rfl
                have y7 := y 7 _ rfl
                have y8 := y 8 _ rfl
                clear y
                clear NB
                have u1 := Uw8.out
                go_wp2_with fail
                refine (CNX.out _ (HS0.out.below (bl_then HB.out HBw8.out))).mono ?_
                rintro e w9 ⟨rfl, hb⟩
                have HBw9 := Lib.hid (bl_then HBw8.out hb)
                have Uw9 := Lib.hid ((hb.cell (World.block_lt_of_cell? _ _ Uw8.out)).trans Uw8.out)
                clear hb y0 y1 y2 y3 y4 y5 y6 y7 y8 u1
                have u1 := Uw9.out
                by_cases h1 : own < nw
                · have H1 := Lib.hid h1
                  go_wp2
                  go_ret
                  have hno : Q2 = false := by
                    rw [← HQ2.out, HLL.out]
                    exact not_all2 hlt (HOK.out false (by simp only [HD.out, decide_eq_true H1.out]; simp))
                  exact ⟨ret_bool (by simp [hno]), bl_then HB0.out (bl_then HB.out HBw9.out)⟩
                · by_cases h2 : own < had
                  · have H2 := Lib.hid h2
                    go_wp2
                    go_ret
                    have hno : Q2 = false := by
                      rw [← HQ2.out, HLL.out]
                      exact not_all2 hlt (HOK.out false (by simp only [HD.out, decide_eq_true H2.out]; simp))
                    exact ⟨ret_bool (by simp [hno]), bl_then HB0.out (bl_then HB.out HBw9.out)⟩
                  · have H1 := Lib.hid h1
                    have H2 := Lib.hid h2
                    by_cases h3 : had = own
                    · have H3 := Lib.hid h3
                      have h3b : (had == own) = true := beq_iff_eq.2 h3
                      clear h3
                      cases h4 : (X1.toList == s.toList) with
                      | true =>
                        have H4 := Lib.hid h4
                        have h5 : (X1.toList != s.toList) = false := by simp [bne, h4]
                        go_wp2
                        have HBE := Lib.hid HBw9.out
                        go_roundw
                        case rel => exact ⟨k + 1, by go_num, by omega, Lib.hid (fun i h hi => by
                          rcases Nat.lt_or_ge i k with h' | h'
                          · exact HI.out i h h'
                          · obtain rfl : i = k := by omega
                            exact HOK.out true (by simp only [decide_eq_false (show ¬ own < nw from by have := H1.out; omega), decide_eq_false (show ¬ own < had from by have := H2.out; omega), H4.out]; simp)), Lib.hid (bl_of HBr.out HBE.out)⟩
                        case measure => simp [intOf]; omega
                      | false =>
                        have H4 := Lib.hid h4
                        have h5 : (X1.toList != s.toList) = true := by simp [bne, h4]
                        go_wp2
                        go_ret
                        have hno : Q2 = false := by
                          rw [← HQ2.out, HLL.out]
                          exact not_all2 hlt (HOK.out false (by simp only [HD.out, decide_eq_true H3.out, H4.out]; simp))
                        exact ⟨ret_bool (by simp [hno]), bl_then HB0.out (bl_then HB.out HBw9.out)⟩
                    · have H3 := Lib.hid h3
                      have h3b : (had == own) = false := beq_eq_false_iff_ne.2 h3
                      clear h3
                      go_wp2
                      have HBE := Lib.hid HBw9.out
                      go_roundw
                      case rel => exact ⟨k + 1, by go_num, by omega, Lib.hid (fun i h hi => by
                        rcases Nat.lt_or_ge i k with h' | h'
                        · exact HI.out i h h'
                        · obtain rfl : i = k := by omega
                          exact HOK.out true (by simp only [decide_eq_false (show ¬ own < nw from by have := H1.out; omega), decide_eq_false (show ¬ own < had from by have := H2.out; omega), decide_eq_false H3.out]; simp)), Lib.hid (bl_of HBr.out HBE.out)⟩
                      case measure => simp [intOf]; omega
              | false =>
                go_wp2
                have HBE := Lib.hid HBw7.out
                go_roundw
                case rel => exact ⟨k + 1, by go_num, by omega, Lib.hid (fun i h hi => by
                  rcases Nat.lt_or_ge i k with h' | h'
                  · exact HI.out i h h'
                  · obtain rfl : i = k := by omega
                    exact HOK.out true (by simp)), Lib.hid (bl_of HBr.out HBE.out)⟩
                case measure => simp [intOf]; omega
          · have HE := Lib.hid he
            have heb : (r1 == q1) = false := beq_eq_false_iff_ne.2 he
            clear he
            have HD : Hid (decide ((r1, r2) = (q1, q2)) = false) := Lib.hid (by simp [HE.out])
            have NB := bl_then HB.out HBw7.out
            have x := nine HC0.out NB
            have x0 := x 0 _ rfl
            have x1 := x 1 _ rfl
            have x2 := x 2 _ rfl
            have x3 := x 3 _ rfl
            have x4 := x 4 _ rfl
            have x5 := x 5 _ rfl
            have x6 := x 6 _ rfl
            have x7 := x 7 _ rfl
            have x8 := x 8 _ rfl
            clear x
            clear NB
            have u1 := Uw7.out
            go_wp2_with fail
            refine (COX.out _ (HR0.out.below (bl_then HB.out HBw7.out))).mono ?_
            rintro e w8 ⟨rfl, hb⟩
            have HBw8 := Lib.hid (bl_then HBw7.out hb)
            have Uw8 := Lib.hid ((hb.cell (World.block_lt_of_cell? _ _ Uw7.out)).trans Uw7.out)
            clear hb x0 x1 x2 x3 x4 x5 x6 x7 x8 u1
            have NB := bl_then HB.out HBw8.out
            have y := nine HC1.out NB
            have y0 := y 0 _ rfl
            have y1 := y 1 _ rfl
            have y2 := y 2 _ rfl
            have y3 := y 3 _ rfl
            have y4 := y 4 _ rfl
            have y5 := y 5 _ rfl
            have y6 := y 6 _ rfl
            have y7 := y 7 _ rfl
            have y8 := y 8 _ rfl
            clear y
            clear NB
            have u1 := Uw8.out
            go_wp2_with fail
            refine (CNX.out _ (HS0.out.below (bl_then HB.out HBw8.out))).mono ?_
            rintro e w9 ⟨rfl, hb⟩
            have HBw9 := Lib.hid (bl_then HBw8.out hb)
            have Uw9 := Lib.hid ((hb.cell (World.block_lt_of_cell? _ _ Uw8.out)).trans Uw8.out)
            clear hb y0 y1 y2 y3 y4 y5 y6 y7 y8 u1
            have u1 := Uw9.out
            by_cases h1 : own < nw
            · have H1 := Lib.hid h1
              go_wp2
              go_ret
              have hno : Q2 = false := by
                rw [← HQ2.out, HLL.out]
                exact not_all2 hlt (HOK.out false (by simp only [HD.out, decide_eq_true H1.out]; simp))
              exact ⟨ret_bool (by simp [hno]), bl_then HB0.out (bl_then HB.out HBw9.out)⟩
            · by_cases h2 : own < had
              · have H2 := Lib.hid h2
                go_wp2
                go_ret
                have hno : Q2 = false := by
                  rw [← HQ2.out, HLL.out]
                  exact not_all2 hlt (HOK.out false (by simp only [HD.out, decide_eq_true H2.out]; simp))
                exact ⟨ret_bool (by simp [hno]), bl_then HB0.out (bl_then HB.out HBw9.out)⟩
              · have H1 := Lib.hid h1
                have H2 := Lib.hid h2
                by_cases h3 : had = own
                · have H3 := Lib.hid h3
                  have h3b : (had == own) = true := beq_iff_eq.2 h3
                  clear h3
                  cases h4 : (X1.toList == s.toList) with
                  | true =>
                    have H4 := Lib.hid h4
                    have h5 : (X1.toList != s.toList) = false := by simp [bne, h4]
                    go_wp2
                    have HBE := Lib.hid HBw9.out
                    go_roundw
                    case rel => exact ⟨k + 1, by go_num, by omega, Lib.hid (fun i h hi => by
                      rcases Nat.lt_or_ge i k with h' | h'
                      · exact HI.out i h h'
                      · obtain rfl : i = k := by omega
                        exact HOK.out true (by simp only [decide_eq_false (show ¬ own < nw from by have := H1.out; omega), decide_eq_false (show ¬ own < had from by have := H2.out; omega), H4.out]; simp)), Lib.hid (bl_of HBr.out HBE.out)⟩
                    case measure => simp [intOf]; omega
                  | false =>
                    have H4 := Lib.hid h4
                    have h5 : (X1.toList != s.toList) = true := by simp [bne, h4]
                    go_wp2
                    go_ret
                    have hno : Q2 = false := by
                      rw [← HQ2.out, HLL.out]
                      exact not_all2 hlt (HOK.out false (by simp only [HD.out, decide_eq_true H3.out, H4.out]; simp))
                    exact ⟨ret_bool (by simp [hno]), bl_then HB0.out (bl_then HB.out HBw9.out)⟩
                · have H3 := Lib.hid h3
                  have h3b : (had == own) = false := beq_eq_false_iff_ne.2 h3
                  clear h3
                  go_wp2
                  have HBE := Lib.hid HBw9.out
                  go_roundw
                  case rel => exact ⟨k + 1, by go_num, by omega, Lib.hid (fun i h hi => by
                    rcases Nat.lt_or_ge i k with h' | h'
                    · exact HI.out i h h'
                    · obtain rfl : i = k := by omega
                      exact HOK.out true (by simp only [decide_eq_false (show ¬ own < nw from by have := H1.out; omega), decide_eq_false (show ¬ own < had from by have := H2.out; omega), decide_eq_false H3.out]; simp)), Lib.hid (bl_of HBr.out HBE.out)⟩
                  case measure => simp [intOf]; omega
          -- }}Q2
        · obtain rfl : k = LL.length := by omega
          have HZ2 : Hid (Q2 = true) := Lib.hid (by rw [← HQ2.out, HLL.out]; exact all_of2 HI.out)
          have HB := Lib.hid (bl_then HB5.out HBr.out)
          clear HI HB5 HBr HRD HLL
          have x := nine HC0.out HB.out
          have x0 := x 0 _ rfl
          have x1 := x 1 _ rfl
          have x2 := x 2 _ rfl
          have x3 := x 3 _ rfl
          have x4 := x 4 _ rfl
          have x5 := x 5 _ rfl
          have x6 := x 6 _ rfl
          have x7 := x 7 _ rfl
          have x8 := x 8 _ rfl
          clear x
          have y := nine HC1.out HB.out
          have y0 := y 0 _ rfl
          have y1 := y 1 _ rfl
          have y2 := y 2 _ rfl
          have y3 := y 3 _ rfl
          have y4 := y 4 _ rfl
          have y5 := y 5 _ rfl
          have y6 := y 6 _ rfl
          have y7 := y 7 _ rfl
          have y8 := y 8 _ rfl
          clear y
          go_wp2_with fail
          clear x0 x1 x2 x3 x4 x5 x6 x7 x8 y0 y1 y2 y3 y4 y5 y6 y7 y8
          obtain ⟨hBV, hCV⟩ := boxed wr #[.slice A1 l1.length c1, .slice B1 m1.length d1] 23
          generalize wr.alloc (.cells #[.slice A1 l1.length c1, .slice B1 m1.length d1] 23) = V at hBV hCV ⊢
          have HV := Lib.hid (bl_then HB.out hBV)
          have u0 : V.cell? ⟨wr.heap.size, 0, none⟩ = some (.slice A1 l1.length c1) := hCV 0
          have u1 : V.cell? ⟨wr.heap.size, 1, none⟩ = some (.slice B1 m1.length d1) := hCV 1
          clear hBV hCV
          generalize wr.heap.size = ub at u0 u1 ⊢
          refine (CB.out ub V (HR1.out.below HV.out) (HS1.out.below HV.out) u0 u1).mono ?_
          rintro e w5 ⟨A, c, rfl, hrd, hb⟩
          have HRD := Lib.hid hrd
          have HB5 := Lib.hid (bl_then HV.out hb)
          clear hrd hb u0 u1 HV HB
          have HLEN : Hid ((l1 ++ m1).length ≤ 2000000) := Lib.hid (by rw [List.length_append]; exact HLN.out.2)
          generalize hLL : l1 ++ m1 = LL at HRD HLEN ⊢
          have HLL := Lib.hid hLL
          clear hLL
          have hlenL := HLEN.out
          clear HLEN
          go_wp2
          go_loopw [126] (fun v wr => ∃ k : Nat, v = .int .i64 k ∧ k ≤ LL.length ∧ Hid (AllTo2 (fun p => typeOK l1 a3 a4 m1 b3 b4 own p.1) LL k) ∧ Hid (Below w5.heap.size w5 wr)) (fun v _ => LL.length - (intOf v).toNat)
          case atStart => exact ⟨0, rfl, by omega, Lib.hid (fun i h hi => absurd hi (by omega)), Lib.hid (Below.refl _ _)⟩
          case round =>
            obtain ⟨k, rfl, hk, HI, HBr⟩ := hrel
            by_cases hlt : k < LL.length
            · skip
              -- {{Q3
              have HB := Lib.hid (bl_then HB5.out HBr.out)
              have x := nine HC0.out HB.out
              have x0 := x 0 _ rfl
              have x1 := x 1 _ rfl
              have x2 := x 2 _ rfl
              have x3 := x 3 _ rfl
              have x4 := x 4 _ rfl
              have x5 := x 5 _ rfl
              have x6 := x 6 _ rfl
              have x7 := x 7 _ rfl
              have x8 := x 8 _ rfl
              clear x
              obtain ⟨ad, rfl, hcell⟩ := (HRD.out.below HBr.out).2 (by omega)
              obtain ⟨z1, z2⟩ := hcell k _ (List.getElem?_eq_getElem hlt)
              clear hcell
              have i3 : (0 : Int) ≤ (k : Int) := by omega
              have i4 : (k : Int) < (LL.length : Int) := by omega
              generalize hX1 : LL[k].1 = X1 at z1
              generalize hX2 : LL[k].2 = X2 at z2
              have HX1 := Lib.hid hX1
              clear hX1 hX2
              have CTX := Lib.hid (fun W h => CT.out W X1 h)
              have CSX := Lib.hid (fun W h => CS.out W X1 h)
              have CEX := Lib.hid (fun W h => CE.out W X1 h)
              have CFX := Lib.hid (fun W h => CF.out W X1 h)
              have HOK : Hid (∀ (P : Bool), typeOK l1 a3 a4 m1 b3 b4 own X1 = P → (fun p => typeOK l1 a3 a4 m1 b3 b4 own p.1) LL[k] = P) := Lib.hid (fun P h => by show typeOK l1 a3 a4 m1 b3 b4 own LL[k].1 = P; rw [HX1.out]; exact h)
              have hok : typeOK l1 a3 a4 m1 b3 b4 own X1 = (decide (lookS l1 X1 = lookS m1 X1) || !decide (own < max (needsS l1 a3 a4 X1) (needsS m1 b3 b4 X1))) := rfl
              rw [hok] at HOK
              clear hok
              generalize lookS l1 X1 = r at CTX HOK
              generalize lookS m1 X1 = q at CSX HOK
              generalize needsS l1 a3 a4 X1 = nd at CEX HOK
              generalize needsS m1 b3 b4 X1 = ne at CFX HOK
              obtain ⟨r1, r2⟩ := r
              obtain ⟨q1, q2⟩ := q
              have x0 := alloc_cell x0
              have x1 := alloc_cell x1
              have x2 := alloc_cell x2
              have x3 := alloc_cell x3
              have x4 := alloc_cell x4
              have x5 := alloc_cell x5
              have x6 := alloc_cell x6
              have x7 := alloc_cell x7
              have x8 := alloc_cell x8
              go_wp2_with fail
              obtain ⟨hBV, hCV⟩ := boxed wr #[.string X1, .int .i64 X2] 81
              generalize wr.alloc (.cells #[.string X1, .int .i64 X2] 81) = V at hBV hCV ⊢
              have u1 : V.cell? ⟨wr.heap.size, 0, none⟩ = some (.string X1) := hCV 0
              have HBV := Lib.hid hBV
              clear hBV hCV z1 z2 x0 x1 x2 x3 x4 x5 x6 x7 x8
              generalize wr.heap.size = ub at u1 ⊢
              have U1 := Lib.hid u1
              clear u1
              refine (CTX.out _ (HR1.out.below (bl_then HB.out HBV.out))).mono ?_
              rintro e w6 ⟨rfl, hb⟩
              have HBw6 := Lib.hid (bl_then HBV.out hb)
              have Uw6 := Lib.hid ((hb.cell (World.block_lt_of_cell? _ _ U1.out)).trans U1.out)
              clear hb
              have NB := bl_then HB.out HBw6.out
              have y := nine HC1.out NB
              have y0 := y 0 _ rfl
              have y1 := y 1 _ rfl
              have y2 := y 2 _ rfl
              have y3 := y 3 _ rfl
              have y4 := y 4 _ rfl
              have y5 := y 5 _ rfl
              have y6 := y 6 _ rfl
              have y7 := y 7 _ rfl
              have y8 := y 8 _ rfl
              clear y
              clear NB
              have u1 := Uw6.out
              go_wp2_with fail
              refine (CSX.out _ (HS1.out.below (bl_then HB.out HBw6.out))).mono ?_
              rintro e w7 ⟨rfl, hb⟩
              have HBw7 := Lib.hid (bl_then HBw6.out hb)
              have Uw7 := Lib.hid ((hb.cell (World.block_lt_of_cell? _ _ Uw6.out)).trans Uw6.out)
              clear hb y0 y1 y2 y3 y4 y5 y6 y7 y8 u1
              have NB := bl_then HB.out HBw7.out
              have x := nine HC0.out NB
              have x0 := x 0 _ rfl
              have x1 := x 1 _ rfl
              have x2 := x 2 _ rfl
              have x3 := x 3 _ rfl
              have x4 := x 4 _ rfl
              have x5 := x 5 _ rfl
              have x6 := x 6 _ rfl
              have x7 := x 7 _ rfl
              have x8 := x 8 _ rfl
              clear x
              have y := nine HC1.out NB
              have y0 := y 0 _ rfl
              have y1 := y 1 _ rfl
              have y2 := y 2 _ rfl
              have y3 := y 3 _ rfl
              have y4 := y 4 _ rfl
              have y5 := y 5 _ rfl
              have y6 := y 6 _ rfl
              have y7 := y 7 _ rfl
              have y8 := y 8 _ rfl
              clear y
              clear NB
              have u1 := Uw7.out
              go_wp2
              by_cases he : r1 = q1
              · subst he
                have heb : (r1 != r1) = false := by simp
                cases r2 with
                | true =>
                  cases q2 with
                  | true =>
                    refine start_ (n := 21) (S := fun w' => w'.cell? ⟨gb, 0, none⟩ = some (.slice A0 l0.length c0) ∧ w'.cell? ⟨gb, 1, none⟩ = some (.slice A1 l1.length c1) ∧ w'.cell? ⟨gb, 2, none⟩ = some (.int .i64 a2) ∧ w'.cell? ⟨gb, 3, none⟩ = some (.int .i64 a3) ∧ w'.cell? ⟨gb, 4, none⟩ = some (.int .i64 a4) ∧ w'.cell? ⟨gb, 5, none⟩ = some (.int .i64 a5) ∧ w'.cell? ⟨gb, 6, none⟩ = some (.int .i64 a6) ∧ w'.cell? ⟨gb, 7, none⟩ = some (.int .i64 a7) ∧ w'.cell? ⟨gb, 8, none⟩ = some (.int .i64 a8) ∧ w'.cell? ⟨gb + 1, 0, none⟩ = some (.slice B0 m0.length d0) ∧ w'.cell? ⟨gb + 1, 1, none⟩ = some (.slice B1 m1.length d1) ∧ w'.cell? ⟨gb + 1, 2, none⟩ = some (.int .i64 b2) ∧ w'.cell? ⟨gb + 1, 3, none⟩ = some (.int .i64 b3) ∧ w'.cell? ⟨gb + 1, 4, none⟩ = some (.int .i64 b4) ∧ w'.cell? ⟨gb + 1, 5, none⟩ = some (.int .i64 b5) ∧ w'.cell? ⟨gb + 1, 6, none⟩ = some (.int .i64 b6) ∧ w'.cell? ⟨gb + 1, 7, none⟩ = some (.int .i64 b7) ∧ w'.cell? ⟨gb + 1, 8, none⟩ = some (.int .i64 b8) ∧ w'.cell? ⟨ub, 0, none⟩ = some (.string X1) ∧ Below wr.heap.size wr w') (ds := []) (bA 21 0) (by kernel_rfl) rfl rfl ⟨x0, x1, x2, x3, x4, x5, x6, x7, x8, y0, y1, y2, y3, y4, y5, y6, y7, y8, u1, (bl_drew HBw7.out)⟩ (fun hHeld => ?_)
                    refine pure_ (i := 0) (N := some 144) (v := ?_) (a' := ?_) (bA 21 1) rfl rfl (by kernel_rfl) (fun _ _ _ h => h) (Or.inl ⟨by rfl, ?_⟩) ?_ ?_
                    rotate_left
                    · intro w'
                      go_simp
                      with_reducible rfl
                    rotate_left
                    · simp only [Act.put, List.setIfInBounds_toArray, List.set_cons_zero, List.set_cons_succ, i64_w, i32_w]
                      rfl
                    refine pure_ (i := 1) (N := some 145) (v := ?_) (a' := ?_) (bA 21 3) rfl rfl (by kernel_rfl) (fun _ _ _ h => h) (Or.inl ⟨by rfl, ?_⟩) ?_ ?_
                    rotate_left
                    · intro w'
                      go_simp
                      with_reducible rfl
                    rotate_left
                    · simp only [Act.put, List.setIfInBounds_toArray, List.set_cons_zero, List.set_cons_succ, i64_w, i32_w]
                      rfl
                    refine pure_ (i := 2) (N := some 146) (v := ?_) (a' := ?_) (bA 21 7) rfl rfl (by kernel_rfl) (fun _ _ _ h => h) (Or.inl ⟨by rfl, ?_⟩) ?_ ?_
                    rotate_left
                    · intro w'
                      go_simp
                      with_reducible rfl
                    rotate_left
                    · simp only [Act.put, List.setIfInBounds_toArray, List.set_cons_zero, List.set_cons_succ, i64_w, i32_w]
                      rfl
                    refine pure_ (i := 3) (N := some 147) (v := ?_) (a' := ?_) (bA 21 15) rfl rfl (by kernel_rfl) (fun _ _ _ h => h) (Or.inl ⟨by rfl, ?_⟩) ?_ ?_
                    rotate_left
                    · intro w'
                      go_simp
                      with_reducible rfl
                    rotate_left
                    · simp only [Act.put, List.setIfInBounds_toArray, List.set_cons_zero, List.set_cons_succ, i64_w, i32_w]
                      rfl
                    refine pure_ (i := 4) (N := some 148) (v := ?_) (a' := ?_) (bA 21 31) rfl rfl (by kernel_rfl) (fun _ _ _ h => h) (Or.inl ⟨by rfl, ?_⟩) ?_ ?_
                    rotate_left
                    · intro w'
                      go_simp
                      with_reducible rfl
                    rotate_left
                    · simp only [Act.put, List.setIfInBounds_toArray, List.set_cons_zero, List.set_cons_succ, i64_w, i32_w]
                      rfl
                    refine pure_ (i := 5) (N := some 149) (v := ?_) (a' := ?_) (bA 21 63) rfl rfl (by kernel_rfl) (fun _ _ _ h => h) (Or.inl ⟨by rfl, ?_⟩) ?_ ?_
                    rotate_left
                    · intro w'
                      go_simp
                      with_reducible rfl
                    rotate_left
                    · simp only [Act.put, List.setIfInBounds_toArray, List.set_cons_zero, List.set_cons_succ, i64_w, i32_w]
                      rfl
                    refine pure_ (i := 6) (N := some 150) (v := ?_) (a' := ?_) (bA 21 127) rfl rfl (by kernel_rfl) (fun _ _ _ h => h) (Or.inl ⟨by rfl, ?_⟩) ?_ ?_
                    rotate_left
                    · intro w'
                      go_simp
                      with_reducible rfl
                    rotate_left
                    · simp only [Act.put, List.setIfInBounds_toArray, List.set_cons_zero, List.set_cons_succ, i64_w, i32_w]
                      rfl
                    refine pure_ (i := 7) (N := some 151) (v := ?_) (a' := ?_) (bA 21 255) rfl rfl (by kernel_rfl) (fun _ _ _ h => h) (Or.inl ⟨by rfl, ?_⟩) ?_ ?_
                    rotate_left
                    · intro w'
                      go_simp
                      with_reducible rfl
                    rotate_left
                    · simp only [Act.put, List.setIfInBounds_toArray, List.set_cons_zero, List.set_cons_succ, i64_w, i32_w]
                      rfl
                    refine pure_ (i := 8) (N := some 152) (v := ?_) (a' := ?_) (bA 21 511) rfl rfl (by kernel_rfl) (fun _ _ _ h => h) (Or.inl ⟨by rfl, ?_⟩) ?_ ?_
                    rotate_left
                    · intro w'
                      go_simp
                      with_reducible rfl
                    rotate_left
                    · simp only [Act.put, List.setIfInBounds_toArray, List.set_cons_zero, List.set_cons_succ, i64_w, i32_w]
                      rfl
                    refine pure_ (i := 9) (N := some 153) (v := undef) (a' := ?_) (bA 21 1023) rfl rfl (by kernel_rfl) (fun _ _ _ h => h) (Or.inr ⟨by rfl, rfl⟩) ?_ ?_
                    rotate_left
                    · simp only [Act.put, List.setIfInBounds_toArray, List.set_cons_zero, List.set_cons_succ, i64_w, i32_w]
                      rfl
                    refine pure_ (i := 10) (N := some 154) (v := undef) (a' := ?_) (bA 21 2047) rfl rfl (by kernel_rfl) (fun _ _ _ h => h) (Or.inr ⟨by rfl, rfl⟩) ?_ ?_
                    rotate_left
                    · simp only [Act.put, List.setIfInBounds_toArray, List.set_cons_zero, List.set_cons_succ, i64_w, i32_w]
                      rfl
                    refine pure_ (i := 11) (N := some 155) (v := undef) (a' := ?_) (bA 21 4095) rfl rfl (by kernel_rfl) (fun _ _ _ h => h) (Or.inr ⟨by rfl, rfl⟩) ?_ ?_
                    rotate_left
                    · simp only [Act.put, List.setIfInBounds_toArray, List.set_cons_zero, List.set_cons_succ, i64_w, i32_w]
                      rfl
                    refine pure_ (i := 12) (N := some 156) (v := undef) (a' := ?_) (bA 21 8191) rfl rfl (by kernel_rfl) (fun _ _ _ h => h) (Or.inr ⟨by rfl, rfl⟩) ?_ ?_
                    rotate_left
                    · simp only [Act.put, List.setIfInBounds_toArray, List.set_cons_zero, List.set_cons_succ, i64_w, i32_w]
                      rfl
                    refine pure_ (i := 13) (N := some 157) (v := undef) (a' := ?_) (bA 21 16383) rfl rfl (by kernel_rfl) (fun _ _ _ h => h) (Or.inr ⟨by rfl, rfl⟩) ?_ ?_
                    rotate_left
                    · simp only [Act.put, List.setIfInBounds_toArray, List.set_cons_zero, List.set_cons_succ, i64_w, i32_w]
                      rfl
                    refine pure_ (i := 14) (N := some 158) (v := undef) (a' := ?_) (bA 21 32767) rfl rfl (by kernel_rfl) (fun _ _ _ h => h) (Or.inr ⟨by rfl, rfl⟩) ?_ ?_
                    rotate_left
                    · simp only [Act.put, List.setIfInBounds_toArray, List.set_cons_zero, List.set_cons_succ, i64_w, i32_w]
                      rfl
                    refine pure_ (i := 15) (N := some 159) (v := undef) (a' := ?_) (bA 21 65535) rfl rfl (by kernel_rfl) (fun _ _ _ h => h) (Or.inr ⟨by rfl, rfl⟩) ?_ ?_
                    rotate_left
                    · simp only [Act.put, List.setIfInBounds_toArray, List.set_cons_zero, List.set_cons_succ, i64_w, i32_w]
                      rfl
                    refine pure_ (i := 16) (N := some 160) (v := undef) (a' := ?_) (bA 21 131071) rfl rfl (by kernel_rfl) (fun _ _ _ h => h) (Or.inr ⟨by rfl, rfl⟩) ?_ ?_
                    rotate_left
                    · simp only [Act.put, List.setIfInBounds_toArray, List.set_cons_zero, List.set_cons_succ, i64_w, i32_w]
                      rfl
                    refine pure_ (i := 17) (N := some 161) (v := undef) (a' := ?_) (bA 21 262143) rfl rfl (by kernel_rfl) (fun _ _ _ h => h) (Or.inr ⟨by rfl, rfl⟩) ?_ ?_
                    rotate_left
                    · simp only [Act.put, List.setIfInBounds_toArray, List.set_cons_zero, List.set_cons_succ, i64_w, i32_w]
                      rfl
                    refine pure_ (i := 18) (N := some 162) (v := undef) (a' := ?_) (bA 21 524287) rfl rfl (by kernel_rfl) (fun _ _ _ h => h) (Or.inr ⟨by rfl, rfl⟩) ?_ ?_
                    rotate_left
                    · simp only [Act.put, List.setIfInBounds_toArray, List.set_cons_zero, List.set_cons_succ, i64_w, i32_w]
                      rfl
                    refine pure_ (i := 19) (N := some 163) (v := undef) (a' := ?_) (bA 21 1048575) rfl rfl (by kernel_rfl) (fun _ _ _ h => h) (Or.inr ⟨by rfl, rfl⟩) ?_ ?_
                    rotate_left
                    · simp only [Act.put, List.setIfInBounds_toArray, List.set_cons_zero, List.set_cons_succ, i64_w, i32_w]
                      rfl
                    refine pure_ (i := 20) (N := some 164) (v := ?_) (a' := ?_) (bA 21 2097151) rfl rfl (by kernel_rfl) (fun _ _ _ h => h) (Or.inl ⟨by rfl, ?_⟩) ?_ ?_
                    rotate_left
                    · intro w'
                      go_simp
                      with_reducible rfl
                    rotate_left
                    · simp only [Act.put, List.setIfInBounds_toArray, List.set_cons_zero, List.set_cons_succ, i64_w, i32_w]
                      rfl
                    refine done_ (by kernel_rfl) ?_
                    have HBE := Lib.hid hHeld.2.2.2.2.2.2.2.2.2.2.2.2.2.2.2.2.2.2.2
                    clear hHeld x0 x1 x2 x3 x4 x5 x6 x7 x8 y0 y1 y2 y3 y4 y5 y6 y7 y8 u1
                    go_wp2
                    go_roundw
                    case rel => exact ⟨k + 1, by go_num, by omega, Lib.hid (fun i h hi => by
                      rcases Nat.lt_or_ge i k with h' | h'
                      · exact HI.out i h h'
                      · obtain rfl : i = k := by omega
                        exact HOK.out true (by simp)), Lib.hid (bl_of HBr.out HBE.out)⟩
                    case measure => simp [intOf]; omega
                  | false =>
                    have HD : Hid (decide ((r1, true) = (r1, false)) = false) := Lib.hid (by simp)
                    refine start_ (n := 21) (S := fun w' => w'.cell? ⟨gb, 0, none⟩ = some (.slice A0 l0.length c0) ∧ w'.cell? ⟨gb, 1, none⟩ = some (.slice A1 l1.length c1) ∧ w'.cell? ⟨gb, 2, none⟩ = some (.int .i64 a2) ∧ w'.cell? ⟨gb, 3, none⟩ = some (.int .i64 a3) ∧ w'.cell? ⟨gb, 4, none⟩ = some (.int .i64 a4) ∧ w'.cell? ⟨gb, 5, none⟩ = some (.int .i64 a5) ∧ w'.cell? ⟨gb, 6, none⟩ = some (.int .i64 a6) ∧ w'.cell? ⟨gb, 7, none⟩ = some (.int .i64 a7) ∧ w'.cell? ⟨gb, 8, none⟩ = some (.int .i64 a8) ∧ w'.cell? ⟨gb + 1, 0, none⟩ = some (.slice B0 m0.length d0) ∧ w'.cell? ⟨gb + 1, 1, none⟩ = some (.slice B1 m1.length d1) ∧ w'.cell? ⟨gb + 1, 2, none⟩ = some (.int .i64 b2) ∧ w'.cell? ⟨gb + 1, 3, none⟩ = some (.int .i64 b3) ∧ w'.cell? ⟨gb + 1, 4, none⟩ = some (.int .i64 b4) ∧ w'.cell? ⟨gb + 1, 5, none⟩ = some (.int .i64 b5) ∧ w'.cell? ⟨gb + 1, 6, none⟩ = some (.int .i64 b6) ∧ w'.cell? ⟨gb + 1, 7, none⟩ = some (.int .i64 b7) ∧ w'.cell? ⟨gb + 1, 8, none⟩ = some (.int .i64 b8) ∧ w'.cell? ⟨ub, 0, none⟩ = some (.string X1) ∧ Below wr.heap.size wr w') (ds := []) (bA 21 0) (by kernel_rfl) rfl rfl ⟨x0, x1, x2, x3, x4, x5, x6, x7, x8, y0, y1, y2, y3, y4, y5, y6, y7, y8, u1, (bl_drew HBw7.out)⟩ (fun hHeld => ?_)
                    refine pure_ (i := 0) (N := some 144) (v := ?_) (a' := ?_) (bA 21 1) rfl rfl (by kernel_rfl) (fun _ _ _ h => h) (Or.inl ⟨by rfl, ?_⟩) ?_ ?_
                    rotate_left
                    · intro w'
                      go_simp
                      with_reducible rfl
                    rotate_left
                    · simp only [Act.put, List.setIfInBounds_toArray, List.set_cons_zero, List.set_cons_succ, i64_w, i32_w]
                      rfl
                    refine pure_ (i := 1) (N := some 145) (v := ?_) (a' := ?_) (bA 21 3) rfl rfl (by kernel_rfl) (fun _ _ _ h => h) (Or.inl ⟨by rfl, ?_⟩) ?_ ?_
                    rotate_left
                    · intro w'
                      go_simp
                      with_reducible rfl
                    rotate_left
                    · simp only [Act.put, List.setIfInBounds_toArray, List.set_cons_zero, List.set_cons_succ, i64_w, i32_w]
                      rfl
                    refine pure_ (i := 2) (N := some 146) (v := ?_) (a' := ?_) (bA 21 7) rfl rfl (by kernel_rfl) (fun _ _ _ h => h) (Or.inl ⟨by rfl, ?_⟩) ?_ ?_
                    rotate_left
                    · intro w'
                      go_simp
                      with_reducible rfl
                    rotate_left
                    · simp only [Act.put, List.setIfInBounds_toArray, List.set_cons_zero, List.set_cons_succ, i64_w, i32_w]
                      rfl
                    refine pure_ (i := 3) (N := some 147) (v := ?_) (a' := ?_) (bA 21 15) rfl rfl (by kernel_rfl) (fun _ _ _ h => h) (Or.inl ⟨by rfl, ?_⟩) ?_ ?_
                    rotate_left
                    · intro w'
                      go_simp
                      with_reducible rfl
                    rotate_left
                    · simp only [Act.put, List.setIfInBounds_toArray, List.set_cons_zero, List.set_cons_succ, i64_w, i32_w]
                      rfl
                    refine pure_ (i := 4) (N := some 148) (v := ?_) (a' := ?_) (bA 21 31) rfl rfl (by kernel_rfl) (fun _ _ _ h => h) (Or.inl ⟨by rfl, ?_⟩) ?_ ?_
                    rotate_left
                    · intro w'
                      go_simp
                      with_reducible rfl
                    rotate_left
                    · simp only [Act.put, List.setIfInBounds_toArray, List.set_cons_zero, List.set_cons_succ, i64_w, i32_w]
                      rfl
                    refine pure_ (i := 5) (N := some 149) (v := ?_) (a' := ?_) (bA 21 63) rfl rfl (by kernel_rfl) (fun _ _ _ h => h) (Or.inl ⟨by rfl, ?_⟩) ?_ ?_
                    rotate_left
                    · intro w'
                      go_simp
                      with_reducible rfl
                    rotate_left
                    · simp only [Act.put, List.setIfInBounds_toArray, List.set_cons_zero, List.set_cons_succ, i64_w, i32_w]
                      rfl
                    refine pure_ (i := 6) (N := some 150) (v := ?_) (a' := ?_) (bA 21 127) rfl rfl (by kernel_rfl) (fun _ _ _ h => h) (Or.inl ⟨by rfl, ?_⟩) ?_ ?_
                    rotate_left
                    · intro w'
                      go_simp
                      with_reducible rfl
                    rotate_left
                    · simp only [Act.put, List.setIfInBounds_toArray, List.set_cons_zero, List.set_cons_succ, i64_w, i32_w]
                      rfl
                    refine pure_ (i := 7) (N := some 151) (v := ?_) (a' := ?_) (bA 21 255) rfl rfl (by kernel_rfl) (fun _ _ _ h => h) (Or.inl ⟨by rfl, ?_⟩) ?_ ?_
                    rotate_left
                    · intro w'
                      go_simp
                      with_reducible rfl
                    rotate_left
                    · simp only [Act.put, List.setIfInBounds_toArray, List.set_cons_zero, List.set_cons_succ, i64_w, i32_w]
                      rfl
                    refine pure_ (i := 8) (N := some 152) (v := ?_) (a' := ?_) (bA 21 511) rfl rfl (by kernel_rfl) (fun _ _ _ h => h) (Or.inl ⟨by rfl, ?_⟩) ?_ ?_
                    rotate_left
                    · intro w'
                      go_simp
                      with_reducible rfl
                    rotate_left
                    · simp only [Act.put, List.setIfInBounds_toArray, List.set_cons_zero, List.set_cons_succ, i64_w, i32_w]
                      rfl
                    refine pure_ (i := 10) (N := some 154) (v := ?_) (a' := ?_) (bA 21 1535) rfl rfl (by kernel_rfl) (fun _ _ _ h => h) (Or.inl ⟨by rfl, ?_⟩) ?_ ?_
                    rotate_left
                    · intro w'
                      go_simp
                      with_reducible rfl
                    rotate_left
                    · simp only [Act.put, List.setIfInBounds_toArray, List.set_cons_zero, List.set_cons_succ, i64_w, i32_w]
                      rfl
                    refine pure_ (i := 14) (N := some 158) (v := ?_) (a' := ?_) (bA 21 17919) rfl rfl (by kernel_rfl) (fun _ _ _ h => h) (Or.inl ⟨by rfl, ?_⟩) ?_ ?_
                    rotate_left
                    · intro w'
                      go_simp
                      with_reducible rfl
                    rotate_left
                    · simp only [Act.put, List.setIfInBounds_toArray, List.set_cons_zero, List.set_cons_succ, i64_w, i32_w]
                      rfl
                    refine pure_ (i := 18) (N := some 162) (v := ?_) (a' := ?_) (bA 21 280063) rfl rfl (by kernel_rfl) (fun _ _ _ h => h) (Or.inl ⟨by rfl, ?_⟩) ?_ ?_
                    rotate_left
                    · intro w'
                      go_simp
                      with_reducible rfl
                    rotate_left
                    · simp only [Act.put, List.setIfInBounds_toArray, List.set_cons_zero, List.set_cons_succ, i64_w, i32_w]
                      rfl
                    refine take_ (i := 9) (N := some 153) (v := ?_) (a' := ?_) (bA 21 280575) rfl rfl (by kernel_rfl) (fun _ _ _ h => h) (Or.inl ⟨by rfl, ?_⟩) hHeld ?_ ?_
                    rotate_left
                    · rintro w' ⟨s0, s1, s2, s3, s4, s5, s6, s7, s8, s9, s10, s11, s12, s13, s14, s15, s16, s17, s18, s19⟩
                      go_simp
                      with_reducible rfl
                    rotate_left
                    · simp only [Act.put, List.setIfInBounds_toArray, List.set_cons_zero, List.set_cons_succ, i64_w, i32_w]
                      rfl
                    refine take_ (i := 11) (N := some 155) (v := ?_) (a' := ?_) (bA 21 282623) rfl rfl (by kernel_rfl) (fun _ _ _ h => h) (Or.inl ⟨by rfl, ?_⟩) hHeld ?_ ?_
                    rotate_left
                    · rintro w' ⟨s0, s1, s2, s3, s4, s5, s6, s7, s8, s9, s10, s11, s12, s13, s14, s15, s16, s17, s18, s19⟩
                      go_simp
                      with_reducible rfl
                    rotate_left
                    · simp only [Act.put, List.setIfInBounds_toArray, List.set_cons_zero, List.set_cons_succ, i64_w, i32_w]
                      rfl
                    refine take_ (i := 13) (N := some 157) (v := ?_) (a' := ?_) (bA 21 290815) rfl rfl (by kernel_rfl) (fun _ _ _ h => h) (Or.inl ⟨by rfl, ?_⟩) hHeld ?_ ?_
                    rotate_left
                    · rintro w' ⟨s0, s1, s2, s3, s4, s5, s6, s7, s8, s9, s10, s11, s12, s13, s14, s15, s16, s17, s18, s19⟩
                      go_simp
                      with_reducible rfl
                    rotate_left
                    · simp only [Act.put, List.setIfInBounds_toArray, List.set_cons_zero, List.set_cons_succ, i64_w, i32_w]
                      rfl
                    refine take_ (i := 15) (N := some 159) (v := ?_) (a' := ?_) (bA 21 323583) rfl rfl (by kernel_rfl) (fun _ _ _ h => h) (Or.inl ⟨by rfl, ?_⟩) hHeld ?_ ?_
                    rotate_left
                    · rintro w' ⟨s0, s1, s2, s3, s4, s5, s6, s7, s8, s9, s10, s11, s12, s13, s14, s15, s16, s17, s18, s19⟩
                      go_simp
                      with_reducible rfl
                    rotate_left
                    · simp only [Act.put, List.setIfInBounds_toArray, List.set_cons_zero, List.set_cons_succ, i64_w, i32_w]
                      rfl
                    refine one_ (i := 12) (N := some 156) (bA 21 327679) rfl rfl (by kernel_rfl) (by decide) (fun K hK => ?_)
                    refine goes_ Tryz.func73 (by kernel_rfl) rfl #[.agg #[.slice A0 l0.length c0, .slice A1 l1.length c1, .int .i64 a2, .int .i64 a3, .int .i64 a4, .int .i64 a5, .int .i64 a6, .int .i64 a7, .int .i64 a8], .string X1] (by rfl) rfl rfl (by simp only [List.map_toArray, List.map_cons, List.map_nil]; rfl) ?_
                    with_reducible refine (CEX.out _ (HR1.out.below (bl_then HB.out hHeld.2.2.2.2.2.2.2.2.2.2.2.2.2.2.2.2.2.2.2))).mono ?_
                    rintro e w8 ⟨rfl, hb⟩
                    refine ⟨_, rfl, ?_⟩
                    refine hK.out _ _ ⟨((hb.cell (World.block_lt_of_cell? _ _ hHeld.1)).trans hHeld.1), ((hb.cell (World.block_lt_of_cell? _ _ hHeld.2.1)).trans hHeld.2.1), ((hb.cell (World.block_lt_of_cell? _ _ hHeld.2.2.1)).trans hHeld.2.2.1), ((hb.cell (World.block_lt_of_cell? _ _ hHeld.2.2.2.1)).trans hHeld.2.2.2.1), ((hb.cell (World.block_lt_of_cell? _ _ hHeld.2.2.2.2.1)).trans hHeld.2.2.2.2.1), ((hb.cell (World.block_lt_of_cell? _ _ hHeld.2.2.2.2.2.1)).trans hHeld.2.2.2.2.2.1), ((hb.cell (World.block_lt_of_cell? _ _ hHeld.2.2.2.2.2.2.1)).trans hHeld.2.2.2.2.2.2.1), ((hb.cell (World.block_lt_of_cell? _ _ hHeld.2.2.2.2.2.2.2.1)).trans hHeld.2.2.2.2.2.2.2.1), ((hb.cell (World.block_lt_of_cell? _ _ hHeld.2.2.2.2.2.2.2.2.1)).trans hHeld.2.2.2.2.2.2.2.2.1), ((hb.cell (World.block_lt_of_cell? _ _ hHeld.2.2.2.2.2.2.2.2.2.1)).trans hHeld.2.2.2.2.2.2.2.2.2.1), ((hb.cell (World.block_lt_of_cell? _ _ hHeld.2.2.2.2.2.2.2.2.2.2.1)).trans hHeld.2.2.2.2.2.2.2.2.2.2.1), ((hb.cell (World.block_lt_of_cell? _ _ hHeld.2.2.2.2.2.2.2.2.2.2.2.1)).trans hHeld.2.2.2.2.2.2.2.2.2.2.2.1), ((hb.cell (World.block_lt_of_cell? _ _ hHeld.2.2.2.2.2.2.2.2.2.2.2.2.1)).trans hHeld.2.2.2.2.2.2.2.2.2.2.2.2.1), ((hb.cell (World.block_lt_of_cell? _ _ hHeld.2.2.2.2.2.2.2.2.2.2.2.2.2.1)).trans hHeld.2.2.2.2.2.2.2.2.2.2.2.2.2.1), ((hb.cell (World.block_lt_of_cell? _ _ hHeld.2.2.2.2.2.2.2.2.2.2.2.2.2.2.1)).trans hHeld.2.2.2.2.2.2.2.2.2.2.2.2.2.2.1), ((hb.cell (World.block_lt_of_cell? _ _ hHeld.2.2.2.2.2.2.2.2.2.2.2.2.2.2.2.1)).trans hHeld.2.2.2.2.2.2.2.2.2.2.2.2.2.2.2.1), ((hb.cell (World.block_lt_of_cell? _ _ hHeld.2.2.2.2.2.2.2.2.2.2.2.2.2.2.2.2.1)).trans hHeld.2.2.2.2.2.2.2.2.2.2.2.2.2.2.2.2.1), ((hb.cell (World.block_lt_of_cell? _ _ hHeld.2.2.2.2.2.2.2.2.2.2.2.2.2.2.2.2.2.1)).trans hHeld.2.2.2.2.2.2.2.2.2.2.2.2.2.2.2.2.2.1), ((hb.cell (World.block_lt_of_cell? _ _ hHeld.2.2.2.2.2.2.2.2.2.2.2.2.2.2.2.2.2.2.1)).trans hHeld.2.2.2.2.2.2.2.2.2.2.2.2.2.2.2.2.2.2.1), (bl_then hHeld.2.2.2.2.2.2.2.2.2.2.2.2.2.2.2.2.2.2.2 hb)⟩ (fun hHeld => ?_)
                    clear hK K
                    refine norm_ (a' := ?_) ?_ ?_
                    rotate_left
                    · show Act.put _ (some 156) _ = _
                      simp only [Act.put, List.setIfInBounds_toArray, List.set_cons_zero, List.set_cons_succ, i64_w, i32_w]
                      rfl
                    refine one_ (i := 16) (N := some 160) (bA 21 393215) rfl rfl (by kernel_rfl) (by decide) (fun K hK => ?_)
                    refine goes_ Tryz.func73 (by kernel_rfl) rfl #[.agg #[.slice B0 m0.length d0, .slice B1 m1.length d1, .int .i64 b2, .int .i64 b3, .int .i64 b4, .int .i64 b5, .int .i64 b6, .int .i64 b7, .int .i64 b8], .string X1] (by rfl) rfl rfl (by simp only [List.map_toArray, List.map_cons, List.map_nil]; rfl) ?_
                    with_reducible refine (CFX.out _ (HS1.out.below (bl_then HB.out hHeld.2.2.2.2.2.2.2.2.2.2.2.2.2.2.2.2.2.2.2))).mono ?_
                    rintro e w8 ⟨rfl, hb⟩
                    refine ⟨_, rfl, ?_⟩
                    refine hK.out _ _ ⟨((hb.cell (World.block_lt_of_cell? _ _ hHeld.1)).trans hHeld.1), ((hb.cell (World.block_lt_of_cell? _ _ hHeld.2.1)).trans hHeld.2.1), ((hb.cell (World.block_lt_of_cell? _ _ hHeld.2.2.1)).trans hHeld.2.2.1), ((hb.cell (World.block_lt_of_cell? _ _ hHeld.2.2.2.1)).trans hHeld.2.2.2.1), ((hb.cell (World.block_lt_of_cell? _ _ hHeld.2.2.2.2.1)).trans hHeld.2.2.2.2.1), ((hb.cell (World.block_lt_of_cell? _ _ hHeld.2.2.2.2.2.1)).trans hHeld.2.2.2.2.2.1), ((hb.cell (World.block_lt_of_cell? _ _ hHeld.2.2.2.2.2.2.1)).trans hHeld.2.2.2.2.2.2.1), ((hb.cell (World.block_lt_of_cell? _ _ hHeld.2.2.2.2.2.2.2.1)).trans hHeld.2.2.2.2.2.2.2.1), ((hb.cell (World.block_lt_of_cell? _ _ hHeld.2.2.2.2.2.2.2.2.1)).trans hHeld.2.2.2.2.2.2.2.2.1), ((hb.cell (World.block_lt_of_cell? _ _ hHeld.2.2.2.2.2.2.2.2.2.1)).trans hHeld.2.2.2.2.2.2.2.2.2.1), ((hb.cell (World.block_lt_of_cell? _ _ hHeld.2.2.2.2.2.2.2.2.2.2.1)).trans hHeld.2.2.2.2.2.2.2.2.2.2.1), ((hb.cell (World.block_lt_of_cell? _ _ hHeld.2.2.2.2.2.2.2.2.2.2.2.1)).trans hHeld.2.2.2.2.2.2.2.2.2.2.2.1), ((hb.cell (World.block_lt_of_cell? _ _ hHeld.2.2.2.2.2.2.2.2.2.2.2.2.1)).trans hHeld.2.2.2.2.2.2.2.2.2.2.2.2.1), ((hb.cell (World.block_lt_of_cell? _ _ hHeld.2.2.2.2.2.2.2.2.2.2.2.2.2.1)).trans hHeld.2.2.2.2.2.2.2.2.2.2.2.2.2.1), ((hb.cell (World.block_lt_of_cell? _ _ hHeld.2.2.2.2.2.2.2.2.2.2.2.2.2.2.1)).trans hHeld.2.2.2.2.2.2.2.2.2.2.2.2.2.2.1), ((hb.cell (World.block_lt_of_cell? _ _ hHeld.2.2.2.2.2.2.2.2.2.2.2.2.2.2.2.1)).trans hHeld.2.2.2.2.2.2.2.2.2.2.2.2.2.2.2.1), ((hb.cell (World.block_lt_of_cell? _ _ hHeld.2.2.2.2.2.2.2.2.2.2.2.2.2.2.2.2.1)).trans hHeld.2.2.2.2.2.2.2.2.2.2.2.2.2.2.2.2.1), ((hb.cell (World.block_lt_of_cell? _ _ hHeld.2.2.2.2.2.2.2.2.2.2.2.2.2.2.2.2.2.1)).trans hHeld.2.2.2.2.2.2.2.2.2.2.2.2.2.2.2.2.2.1), ((hb.cell (World.block_lt_of_cell? _ _ hHeld.2.2.2.2.2.2.2.2.2.2.2.2.2.2.2.2.2.2.1)).trans hHeld.2.2.2.2.2.2.2.2.2.2.2.2.2.2.2.2.2.2.1), (bl_then hHeld.2.2.2.2.2.2.2.2.2.2.2.2.2.2.2.2.2.2.2 hb)⟩ (fun hHeld => ?_)
                    clear hK K
                    refine norm_ (a' := ?_) ?_ ?_
                    rotate_left
                    · show Act.put _ (some 160) _ = _
                      simp only [Act.put, List.setIfInBounds_toArray, List.set_cons_zero, List.set_cons_succ, i64_w, i32_w]
                      rfl
                    refine pure_ (i := 17) (N := some 161) (v := ?_) (a' := ?_) (bA 21 524287) rfl rfl (by kernel_rfl) (fun _ _ _ h => h) (Or.inl ⟨by rfl, ?_⟩) ?_ ?_
                    rotate_left
                    · intro w'
                      go_simp
                      with_reducible rfl
                    rotate_left
                    · simp only [Act.put, List.setIfInBounds_toArray, List.set_cons_zero, List.set_cons_succ, i64_w, i32_w]
                      rfl
                    refine pure_ (i := 19) (N := some 163) (v := ?_) (a' := ?_) (bA 21 1048575) rfl rfl (by kernel_rfl) (fun _ _ _ h => h) (Or.inl ⟨by rfl, ?_⟩) ?_ ?_
                    rotate_left
                    · intro w'
                      go_simp
                      with_reducible rfl
                    rotate_left
                    · simp only [Act.put, List.setIfInBounds_toArray, List.set_cons_zero, List.set_cons_succ, i64_w, i32_w]
                      rfl
                    refine pure_ (i := 20) (N := some 164) (v := ?_) (a' := ?_) (bA 21 2097151) rfl rfl (by kernel_rfl) (fun _ _ _ h => h) (Or.inl ⟨by rfl, ?_⟩) ?_ ?_
                    rotate_left
                    · intro w'
                      go_simp
                      with_reducible rfl
                    rotate_left
                    · simp only [Act.put, List.setIfInBounds_toArray, List.set_cons_zero, List.set_cons_succ, i64_w, i32_w]
                      rfl
                    refine done_ (by kernel_rfl) ?_
                    have HBE := Lib.hid hHeld.2.2.2.2.2.2.2.2.2.2.2.2.2.2.2.2.2.2.2
                    clear hHeld x0 x1 x2 x3 x4 x5 x6 x7 x8 y0 y1 y2 y3 y4 y5 y6 y7 y8 u1
                    by_cases hl : nd < ne
                    · by_cases hmx : own < ne
                      · have HMX : Hid (own < max nd ne) := Lib.hid (by omega)
                        go_wp2
                        go_ret
                        have hno : Q3 = false := by
                          rw [← HQ3.out, HLL.out]
                          exact not_all2 hlt (HOK.out false (by simp only [HD.out, decide_eq_true HMX.out]; simp))
                        exact ⟨ret_bool (by simp [hno]), bl_then HB0.out (bl_then HB.out HBE.out)⟩
                      · have HMX : Hid (¬ own < max nd ne) := Lib.hid (by omega)
                        go_wp2
                        go_roundw
                        case rel => exact ⟨k + 1, by go_num, by omega, Lib.hid (fun i h hi => by
                          rcases Nat.lt_or_ge i k with h' | h'
                          · exact HI.out i h h'
                          · obtain rfl : i = k := by omega
                            exact HOK.out true (by simp only [decide_eq_false HMX.out]; simp)), Lib.hid (bl_of HBr.out HBE.out)⟩
                        case measure => simp [intOf]; omega
                    · by_cases hmx : own < nd
                      · have HMX : Hid (own < max nd ne) := Lib.hid (by omega)
                        go_wp2
                        go_ret
                        have hno : Q3 = false := by
                          rw [← HQ3.out, HLL.out]
                          exact not_all2 hlt (HOK.out false (by simp only [HD.out, decide_eq_true HMX.out]; simp))
                        exact ⟨ret_bool (by simp [hno]), bl_then HB0.out (bl_then HB.out HBE.out)⟩
                      · have HMX : Hid (¬ own < max nd ne) := Lib.hid (by omega)
                        go_wp2
                        go_roundw
                        case rel => exact ⟨k + 1, by go_num, by omega, Lib.hid (fun i h hi => by
                          rcases Nat.lt_or_ge i k with h' | h'
                          · exact HI.out i h h'
                          · obtain rfl : i = k := by omega
                            exact HOK.out true (by simp only [decide_eq_false HMX.out]; simp)), Lib.hid (bl_of HBr.out HBE.out)⟩
                        case measure => simp [intOf]; omega
                | false =>
                  cases q2 with
                  | true =>
                    have HD : Hid (decide ((r1, false) = (r1, true)) = false) := Lib.hid (by simp)
                    refine start_ (n := 21) (S := fun w' => w'.cell? ⟨gb, 0, none⟩ = some (.slice A0 l0.length c0) ∧ w'.cell? ⟨gb, 1, none⟩ = some (.slice A1 l1.length c1) ∧ w'.cell? ⟨gb, 2, none⟩ = some (.int .i64 a2) ∧ w'.cell? ⟨gb, 3, none⟩ = some (.int .i64 a3) ∧ w'.cell? ⟨gb, 4, none⟩ = some (.int .i64 a4) ∧ w'.cell? ⟨gb, 5, none⟩ = some (.int .i64 a5) ∧ w'.cell? ⟨gb, 6, none⟩ = some (.int .i64 a6) ∧ w'.cell? ⟨gb, 7, none⟩ = some (.int .i64 a7) ∧ w'.cell? ⟨gb, 8, none⟩ = some (.int .i64 a8) ∧ w'.cell? ⟨gb + 1, 0, none⟩ = some (.slice B0 m0.length d0) ∧ w'.cell? ⟨gb + 1, 1, none⟩ = some (.slice B1 m1.length d1) ∧ w'.cell? ⟨gb + 1, 2, none⟩ = some (.int .i64 b2) ∧ w'.cell? ⟨gb + 1, 3, none⟩ = some (.int .i64 b3) ∧ w'.cell? ⟨gb + 1, 4, none⟩ = some (.int .i64 b4) ∧ w'.cell? ⟨gb + 1, 5, none⟩ = some (.int .i64 b5) ∧ w'.cell? ⟨gb + 1, 6, none⟩ = some (.int .i64 b6) ∧ w'.cell? ⟨gb + 1, 7, none⟩ = some (.int .i64 b7) ∧ w'.cell? ⟨gb + 1, 8, none⟩ = some (.int .i64 b8) ∧ w'.cell? ⟨ub, 0, none⟩ = some (.string X1) ∧ Below wr.heap.size wr w') (ds := []) (bA 21 0) (by kernel_rfl) rfl rfl ⟨x0, x1, x2, x3, x4, x5, x6, x7, x8, y0, y1, y2, y3, y4, y5, y6, y7, y8, u1, (bl_drew HBw7.out)⟩ (fun hHeld => ?_)
                    refine pure_ (i := 0) (N := some 144) (v := ?_) (a' := ?_) (bA 21 1) rfl rfl (by kernel_rfl) (fun _ _ _ h => h) (Or.inl ⟨by rfl, ?_⟩) ?_ ?_
                    rotate_left
                    · intro w'
                      go_simp
                      with_reducible rfl
                    rotate_left
                    · simp only [Act.put, List.setIfInBounds_toArray, List.set_cons_zero, List.set_cons_succ, i64_w, i32_w]
                      rfl
                    refine pure_ (i := 1) (N := some 145) (v := ?_) (a' := ?_) (bA 21 3) rfl rfl (by kernel_rfl) (fun _ _ _ h => h) (Or.inl ⟨by rfl, ?_⟩) ?_ ?_
                    rotate_left
                    · intro w'
                      go_simp
                      with_reducible rfl
                    rotate_left
                    · simp only [Act.put, List.setIfInBounds_toArray, List.set_cons_zero, List.set_cons_succ, i64_w, i32_w]
                      rfl
                    refine pure_ (i := 2) (N := some 146) (v := ?_) (a' := ?_) (bA 21 7) rfl rfl (by kernel_rfl) (fun _ _ _ h => h) (Or.inl ⟨by rfl, ?_⟩) ?_ ?_
                    rotate_left
                    · intro w'
                      go_simp
                      with_reducible rfl
                    rotate_left
                    · simp only [Act.put, List.setIfInBounds_toArray, List.set_cons_zero, List.set_cons_succ, i64_w, i32_w]
                      rfl
                    refine pure_ (i := 3) (N := some 147) (v := ?_) (a' := ?_) (bA 21 15) rfl rfl (by kernel_rfl) (fun _ _ _ h => h) (Or.inl ⟨by rfl, ?_⟩) ?_ ?_
                    rotate_left
                    · intro w'
                      go_simp
                      with_reducible rfl
                    rotate_left
                    · simp only [Act.put, List.setIfInBounds_toArray, List.set_cons_zero, List.set_cons_succ, i64_w, i32_w]
                      rfl
                    refine pure_ (i := 4) (N := some 148) (v := ?_) (a' := ?_) (bA 21 31) rfl rfl (by kernel_rfl) (fun _ _ _ h => h) (Or.inl ⟨by rfl, ?_⟩) ?_ ?_
                    rotate_left
                    · intro w'
                      go_simp
                      with_reducible rfl
                    rotate_left
                    · simp only [Act.put, List.setIfInBounds_toArray, List.set_cons_zero, List.set_cons_succ, i64_w, i32_w]
                      rfl
                    refine pure_ (i := 5) (N := some 149) (v := ?_) (a' := ?_) (bA 21 63) rfl rfl (by kernel_rfl) (fun _ _ _ h => h) (Or.inl ⟨by rfl, ?_⟩) ?_ ?_
                    rotate_left
                    · intro w'
                      go_simp
                      with_reducible rfl
                    rotate_left
                    · simp only [Act.put, List.setIfInBounds_toArray, List.set_cons_zero, List.set_cons_succ, i64_w, i32_w]
                      rfl
                    refine pure_ (i := 6) (N := some 150) (v := ?_) (a' := ?_) (bA 21 127) rfl rfl (by kernel_rfl) (fun _ _ _ h => h) (Or.inl ⟨by rfl, ?_⟩) ?_ ?_
                    rotate_left
                    · intro w'
                      go_simp
                      with_reducible rfl
                    rotate_left
                    · simp only [Act.put, List.setIfInBounds_toArray, List.set_cons_zero, List.set_cons_succ, i64_w, i32_w]
                      rfl
                    refine pure_ (i := 7) (N := some 151) (v := ?_) (a' := ?_) (bA 21 255) rfl rfl (by kernel_rfl) (fun _ _ _ h => h) (Or.inl ⟨by rfl, ?_⟩) ?_ ?_
                    rotate_left
                    · intro w'
                      go_simp
                      with_reducible rfl
                    rotate_left
                    · simp only [Act.put, List.setIfInBounds_toArray, List.set_cons_zero, List.set_cons_succ, i64_w, i32_w]
                      rfl
                    refine pure_ (i := 8) (N := some 152) (v := ?_) (a' := ?_) (bA 21 511) rfl rfl (by kernel_rfl) (fun _ _ _ h => h) (Or.inl ⟨by rfl, ?_⟩) ?_ ?_
                    rotate_left
                    · intro w'
                      go_simp
                      with_reducible rfl
                    rotate_left
                    · simp only [Act.put, List.setIfInBounds_toArray, List.set_cons_zero, List.set_cons_succ, i64_w, i32_w]
                      rfl
                    refine pure_ (i := 10) (N := some 154) (v := ?_) (a' := ?_) (bA 21 1535) rfl rfl (by kernel_rfl) (fun _ _ _ h => h) (Or.inl ⟨by rfl, ?_⟩) ?_ ?_
                    rotate_left
                    · intro w'
                      go_simp
                      with_reducible rfl
                    rotate_left
                    · simp only [Act.put, List.setIfInBounds_toArray, List.set_cons_zero, List.set_cons_succ, i64_w, i32_w]
                      rfl
                    refine pure_ (i := 14) (N := some 158) (v := ?_) (a' := ?_) (bA 21 17919) rfl rfl (by kernel_rfl) (fun _ _ _ h => h) (Or.inl ⟨by rfl, ?_⟩) ?_ ?_
                    rotate_left
                    · intro w'
                      go_simp
                      with_reducible rfl
                    rotate_left
                    · simp only [Act.put, List.setIfInBounds_toArray, List.set_cons_zero, List.set_cons_succ, i64_w, i32_w]
                      rfl
                    refine pure_ (i := 18) (N := some 162) (v := ?_) (a' := ?_) (bA 21 280063) rfl rfl (by kernel_rfl) (fun _ _ _ h => h) (Or.inl ⟨by rfl, ?_⟩) ?_ ?_
                    rotate_left
                    · intro w'
                      go_simp
                      with_reducible rfl
                    rotate_left
                    · simp only [Act.put, List.setIfInBounds_toArray, List.set_cons_zero, List.set_cons_succ, i64_w, i32_w]
                      rfl
                    refine take_ (i := 9) (N := some 153) (v := ?_) (a' := ?_) (bA 21 280575) rfl rfl (by kernel_rfl) (fun _ _ _ h => h) (Or.inl ⟨by rfl, ?_⟩) hHeld ?_ ?_
                    rotate_left
                    · rintro w' ⟨s0, s1, s2, s3, s4, s5, s6, s7, s8, s9, s10, s11, s12, s13, s14, s15, s16, s17, s18, s19⟩
                      go_simp
                      with_reducible rfl
                    rotate_left
                    · simp only [Act.put, List.setIfInBounds_toArray, List.set_cons_zero, List.set_cons_succ, i64_w, i32_w]
                      rfl
                    refine take_ (i := 11) (N := some 155) (v := ?_) (a' := ?_) (bA 21 282623) rfl rfl (by kernel_rfl) (fun _ _ _ h => h) (Or.inl ⟨by rfl, ?_⟩) hHeld ?_ ?_
                    rotate_left
                    · rintro w' ⟨s0, s1, s2, s3, s4, s5, s6, s7, s8, s9, s10, s11, s12, s13, s14, s15, s16, s17, s18, s19⟩
                      go_simp
                      with_reducible rfl
                    rotate_left
                    · simp only [Act.put, List.setIfInBounds_toArray, List.set_cons_zero, List.set_cons_succ, i64_w, i32_w]
                      rfl
                    refine take_ (i := 13) (N := some 157) (v := ?_) (a' := ?_) (bA 21 290815) rfl rfl (by kernel_rfl) (fun _ _ _ h => h) (Or.inl ⟨by rfl, ?_⟩) hHeld ?_ ?_
                    rotate_left
                    · rintro w' ⟨s0, s1, s2, s3, s4, s5, s6, s7, s8, s9, s10, s11, s12, s13, s14, s15, s16, s17, s18, s19⟩
                      go_simp
                      with_reducible rfl
                    rotate_left
                    · simp only [Act.put, List.setIfInBounds_toArray, List.set_cons_zero, List.set_cons_succ, i64_w, i32_w]
                      rfl
                    refine take_ (i := 15) (N := some 159) (v := ?_) (a' := ?_) (bA 21 323583) rfl rfl (by kernel_rfl) (fun _ _ _ h => h) (Or.inl ⟨by rfl, ?_⟩) hHeld ?_ ?_
                    rotate_left
                    · rintro w' ⟨s0, s1, s2, s3, s4, s5, s6, s7, s8, s9, s10, s11, s12, s13, s14, s15, s16, s17, s18, s19⟩
                      go_simp
                      with_reducible rfl
                    rotate_left
                    · simp only [Act.put, List.setIfInBounds_toArray, List.set_cons_zero, List.set_cons_succ, i64_w, i32_w]
                      rfl
                    refine one_ (i := 12) (N := some 156) (bA 21 327679) rfl rfl (by kernel_rfl) (by decide) (fun K hK => ?_)
                    refine goes_ Tryz.func73 (by kernel_rfl) rfl #[.agg #[.slice A0 l0.length c0, .slice A1 l1.length c1, .int .i64 a2, .int .i64 a3, .int .i64 a4, .int .i64 a5, .int .i64 a6, .int .i64 a7, .int .i64 a8], .string X1] (by rfl) rfl rfl (by simp only [List.map_toArray, List.map_cons, List.map_nil]; rfl) ?_
                    with_reducible refine (CEX.out _ (HR1.out.below (bl_then HB.out hHeld.2.2.2.2.2.2.2.2.2.2.2.2.2.2.2.2.2.2.2))).mono ?_
                    rintro e w8 ⟨rfl, hb⟩
                    refine ⟨_, rfl, ?_⟩
                    refine hK.out _ _ ⟨((hb.cell (World.block_lt_of_cell? _ _ hHeld.1)).trans hHeld.1), ((hb.cell (World.block_lt_of_cell? _ _ hHeld.2.1)).trans hHeld.2.1), ((hb.cell (World.block_lt_of_cell? _ _ hHeld.2.2.1)).trans hHeld.2.2.1), ((hb.cell (World.block_lt_of_cell? _ _ hHeld.2.2.2.1)).trans hHeld.2.2.2.1), ((hb.cell (World.block_lt_of_cell? _ _ hHeld.2.2.2.2.1)).trans hHeld.2.2.2.2.1), ((hb.cell (World.block_lt_of_cell? _ _ hHeld.2.2.2.2.2.1)).trans hHeld.2.2.2.2.2.1), ((hb.cell (World.block_lt_of_cell? _ _ hHeld.2.2.2.2.2.2.1)).trans hHeld.2.2.2.2.2.2.1), ((hb.cell (World.block_lt_of_cell? _ _ hHeld.2.2.2.2.2.2.2.1)).trans hHeld.2.2.2.2.2.2.2.1), ((hb.cell (World.block_lt_of_cell? _ _ hHeld.2.2.2.2.2.2.2.2.1)).trans hHeld.2.2.2.2.2.2.2.2.1), ((hb.cell (World.block_lt_of_cell? _ _ hHeld.2.2.2.2.2.2.2.2.2.1)).trans hHeld.2.2.2.2.2.2.2.2.2.1), ((hb.cell (World.block_lt_of_cell? _ _ hHeld.2.2.2.2.2.2.2.2.2.2.1)).trans hHeld.2.2.2.2.2.2.2.2.2.2.1), ((hb.cell (World.block_lt_of_cell? _ _ hHeld.2.2.2.2.2.2.2.2.2.2.2.1)).trans hHeld.2.2.2.2.2.2.2.2.2.2.2.1), ((hb.cell (World.block_lt_of_cell? _ _ hHeld.2.2.2.2.2.2.2.2.2.2.2.2.1)).trans hHeld.2.2.2.2.2.2.2.2.2.2.2.2.1), ((hb.cell (World.block_lt_of_cell? _ _ hHeld.2.2.2.2.2.2.2.2.2.2.2.2.2.1)).trans hHeld.2.2.2.2.2.2.2.2.2.2.2.2.2.1), ((hb.cell (World.block_lt_of_cell? _ _ hHeld.2.2.2.2.2.2.2.2.2.2.2.2.2.2.1)).trans hHeld.2.2.2.2.2.2.2.2.2.2.2.2.2.2.1), ((hb.cell (World.block_lt_of_cell? _ _ hHeld.2.2.2.2.2.2.2.2.2.2.2.2.2.2.2.1)).trans hHeld.2.2.2.2.2.2.2.2.2.2.2.2.2.2.2.1), ((hb.cell (World.block_lt_of_cell? _ _ hHeld.2.2.2.2.2.2.2.2.2.2.2.2.2.2.2.2.1)).trans hHeld.2.2.2.2.2.2.2.2.2.2.2.2.2.2.2.2.1), ((hb.cell (World.block_lt_of_cell? _ _ hHeld.2.2.2.2.2.2.2.2.2.2.2.2.2.2.2.2.2.1)).trans hHeld.2.2.2.2.2.2.2.2.2.2.2.2.2.2.2.2.2.1), ((hb.cell (World.block_lt_of_cell? _ _ hHeld.2.2.2.2.2.2.2.2.2.2.2.2.2.2.2.2.2.2.1)).trans hHeld.2.2.2.2.2.2.2.2.2.2.2.2.2.2.2.2.2.2.1), (bl_then hHeld.2.2.2.2.2.2.2.2.2.2.2.2.2.2.2.2.2.2.2 hb)⟩ (fun hHeld => ?_)
                    clear hK K
                    refine norm_ (a' := ?_) ?_ ?_
                    rotate_left
                    · show Act.put _ (some 156) _ = _
                      simp only [Act.put, List.setIfInBounds_toArray, List.set_cons_zero, List.set_cons_succ, i64_w, i32_w]
                      rfl
                    refine one_ (i := 16) (N := some 160) (bA 21 393215) rfl rfl (by kernel_rfl) (by decide) (fun K hK => ?_)
                    refine goes_ Tryz.func73 (by kernel_rfl) rfl #[.agg #[.slice B0 m0.length d0, .slice B1 m1.length d1, .int .i64 b2, .int .i64 b3, .int .i64 b4, .int .i64 b5, .int .i64 b6, .int .i64 b7, .int .i64 b8], .string X1] (by rfl) rfl rfl (by simp only [List.map_toArray, List.map_cons, List.map_nil]; rfl) ?_
                    with_reducible refine (CFX.out _ (HS1.out.below (bl_then HB.out hHeld.2.2.2.2.2.2.2.2.2.2.2.2.2.2.2.2.2.2.2))).mono ?_
                    rintro e w8 ⟨rfl, hb⟩
                    refine ⟨_, rfl, ?_⟩
                    refine hK.out _ _ ⟨((hb.cell (World.block_lt_of_cell? _ _ hHeld.1)).trans hHeld.1), ((hb.cell (World.block_lt_of_cell? _ _ hHeld.2.1)).trans hHeld.2.1), ((hb.cell (World.block_lt_of_cell? _ _ hHeld.2.2.1)).trans hHeld.2.2.1), ((hb.cell (World.block_lt_of_cell? _ _ hHeld.2.2.2.1)).trans hHeld.2.2.2.1), ((hb.cell (World.block_lt_of_cell? _ _ hHeld.2.2.2.2.1)).trans hHeld.2.2.2.2.1), ((hb.cell (World.block_lt_of_cell? _ _ hHeld.2.2.2.2.2.1)).trans hHeld.2.2.2.2.2.1), ((hb.cell (World.block_lt_of_cell? _ _ hHeld.2.2.2.2.2.2.1)).trans hHeld.2.2.2.2.2.2.1), ((hb.cell (World.block_lt_of_cell? _ _ hHeld.2.2.2.2.2.2.2.1)).trans hHeld.2.2.2.2.2.2.2.1), ((hb.cell (World.block_lt_of_cell? _ _ hHeld.2.2.2.2.2.2.2.2.1)).trans hHeld.2.2.2.2.2.2.2.2.1), ((hb.cell (World.block_lt_of_cell? _ _ hHeld.2.2.2.2.2.2.2.2.2.1)).trans hHeld.2.2.2.2.2.2.2.2.2.1), ((hb.cell (World.block_lt_of_cell? _ _ hHeld.2.2.2.2.2.2.2.2.2.2.1)).trans hHeld.2.2.2.2.2.2.2.2.2.2.1), ((hb.cell (World.block_lt_of_cell? _ _ hHeld.2.2.2.2.2.2.2.2.2.2.2.1)).trans hHeld.2.2.2.2.2.2.2.2.2.2.2.1), ((hb.cell (World.block_lt_of_cell? _ _ hHeld.2.2.2.2.2.2.2.2.2.2.2.2.1)).trans hHeld.2.2.2.2.2.2.2.2.2.2.2.2.1), ((hb.cell (World.block_lt_of_cell? _ _ hHeld.2.2.2.2.2.2.2.2.2.2.2.2.2.1)).trans hHeld.2.2.2.2.2.2.2.2.2.2.2.2.2.1), ((hb.cell (World.block_lt_of_cell? _ _ hHeld.2.2.2.2.2.2.2.2.2.2.2.2.2.2.1)).trans hHeld.2.2.2.2.2.2.2.2.2.2.2.2.2.2.1), ((hb.cell (World.block_lt_of_cell? _ _ hHeld.2.2.2.2.2.2.2.2.2.2.2.2.2.2.2.1)).trans hHeld.2.2.2.2.2.2.2.2.2.2.2.2.2.2.2.1), ((hb.cell (World.block_lt_of_cell? _ _ hHeld.2.2.2.2.2.2.2.2.2.2.2.2.2.2.2.2.1)).trans hHeld.2.2.2.2.2.2.2.2.2.2.2.2.2.2.2.2.1), ((hb.cell (World.block_lt_of_cell? _ _ hHeld.2.2.2.2.2.2.2.2.2.2.2.2.2.2.2.2.2.1)).trans hHeld.2.2.2.2.2.2.2.2.2.2.2.2.2.2.2.2.2.1), ((hb.cell (World.block_lt_of_cell? _ _ hHeld.2.2.2.2.2.2.2.2.2.2.2.2.2.2.2.2.2.2.1)).trans hHeld.2.2.2.2.2.2.2.2.2.2.2.2.2.2.2.2.2.2.1), (bl_then hHeld.2.2.2.2.2.2.2.2.2.2.2.2.2.2.2.2.2.2.2 hb)⟩ (fun hHeld => ?_)
                    clear hK K
                    refine norm_ (a' := ?_) ?_ ?_
                    rotate_left
                    · show Act.put _ (some 160) _ = _
                      simp only [Act.put, List.setIfInBounds_toArray, List.set_cons_zero, List.set_cons_succ, i64_w, i32_w]
                      rfl
                    refine pure_ (i := 17) (N := some 161) (v := ?_) (a' := ?_) (bA 21 524287) rfl rfl (by kernel_rfl) (fun _ _ _ h => h) (Or.inl ⟨by rfl, ?_⟩) ?_ ?_
                    rotate_left
                    · intro w'
                      go_simp
                      with_reducible rfl
                    rotate_left
                    · simp only [Act.put, List.setIfInBounds_toArray, List.set_cons_zero, List.set_cons_succ, i64_w, i32_w]
                      rfl
                    refine pure_ (i := 19) (N := some 163) (v := ?_) (a' := ?_) (bA 21 1048575) rfl rfl (by kernel_rfl) (fun _ _ _ h => h) (Or.inl ⟨by rfl, ?_⟩) ?_ ?_
                    rotate_left
                    · intro w'
                      go_simp
                      with_reducible rfl
                    rotate_left
                    · simp only [Act.put, List.setIfInBounds_toArray, List.set_cons_zero, List.set_cons_succ, i64_w, i32_w]
                      rfl
                    refine pure_ (i := 20) (N := some 164) (v := ?_) (a' := ?_) (bA 21 2097151) rfl rfl (by kernel_rfl) (fun _ _ _ h => h) (Or.inl ⟨by rfl, ?_⟩) ?_ ?_
                    rotate_left
                    · intro w'
                      go_simp
                      with_reducible rfl
                    rotate_left
                    · simp only [Act.put, List.setIfInBounds_toArray, List.set_cons_zero, List.set_cons_succ, i64_w, i32_w]
                      rfl
                    refine done_ (by kernel_rfl) ?_
                    have HBE := Lib.hid hHeld.2.2.2.2.2.2.2.2.2.2.2.2.2.2.2.2.2.2.2
                    clear hHeld x0 x1 x2 x3 x4 x5 x6 x7 x8 y0 y1 y2 y3 y4 y5 y6 y7 y8 u1
                    by_cases hl : nd < ne
                    · by_cases hmx : own < ne
                      · have HMX : Hid (own < max nd ne) := Lib.hid (by omega)
                        go_wp2
                        go_ret
                        have hno : Q3 = false := by
                          rw [← HQ3.out, HLL.out]
                          exact not_all2 hlt (HOK.out false (by simp only [HD.out, decide_eq_true HMX.out]; simp))
                        exact ⟨ret_bool (by simp [hno]), bl_then HB0.out (bl_then HB.out HBE.out)⟩
                      · have HMX : Hid (¬ own < max nd ne) := Lib.hid (by omega)
                        go_wp2
                        go_roundw
                        case rel => exact ⟨k + 1, by go_num, by omega, Lib.hid (fun i h hi => by
                          rcases Nat.lt_or_ge i k with h' | h'
                          · exact HI.out i h h'
                          · obtain rfl : i = k := by omega
                            exact HOK.out true (by simp only [decide_eq_false HMX.out]; simp)), Lib.hid (bl_of HBr.out HBE.out)⟩
                        case measure => simp [intOf]; omega
                    · by_cases hmx : own < nd
                      · have HMX : Hid (own < max nd ne) := Lib.hid (by omega)
                        go_wp2
                        go_ret
                        have hno : Q3 = false := by
                          rw [← HQ3.out, HLL.out]
                          exact not_all2 hlt (HOK.out false (by simp only [HD.out, decide_eq_true HMX.out]; simp))
                        exact ⟨ret_bool (by simp [hno]), bl_then HB0.out (bl_then HB.out HBE.out)⟩
                      · have HMX : Hid (¬ own < max nd ne) := Lib.hid (by omega)
                        go_wp2
                        go_roundw
                        case rel => exact ⟨k + 1, by go_num, by omega, Lib.hid (fun i h hi => by
                          rcases Nat.lt_or_ge i k with h' | h'
                          · exact HI.out i h h'
                          · obtain rfl : i = k := by omega
                            exact HOK.out true (by simp only [decide_eq_false HMX.out]; simp)), Lib.hid (bl_of HBr.out HBE.out)⟩
                        case measure => simp [intOf]; omega
                  | false =>
                    refine start_ (n := 21) (S := fun w' => w'.cell? ⟨gb, 0, none⟩ = some (.slice A0 l0.length c0) ∧ w'.cell? ⟨gb, 1, none⟩ = some (.slice A1 l1.length c1) ∧ w'.cell? ⟨gb, 2, none⟩ = some (.int .i64 a2) ∧ w'.cell? ⟨gb, 3, none⟩ = some (.int .i64 a3) ∧ w'.cell? ⟨gb, 4, none⟩ = some (.int .i64 a4) ∧ w'.cell? ⟨gb, 5, none⟩ = some (.int .i64 a5) ∧ w'.cell? ⟨gb, 6, none⟩ = some (.int .i64 a6) ∧ w'.cell? ⟨gb, 7, none⟩ = some (.int .i64 a7) ∧ w'.cell? ⟨gb, 8, none⟩ = some (.int .i64 a8) ∧ w'.cell? ⟨gb + 1, 0, none⟩ = some (.slice B0 m0.length d0) ∧ w'.cell? ⟨gb + 1, 1, none⟩ = some (.slice B1 m1.length d1) ∧ w'.cell? ⟨gb + 1, 2, none⟩ = some (.int .i64 b2) ∧ w'.cell? ⟨gb + 1, 3, none⟩ = some (.int .i64 b3) ∧ w'.cell? ⟨gb + 1, 4, none⟩ = some (.int .i64 b4) ∧ w'.cell? ⟨gb + 1, 5, none⟩ = some (.int .i64 b5) ∧ w'.cell? ⟨gb + 1, 6, none⟩ = some (.int .i64 b6) ∧ w'.cell? ⟨gb + 1, 7, none⟩ = some (.int .i64 b7) ∧ w'.cell? ⟨gb + 1, 8, none⟩ = some (.int .i64 b8) ∧ w'.cell? ⟨ub, 0, none⟩ = some (.string X1) ∧ Below wr.heap.size wr w') (ds := []) (bA 21 0) (by kernel_rfl) rfl rfl ⟨x0, x1, x2, x3, x4, x5, x6, x7, x8, y0, y1, y2, y3, y4, y5, y6, y7, y8, u1, (bl_drew HBw7.out)⟩ (fun hHeld => ?_)
                    refine pure_ (i := 0) (N := some 144) (v := ?_) (a' := ?_) (bA 21 1) rfl rfl (by kernel_rfl) (fun _ _ _ h => h) (Or.inl ⟨by rfl, ?_⟩) ?_ ?_
                    rotate_left
                    · intro w'
                      go_simp
                      with_reducible rfl
                    rotate_left
                    · simp only [Act.put, List.setIfInBounds_toArray, List.set_cons_zero, List.set_cons_succ, i64_w, i32_w]
                      rfl
                    refine pure_ (i := 1) (N := some 145) (v := ?_) (a' := ?_) (bA 21 3) rfl rfl (by kernel_rfl) (fun _ _ _ h => h) (Or.inl ⟨by rfl, ?_⟩) ?_ ?_
                    rotate_left
                    · intro w'
                      go_simp
                      with_reducible rfl
                    rotate_left
                    · simp only [Act.put, List.setIfInBounds_toArray, List.set_cons_zero, List.set_cons_succ, i64_w, i32_w]
                      rfl
                    refine pure_ (i := 2) (N := some 146) (v := ?_) (a' := ?_) (bA 21 7) rfl rfl (by kernel_rfl) (fun _ _ _ h => h) (Or.inl ⟨by rfl, ?_⟩) ?_ ?_
                    rotate_left
                    · intro w'
                      go_simp
                      with_reducible rfl
                    rotate_left
                    · simp only [Act.put, List.setIfInBounds_toArray, List.set_cons_zero, List.set_cons_succ, i64_w, i32_w]
                      rfl
                    refine pure_ (i := 3) (N := some 147) (v := ?_) (a' := ?_) (bA 21 15) rfl rfl (by kernel_rfl) (fun _ _ _ h => h) (Or.inl ⟨by rfl, ?_⟩) ?_ ?_
                    rotate_left
                    · intro w'
                      go_simp
                      with_reducible rfl
                    rotate_left
                    · simp only [Act.put, List.setIfInBounds_toArray, List.set_cons_zero, List.set_cons_succ, i64_w, i32_w]
                      rfl
                    refine pure_ (i := 4) (N := some 148) (v := ?_) (a' := ?_) (bA 21 31) rfl rfl (by kernel_rfl) (fun _ _ _ h => h) (Or.inl ⟨by rfl, ?_⟩) ?_ ?_
                    rotate_left
                    · intro w'
                      go_simp
                      with_reducible rfl
                    rotate_left
                    · simp only [Act.put, List.setIfInBounds_toArray, List.set_cons_zero, List.set_cons_succ, i64_w, i32_w]
                      rfl
                    refine pure_ (i := 5) (N := some 149) (v := ?_) (a' := ?_) (bA 21 63) rfl rfl (by kernel_rfl) (fun _ _ _ h => h) (Or.inl ⟨by rfl, ?_⟩) ?_ ?_
                    rotate_left
                    · intro w'
                      go_simp
                      with_reducible rfl
                    rotate_left
                    · simp only [Act.put, List.setIfInBounds_toArray, List.set_cons_zero, List.set_cons_succ, i64_w, i32_w]
                      rfl
                    refine pure_ (i := 6) (N := some 150) (v := ?_) (a' := ?_) (bA 21 127) rfl rfl (by kernel_rfl) (fun _ _ _ h => h) (Or.inl ⟨by rfl, ?_⟩) ?_ ?_
                    rotate_left
                    · intro w'
                      go_simp
                      with_reducible rfl
                    rotate_left
                    · simp only [Act.put, List.setIfInBounds_toArray, List.set_cons_zero, List.set_cons_succ, i64_w, i32_w]
                      rfl
                    refine pure_ (i := 7) (N := some 151) (v := ?_) (a' := ?_) (bA 21 255) rfl rfl (by kernel_rfl) (fun _ _ _ h => h) (Or.inl ⟨by rfl, ?_⟩) ?_ ?_
                    rotate_left
                    · intro w'
                      go_simp
                      with_reducible rfl
                    rotate_left
                    · simp only [Act.put, List.setIfInBounds_toArray, List.set_cons_zero, List.set_cons_succ, i64_w, i32_w]
                      rfl
                    refine pure_ (i := 8) (N := some 152) (v := ?_) (a' := ?_) (bA 21 511) rfl rfl (by kernel_rfl) (fun _ _ _ h => h) (Or.inl ⟨by rfl, ?_⟩) ?_ ?_
                    rotate_left
                    · intro w'
                      go_simp
                      with_reducible rfl
                    rotate_left
                    · simp only [Act.put, List.setIfInBounds_toArray, List.set_cons_zero, List.set_cons_succ, i64_w, i32_w]
                      rfl
                    refine pure_ (i := 9) (N := some 153) (v := undef) (a' := ?_) (bA 21 1023) rfl rfl (by kernel_rfl) (fun _ _ _ h => h) (Or.inr ⟨by rfl, rfl⟩) ?_ ?_
                    rotate_left
                    · simp only [Act.put, List.setIfInBounds_toArray, List.set_cons_zero, List.set_cons_succ, i64_w, i32_w]
                      rfl
                    refine pure_ (i := 10) (N := some 154) (v := undef) (a' := ?_) (bA 21 2047) rfl rfl (by kernel_rfl) (fun _ _ _ h => h) (Or.inr ⟨by rfl, rfl⟩) ?_ ?_
                    rotate_left
                    · simp only [Act.put, List.setIfInBounds_toArray, List.set_cons_zero, List.set_cons_succ, i64_w, i32_w]
                      rfl
                    refine pure_ (i := 11) (N := some 155) (v := undef) (a' := ?_) (bA 21 4095) rfl rfl (by kernel_rfl) (fun _ _ _ h => h) (Or.inr ⟨by rfl, rfl⟩) ?_ ?_
                    rotate_left
                    · simp only [Act.put, List.setIfInBounds_toArray, List.set_cons_zero, List.set_cons_succ, i64_w, i32_w]
                      rfl
                    refine pure_ (i := 12) (N := some 156) (v := undef) (a' := ?_) (bA 21 8191) rfl rfl (by kernel_rfl) (fun _ _ _ h => h) (Or.inr ⟨by rfl, rfl⟩) ?_ ?_
                    rotate_left
                    · simp only [Act.put, List.setIfInBounds_toArray, List.set_cons_zero, List.set_cons_succ, i64_w, i32_w]
                      rfl
                    refine pure_ (i := 13) (N := some 157) (v := undef) (a' := ?_) (bA 21 16383) rfl rfl (by kernel_rfl) (fun _ _ _ h => h) (Or.inr ⟨by rfl, rfl⟩) ?_ ?_
                    rotate_left
                    · simp only [Act.put, List.setIfInBounds_toArray, List.set_cons_zero, List.set_cons_succ, i64_w, i32_w]
                      rfl
                    refine pure_ (i := 14) (N := some 158) (v := undef) (a' := ?_) (bA 21 32767) rfl rfl (by kernel_rfl) (fun _ _ _ h => h) (Or.inr ⟨by rfl, rfl⟩) ?_ ?_
                    rotate_left
                    · simp only [Act.put, List.setIfInBounds_toArray, List.set_cons_zero, List.set_cons_succ, i64_w, i32_w]
                      rfl
                    refine pure_ (i := 15) (N := some 159) (v := undef) (a' := ?_) (bA 21 65535) rfl rfl (by kernel_rfl) (fun _ _ _ h => h) (Or.inr ⟨by rfl, rfl⟩) ?_ ?_
                    rotate_left
                    · simp only [Act.put, List.setIfInBounds_toArray, List.set_cons_zero, List.set_cons_succ, i64_w, i32_w]
                      rfl
                    refine pure_ (i := 16) (N := some 160) (v := undef) (a' := ?_) (bA 21 131071) rfl rfl (by kernel_rfl) (fun _ _ _ h => h) (Or.inr ⟨by rfl, rfl⟩) ?_ ?_
                    rotate_left
                    · simp only [Act.put, List.setIfInBounds_toArray, List.set_cons_zero, List.set_cons_succ, i64_w, i32_w]
                      rfl
                    refine pure_ (i := 17) (N := some 161) (v := undef) (a' := ?_) (bA 21 262143) rfl rfl (by kernel_rfl) (fun _ _ _ h => h) (Or.inr ⟨by rfl, rfl⟩) ?_ ?_
                    rotate_left
                    · simp only [Act.put, List.setIfInBounds_toArray, List.set_cons_zero, List.set_cons_succ, i64_w, i32_w]
                      rfl
                    refine pure_ (i := 18) (N := some 162) (v := undef) (a' := ?_) (bA 21 524287) rfl rfl (by kernel_rfl) (fun _ _ _ h => h) (Or.inr ⟨by rfl, rfl⟩) ?_ ?_
                    rotate_left
                    · simp only [Act.put, List.setIfInBounds_toArray, List.set_cons_zero, List.set_cons_succ, i64_w, i32_w]
                      rfl
                    refine pure_ (i := 19) (N := some 163) (v := undef) (a' := ?_) (bA 21 1048575) rfl rfl (by kernel_rfl) (fun _ _ _ h => h) (Or.inr ⟨by rfl, rfl⟩) ?_ ?_
                    rotate_left
                    · simp only [Act.put, List.setIfInBounds_toArray, List.set_cons_zero, List.set_cons_succ, i64_w, i32_w]
                      rfl
                    refine pure_ (i := 20) (N := some 164) (v := ?_) (a' := ?_) (bA 21 2097151) rfl rfl (by kernel_rfl) (fun _ _ _ h => h) (Or.inl ⟨by rfl, ?_⟩) ?_ ?_
                    rotate_left
                    · intro w'
                      go_simp
                      with_reducible rfl
                    rotate_left
                    · simp only [Act.put, List.setIfInBounds_toArray, List.set_cons_zero, List.set_cons_succ, i64_w, i32_w]
                      rfl
                    refine done_ (by kernel_rfl) ?_
                    have HBE := Lib.hid hHeld.2.2.2.2.2.2.2.2.2.2.2.2.2.2.2.2.2.2.2
                    clear hHeld x0 x1 x2 x3 x4 x5 x6 x7 x8 y0 y1 y2 y3 y4 y5 y6 y7 y8 u1
                    go_wp2
                    go_roundw
                    case rel => exact ⟨k + 1, by go_num, by omega, Lib.hid (fun i h hi => by
                      rcases Nat.lt_or_ge i k with h' | h'
                      · exact HI.out i h h'
                      · obtain rfl : i = k := by omega
                        exact HOK.out true (by simp)), Lib.hid (bl_of HBr.out HBE.out)⟩
                    case measure => simp [intOf]; omega
              · have HE := Lib.hid he
                have heb : (r1 != q1) = true := by simp [he]
                have heb2 : (r1 == q1) = false := beq_eq_false_iff_ne.2 he
                clear he
                have HD : Hid (decide ((r1, r2) = (q1, q2)) = false) := Lib.hid (by simp [HE.out])
                refine start_ (n := 21) (S := fun w' => w'.cell? ⟨gb, 0, none⟩ = some (.slice A0 l0.length c0) ∧ w'.cell? ⟨gb, 1, none⟩ = some (.slice A1 l1.length c1) ∧ w'.cell? ⟨gb, 2, none⟩ = some (.int .i64 a2) ∧ w'.cell? ⟨gb, 3, none⟩ = some (.int .i64 a3) ∧ w'.cell? ⟨gb, 4, none⟩ = some (.int .i64 a4) ∧ w'.cell? ⟨gb, 5, none⟩ = some (.int .i64 a5) ∧ w'.cell? ⟨gb, 6, none⟩ = some (.int .i64 a6) ∧ w'.cell? ⟨gb, 7, none⟩ = some (.int .i64 a7) ∧ w'.cell? ⟨gb, 8, none⟩ = some (.int .i64 a8) ∧ w'.cell? ⟨gb + 1, 0, none⟩ = some (.slice B0 m0.length d0) ∧ w'.cell? ⟨gb + 1, 1, none⟩ = some (.slice B1 m1.length d1) ∧ w'.cell? ⟨gb + 1, 2, none⟩ = some (.int .i64 b2) ∧ w'.cell? ⟨gb + 1, 3, none⟩ = some (.int .i64 b3) ∧ w'.cell? ⟨gb + 1, 4, none⟩ = some (.int .i64 b4) ∧ w'.cell? ⟨gb + 1, 5, none⟩ = some (.int .i64 b5) ∧ w'.cell? ⟨gb + 1, 6, none⟩ = some (.int .i64 b6) ∧ w'.cell? ⟨gb + 1, 7, none⟩ = some (.int .i64 b7) ∧ w'.cell? ⟨gb + 1, 8, none⟩ = some (.int .i64 b8) ∧ w'.cell? ⟨ub, 0, none⟩ = some (.string X1) ∧ Below wr.heap.size wr w') (ds := []) (bA 21 0) (by kernel_rfl) rfl rfl ⟨x0, x1, x2, x3, x4, x5, x6, x7, x8, y0, y1, y2, y3, y4, y5, y6, y7, y8, u1, (bl_drew HBw7.out)⟩ (fun hHeld => ?_)
                refine pure_ (i := 0) (N := some 144) (v := ?_) (a' := ?_) (bA 21 1) rfl rfl (by kernel_rfl) (fun _ _ _ h => h) (Or.inl ⟨by rfl, ?_⟩) ?_ ?_
                rotate_left
                · intro w'
                  go_simp
                  with_reducible rfl
                rotate_left
                · simp only [Act.put, List.setIfInBounds_toArray, List.set_cons_zero, List.set_cons_succ, i64_w, i32_w]
                  rfl
                refine pure_ (i := 1) (N := some 145) (v := ?_) (a' := ?_) (bA 21 3) rfl rfl (by kernel_rfl) (fun _ _ _ h => h) (Or.inl ⟨by rfl, ?_⟩) ?_ ?_
                rotate_left
                · intro w'
                  go_simp
                  with_reducible rfl
                rotate_left
                · simp only [Act.put, List.setIfInBounds_toArray, List.set_cons_zero, List.set_cons_succ, i64_w, i32_w]
                  rfl
                refine pure_ (i := 2) (N := some 146) (v := ?_) (a' := ?_) (bA 21 7) rfl rfl (by kernel_rfl) (fun _ _ _ h => h) (Or.inl ⟨by rfl, ?_⟩) ?_ ?_
                rotate_left
                · intro w'
                  go_simp
                  with_reducible rfl
                rotate_left
                · simp only [Act.put, List.setIfInBounds_toArray, List.set_cons_zero, List.set_cons_succ, i64_w, i32_w]
                  rfl
                refine pure_ (i := 3) (N := some 147) (v := ?_) (a' := ?_) (bA 21 15) rfl rfl (by kernel_rfl) (fun _ _ _ h => h) (Or.inl ⟨by rfl, ?_⟩) ?_ ?_
                rotate_left
                · intro w'
                  go_simp
                  with_reducible rfl
                rotate_left
                · simp only [Act.put, List.setIfInBounds_toArray, List.set_cons_zero, List.set_cons_succ, i64_w, i32_w]
                  rfl
                refine pure_ (i := 4) (N := some 148) (v := undef) (a' := ?_) (bA 21 31) rfl rfl (by kernel_rfl) (fun _ _ _ h => h) (Or.inr ⟨by rfl, rfl⟩) ?_ ?_
                rotate_left
                · simp only [Act.put, List.setIfInBounds_toArray, List.set_cons_zero, List.set_cons_succ, i64_w, i32_w]
                  rfl
                refine pure_ (i := 5) (N := some 149) (v := undef) (a' := ?_) (bA 21 63) rfl rfl (by kernel_rfl) (fun _ _ _ h => h) (Or.inr ⟨by rfl, rfl⟩) ?_ ?_
                rotate_left
                · simp only [Act.put, List.setIfInBounds_toArray, List.set_cons_zero, List.set_cons_succ, i64_w, i32_w]
                  rfl
                refine pure_ (i := 6) (N := some 150) (v := undef) (a' := ?_) (bA 21 127) rfl rfl (by kernel_rfl) (fun _ _ _ h => h) (Or.inr ⟨by rfl, rfl⟩) ?_ ?_
                rotate_left
                · simp only [Act.put, List.setIfInBounds_toArray, List.set_cons_zero, List.set_cons_succ, i64_w, i32_w]
                  rfl
                refine pure_ (i := 7) (N := some 151) (v := ?_) (a' := ?_) (bA 21 255) rfl rfl (by kernel_rfl) (fun _ _ _ h => h) (Or.inl ⟨by rfl, ?_⟩) ?_ ?_
                rotate_left
                · intro w'
                  go_simp
                  with_reducible rfl
                rotate_left
                · simp only [Act.put, List.setIfInBounds_toArray, List.set_cons_zero, List.set_cons_succ, i64_w, i32_w]
                  rfl
                refine pure_ (i := 8) (N := some 152) (v := ?_) (a' := ?_) (bA 21 511) rfl rfl (by kernel_rfl) (fun _ _ _ h => h) (Or.inl ⟨by rfl, ?_⟩) ?_ ?_
                rotate_left
                · intro w'
                  go_simp
                  with_reducible rfl
                rotate_left
                · simp only [Act.put, List.setIfInBounds_toArray, List.set_cons_zero, List.set_cons_succ, i64_w, i32_w]
                  rfl
                refine pure_ (i := 10) (N := some 154) (v := ?_) (a' := ?_) (bA 21 1535) rfl rfl (by kernel_rfl) (fun _ _ _ h => h) (Or.inl ⟨by rfl, ?_⟩) ?_ ?_
                rotate_left
                · intro w'
                  go_simp
                  with_reducible rfl
                rotate_left
                · simp only [Act.put, List.setIfInBounds_toArray, List.set_cons_zero, List.set_cons_succ, i64_w, i32_w]
                  rfl
                refine pure_ (i := 14) (N := some 158) (v := ?_) (a' := ?_) (bA 21 17919) rfl rfl (by kernel_rfl) (fun _ _ _ h => h) (Or.inl ⟨by rfl, ?_⟩) ?_ ?_
                rotate_left
                · intro w'
                  go_simp
                  with_reducible rfl
                rotate_left
                · simp only [Act.put, List.setIfInBounds_toArray, List.set_cons_zero, List.set_cons_succ, i64_w, i32_w]
                  rfl
                refine pure_ (i := 18) (N := some 162) (v := ?_) (a' := ?_) (bA 21 280063) rfl rfl (by kernel_rfl) (fun _ _ _ h => h) (Or.inl ⟨by rfl, ?_⟩) ?_ ?_
                rotate_left
                · intro w'
                  go_simp
                  with_reducible rfl
                rotate_left
                · simp only [Act.put, List.setIfInBounds_toArray, List.set_cons_zero, List.set_cons_succ, i64_w, i32_w]
                  rfl
                refine take_ (i := 9) (N := some 153) (v := ?_) (a' := ?_) (bA 21 280575) rfl rfl (by kernel_rfl) (fun _ _ _ h => h) (Or.inl ⟨by rfl, ?_⟩) hHeld ?_ ?_
                rotate_left
                · rintro w' ⟨s0, s1, s2, s3, s4, s5, s6, s7, s8, s9, s10, s11, s12, s13, s14, s15, s16, s17, s18, s19⟩
                  go_simp
                  with_reducible rfl
                rotate_left
                · simp only [Act.put, List.setIfInBounds_toArray, List.set_cons_zero, List.set_cons_succ, i64_w, i32_w]
                  rfl
                refine take_ (i := 11) (N := some 155) (v := ?_) (a' := ?_) (bA 21 282623) rfl rfl (by kernel_rfl) (fun _ _ _ h => h) (Or.inl ⟨by rfl, ?_⟩) hHeld ?_ ?_
                rotate_left
                · rintro w' ⟨s0, s1, s2, s3, s4, s5, s6, s7, s8, s9, s10, s11, s12, s13, s14, s15, s16, s17, s18, s19⟩
                  go_simp
                  with_reducible rfl
                rotate_left
                · simp only [Act.put, List.setIfInBounds_toArray, List.set_cons_zero, List.set_cons_succ, i64_w, i32_w]
                  rfl
                refine take_ (i := 13) (N := some 157) (v := ?_) (a' := ?_) (bA 21 290815) rfl rfl (by kernel_rfl) (fun _ _ _ h => h) (Or.inl ⟨by rfl, ?_⟩) hHeld ?_ ?_
                rotate_left
                · rintro w' ⟨s0, s1, s2, s3, s4, s5, s6, s7, s8, s9, s10, s11, s12, s13, s14, s15, s16, s17, s18, s19⟩
                  go_simp
                  with_reducible rfl
                rotate_left
                · simp only [Act.put, List.setIfInBounds_toArray, List.set_cons_zero, List.set_cons_succ, i64_w, i32_w]
                  rfl
                refine take_ (i := 15) (N := some 159) (v := ?_) (a' := ?_) (bA 21 323583) rfl rfl (by kernel_rfl) (fun _ _ _ h => h) (Or.inl ⟨by rfl, ?_⟩) hHeld ?_ ?_
                rotate_left
                · rintro w' ⟨s0, s1, s2, s3, s4, s5, s6, s7, s8, s9, s10, s11, s12, s13, s14, s15, s16, s17, s18, s19⟩
                  go_simp
                  with_reducible rfl
                rotate_left
                · simp only [Act.put, List.setIfInBounds_toArray, List.set_cons_zero, List.set_cons_succ, i64_w, i32_w]
                  rfl
                refine one_ (i := 12) (N := some 156) (bA 21 327679) rfl rfl (by kernel_rfl) (by decide) (fun K hK => ?_)
                refine goes_ Tryz.func73 (by kernel_rfl) rfl #[.agg #[.slice A0 l0.length c0, .slice A1 l1.length c1, .int .i64 a2, .int .i64 a3, .int .i64 a4, .int .i64 a5, .int .i64 a6, .int .i64 a7, .int .i64 a8], .string X1] (by rfl) rfl rfl (by simp only [List.map_toArray, List.map_cons, List.map_nil]; rfl) ?_
                with_reducible refine (CEX.out _ (HR1.out.below (bl_then HB.out hHeld.2.2.2.2.2.2.2.2.2.2.2.2.2.2.2.2.2.2.2))).mono ?_
                rintro e w8 ⟨rfl, hb⟩
                refine ⟨_, rfl, ?_⟩
                refine hK.out _ _ ⟨((hb.cell (World.block_lt_of_cell? _ _ hHeld.1)).trans hHeld.1), ((hb.cell (World.block_lt_of_cell? _ _ hHeld.2.1)).trans hHeld.2.1), ((hb.cell (World.block_lt_of_cell? _ _ hHeld.2.2.1)).trans hHeld.2.2.1), ((hb.cell (World.block_lt_of_cell? _ _ hHeld.2.2.2.1)).trans hHeld.2.2.2.1), ((hb.cell (World.block_lt_of_cell? _ _ hHeld.2.2.2.2.1)).trans hHeld.2.2.2.2.1), ((hb.cell (World.block_lt_of_cell? _ _ hHeld.2.2.2.2.2.1)).trans hHeld.2.2.2.2.2.1), ((hb.cell (World.block_lt_of_cell? _ _ hHeld.2.2.2.2.2.2.1)).trans hHeld.2.2.2.2.2.2.1), ((hb.cell (World.block_lt_of_cell? _ _ hHeld.2.2.2.2.2.2.2.1)).trans hHeld.2.2.2.2.2.2.2.1), ((hb.cell (World.block_lt_of_cell? _ _ hHeld.2.2.2.2.2.2.2.2.1)).trans hHeld.2.2.2.2.2.2.2.2.1), ((hb.cell (World.block_lt_of_cell? _ _ hHeld.2.2.2.2.2.2.2.2.2.1)).trans hHeld.2.2.2.2.2.2.2.2.2.1), ((hb.cell (World.block_lt_of_cell? _ _ hHeld.2.2.2.2.2.2.2.2.2.2.1)).trans hHeld.2.2.2.2.2.2.2.2.2.2.1), ((hb.cell (World.block_lt_of_cell? _ _ hHeld.2.2.2.2.2.2.2.2.2.2.2.1)).trans hHeld.2.2.2.2.2.2.2.2.2.2.2.1), ((hb.cell (World.block_lt_of_cell? _ _ hHeld.2.2.2.2.2.2.2.2.2.2.2.2.1)).trans hHeld.2.2.2.2.2.2.2.2.2.2.2.2.1), ((hb.cell (World.block_lt_of_cell? _ _ hHeld.2.2.2.2.2.2.2.2.2.2.2.2.2.1)).trans hHeld.2.2.2.2.2.2.2.2.2.2.2.2.2.1), ((hb.cell (World.block_lt_of_cell? _ _ hHeld.2.2.2.2.2.2.2.2.2.2.2.2.2.2.1)).trans hHeld.2.2.2.2.2.2.2.2.2.2.2.2.2.2.1), ((hb.cell (World.block_lt_of_cell? _ _ hHeld.2.2.2.2.2.2.2.2.2.2.2.2.2.2.2.1)).trans hHeld.2.2.2.2.2.2.2.2.2.2.2.2.2.2.2.1), ((hb.cell (World.block_lt_of_cell? _ _ hHeld.2.2.2.2.2.2.2.2.2.2.2.2.2.2.2.2.1)).trans hHeld.2.2.2.2.2.2.2.2.2.2.2.2.2.2.2.2.1), ((hb.cell (World.block_lt_of_cell? _ _ hHeld.2.2.2.2.2.2.2.2.2.2.2.2.2.2.2.2.2.1)).trans hHeld.2.2.2.2.2.2.2.2.2.2.2.2.2.2.2.2.2.1), ((hb.cell (World.block_lt_of_cell? _ _ hHeld.2.2.2.2.2.2.2.2.2.2.2.2.2.2.2.2.2.2.1)).trans hHeld.2.2.2.2.2.2.2.2.2.2.2.2.2.2.2.2.2.2.1), (bl_then hHeld.2.2.2.2.2.2.2.2.2.2.2.2.2.2.2.2.2.2.2 hb)⟩ (fun hHeld => ?_)
                clear hK K
                refine norm_ (a' := ?_) ?_ ?_
                rotate_left
                · show Act.put _ (some 156) _ = _
                  simp only [Act.put, List.setIfInBounds_toArray, List.set_cons_zero, List.set_cons_succ, i64_w, i32_w]
                  rfl
                refine one_ (i := 16) (N := some 160) (bA 21 393215) rfl rfl (by kernel_rfl) (by decide) (fun K hK => ?_)
                refine goes_ Tryz.func73 (by kernel_rfl) rfl #[.agg #[.slice B0 m0.length d0, .slice B1 m1.length d1, .int .i64 b2, .int .i64 b3, .int .i64 b4, .int .i64 b5, .int .i64 b6, .int .i64 b7, .int .i64 b8], .string X1] (by rfl) rfl rfl (by simp only [List.map_toArray, List.map_cons, List.map_nil]; rfl) ?_
                with_reducible refine (CFX.out _ (HS1.out.below (bl_then HB.out hHeld.2.2.2.2.2.2.2.2.2.2.2.2.2.2.2.2.2.2.2))).mono ?_
                rintro e w8 ⟨rfl, hb⟩
                refine ⟨_, rfl, ?_⟩
                refine hK.out _ _ ⟨((hb.cell (World.block_lt_of_cell? _ _ hHeld.1)).trans hHeld.1), ((hb.cell (World.block_lt_of_cell? _ _ hHeld.2.1)).trans hHeld.2.1), ((hb.cell (World.block_lt_of_cell? _ _ hHeld.2.2.1)).trans hHeld.2.2.1), ((hb.cell (World.block_lt_of_cell? _ _ hHeld.2.2.2.1)).trans hHeld.2.2.2.1), ((hb.cell (World.block_lt_of_cell? _ _ hHeld.2.2.2.2.1)).trans hHeld.2.2.2.2.1), ((hb.cell (World.block_lt_of_cell? _ _ hHeld.2.2.2.2.2.1)).trans hHeld.2.2.2.2.2.1), ((hb.cell (World.block_lt_of_cell? _ _ hHeld.2.2.2.2.2.2.1)).trans hHeld.2.2.2.2.2.2.1), ((hb.cell (World.block_lt_of_cell? _ _ hHeld.2.2.2.2.2.2.2.1)).trans hHeld.2.2.2.2.2.2.2.1), ((hb.cell (World.block_lt_of_cell? _ _ hHeld.2.2.2.2.2.2.2.2.1)).trans hHeld.2.2.2.2.2.2.2.2.1), ((hb.cell (World.block_lt_of_cell? _ _ hHeld.2.2.2.2.2.2.2.2.2.1)).trans hHeld.2.2.2.2.2.2.2.2.2.1), ((hb.cell (World.block_lt_of_cell? _ _ hHeld.2.2.2.2.2.2.2.2.2.2.1)).trans hHeld.2.2.2.2.2.2.2.2.2.2.1), ((hb.cell (World.block_lt_of_cell? _ _ hHeld.2.2.2.2.2.2.2.2.2.2.2.1)).trans hHeld.2.2.2.2.2.2.2.2.2.2.2.1), ((hb.cell (World.block_lt_of_cell? _ _ hHeld.2.2.2.2.2.2.2.2.2.2.2.2.1)).trans hHeld.2.2.2.2.2.2.2.2.2.2.2.2.1), ((hb.cell (World.block_lt_of_cell? _ _ hHeld.2.2.2.2.2.2.2.2.2.2.2.2.2.1)).trans hHeld.2.2.2.2.2.2.2.2.2.2.2.2.2.1), ((hb.cell (World.block_lt_of_cell? _ _ hHeld.2.2.2.2.2.2.2.2.2.2.2.2.2.2.1)).trans hHeld.2.2.2.2.2.2.2.2.2.2.2.2.2.2.1), ((hb.cell (World.block_lt_of_cell? _ _ hHeld.2.2.2.2.2.2.2.2.2.2.2.2.2.2.2.1)).trans hHeld.2.2.2.2.2.2.2.2.2.2.2.2.2.2.2.1), ((hb.cell (World.block_lt_of_cell? _ _ hHeld.2.2.2.2.2.2.2.2.2.2.2.2.2.2.2.2.1)).trans hHeld.2.2.2.2.2.2.2.2.2.2.2.2.2.2.2.2.1), ((hb.cell (World.block_lt_of_cell? _ _ hHeld.2.2.2.2.2.2.2.2.2.2.2.2.2.2.2.2.2.1)).trans hHeld.2.2.2.2.2.2.2.2.2.2.2.2.2.2.2.2.2.1), ((hb.cell (World.block_lt_of_cell? _ _ hHeld.2.2.2.2.2.2.2.2.2.2.2.2.2.2.2.2.2.2.1)).trans hHeld.2.2.2.2.2.2.2.2.2.2.2.2.2.2.2.2.2.2.1), (bl_then hHeld.2.2.2.2.2.2.2.2.2.2.2.2.2.2.2.2.2.2.2 hb)⟩ (fun hHeld => ?_)
                clear hK K
                refine norm_ (a' := ?_) ?_ ?_
                rotate_left
                · show Act.put _ (some 160) _ = _
                  simp only [Act.put, List.setIfInBounds_toArray, List.set_cons_zero, List.set_cons_succ, i64_w, i32_w]
                  rfl
                refine pure_ (i := 17) (N := some 161) (v := ?_) (a' := ?_) (bA 21 524287) rfl rfl (by kernel_rfl) (fun _ _ _ h => h) (Or.inl ⟨by rfl, ?_⟩) ?_ ?_
                rotate_left
                · intro w'
                  go_simp
                  with_reducible rfl
                rotate_left
                · simp only [Act.put, List.setIfInBounds_toArray, List.set_cons_zero, List.set_cons_succ, i64_w, i32_w]
                  rfl
                refine pure_ (i := 19) (N := some 163) (v := ?_) (a' := ?_) (bA 21 1048575) rfl rfl (by kernel_rfl) (fun _ _ _ h => h) (Or.inl ⟨by rfl, ?_⟩) ?_ ?_
                rotate_left
                · intro w'
                  go_simp
                  with_reducible rfl
                rotate_left
                · simp only [Act.put, List.setIfInBounds_toArray, List.set_cons_zero, List.set_cons_succ, i64_w, i32_w]
                  rfl
                refine pure_ (i := 20) (N := some 164) (v := ?_) (a' := ?_) (bA 21 2097151) rfl rfl (by kernel_rfl) (fun _ _ _ h => h) (Or.inl ⟨by rfl, ?_⟩) ?_ ?_
                rotate_left
                · intro w'
                  go_simp
                  with_reducible rfl
                rotate_left
                · simp only [Act.put, List.setIfInBounds_toArray, List.set_cons_zero, List.set_cons_succ, i64_w, i32_w]
                  rfl
                refine done_ (by kernel_rfl) ?_
                have HBE := Lib.hid hHeld.2.2.2.2.2.2.2.2.2.2.2.2.2.2.2.2.2.2.2
                clear hHeld x0 x1 x2 x3 x4 x5 x6 x7 x8 y0 y1 y2 y3 y4 y5 y6 y7 y8 u1
                by_cases hl : nd < ne
                · by_cases hmx : own < ne
                  · have HMX : Hid (own < max nd ne) := Lib.hid (by omega)
                    go_wp2
                    go_ret
                    have hno : Q3 = false := by
                      rw [← HQ3.out, HLL.out]
                      exact not_all2 hlt (HOK.out false (by simp only [HD.out, decide_eq_true HMX.out]; simp))
                    exact ⟨ret_bool (by simp [hno]), bl_then HB0.out (bl_then HB.out HBE.out)⟩
                  · have HMX : Hid (¬ own < max nd ne) := Lib.hid (by omega)
                    go_wp2
                    go_roundw
                    case rel => exact ⟨k + 1, by go_num, by omega, Lib.hid (fun i h hi => by
                      rcases Nat.lt_or_ge i k with h' | h'
                      · exact HI.out i h h'
                      · obtain rfl : i = k := by omega
                        exact HOK.out true (by simp only [decide_eq_false HMX.out]; simp)), Lib.hid (bl_of HBr.out HBE.out)⟩
                    case measure => simp [intOf]; omega
                · by_cases hmx : own < nd
                  · have HMX : Hid (own < max nd ne) := Lib.hid (by omega)
                    go_wp2
                    go_ret
                    have hno : Q3 = false := by
                      rw [← HQ3.out, HLL.out]
                      exact not_all2 hlt (HOK.out false (by simp only [HD.out, decide_eq_true HMX.out]; simp))
                    exact ⟨ret_bool (by simp [hno]), bl_then HB0.out (bl_then HB.out HBE.out)⟩
                  · have HMX : Hid (¬ own < max nd ne) := Lib.hid (by omega)
                    go_wp2
                    go_roundw
                    case rel => exact ⟨k + 1, by go_num, by omega, Lib.hid (fun i h hi => by
                      rcases Nat.lt_or_ge i k with h' | h'
                      · exact HI.out i h h'
                      · obtain rfl : i = k := by omega
                        exact HOK.out true (by simp only [decide_eq_false HMX.out]; simp)), Lib.hid (bl_of HBr.out HBE.out)⟩
                    case measure => simp [intOf]; omega
              -- }}Q3
            · obtain rfl : k = LL.length := by omega
              have HZ3 : Hid (Q3 = true) := Lib.hid (by rw [← HQ3.out, HLL.out]; exact all_of2 HI.out)
              have HB := Lib.hid (bl_then HB5.out HBr.out)
              clear HI HB5 HBr HRD HLL
              go_wp2
              go_ret
              exact ⟨ret_bool (by rw [HA.out, HZ2.out, HZ3.out]; rfl), bl_then HB0.out HB.out⟩
end Go.Proofs.YtpflimghkckpjaaGreatDoor.H
