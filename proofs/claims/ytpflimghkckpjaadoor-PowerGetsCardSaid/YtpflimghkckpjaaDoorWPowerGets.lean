/-
The walk of PowerGets: it answers true at light levels and at all others. Conditions: the four lists are read in memory; utf8's tables in memory.
-/
import Derived.Test.YtpflimghkckpjaaDoorHPow4
import Derived.Test.YtpflimghkckpjaaDoorHChange
import Derived.Test.YtpflimghkckpjaaDoorPLight
import Derived.Test.YtpflimghkckpjaaDoorPStays
import Derived.Test.YtpflimghkckpjaaDoorZ6
set_option linter.unusedVariables false
set_option linter.unusedSimpArgs false
namespace Go.Proofs.YtpflimghkckpjaaDoor.H
open Go.RowKit Go.Proofs.YtpflimghkckpjaaDoorW.PrintWords Go.Proofs.YtpflimghkckpjaaDoorW.PrintLast

set_option maxHeartbeats 8000000 in
set_option maxRecDepth 100000 in
theorem PowerGets_walk (A0 : Option Addr) (c0 : Nat) (A1 : Option Addr) (c1 : Nat) (a2 a3 a4 a5 a6 a7 a8 : Int) (B0 : Option Addr) (d0 : Nat) (B1 : Option Addr) (d1 : Nat) (b2 b3 b4 b5 b6 b7 b8 : Int) (l0 l1 m0 m1 : List (ByteArray × Int)) (u v typ : ByteArray) (st : Bool) (w : World) (r s : Bool) (hr0 : Rd w A0 l0) (hr1 : Rd w A1 l1) (hq0 : Rd w B0 m0) (hq1 : Rd w B1 m1)
    (hL : ∀ W, Below w.heap.size w W → Calls Tryd.prog 7 #[.agg #[.slice A0 l0.length c0, .slice A1 l1.length c1, .int .i64 a2, .int .i64 a3, .int .i64 a4, .int .i64 a5, .int .i64 a6, .int .i64 a7, .int .i64 a8]] W fun e w' => e = .returned (.bool r) ∧ Below W.heap.size W w')
    (hM : ∀ W, Below w.heap.size w W → Calls Tryd.prog 7 #[.agg #[.slice B0 m0.length d0, .slice B1 m1.length d1, .int .i64 b2, .int .i64 b3, .int .i64 b4, .int .i64 b5, .int .i64 b6, .int .i64 b7, .int .i64 b8]] W fun e w' => e = .returned (.bool s) ∧ Below W.heap.size W w')
    (hk : r = true → l0.length ≤ 30 ∧ l1.length ≤ 30 ∧ (∀ p ∈ l0, p.1.size ≤ 300) ∧ (∀ p ∈ l1, p.1.size ≤ 300))
    (hj : s = true → m0.length ≤ 30 ∧ m1.length ≤ 30 ∧ (∀ p ∈ m0, p.1.size ≤ 300) ∧ (∀ p ∈ m1, p.1.size ≤ 300)) (hT : Tab w) :
    Calls Tryd.prog 3 #[.agg #[.slice A0 l0.length c0, .slice A1 l1.length c1, .int .i64 a2, .int .i64 a3, .int .i64 a4, .int .i64 a5, .int .i64 a6, .int .i64 a7, .int .i64 a8], .agg #[.slice B0 m0.length d0, .slice B1 m1.length d1, .int .i64 b2, .int .i64 b3, .int .i64 b4, .int .i64 b5, .int .i64 b6, .int .i64 b7, .int .i64 b8], .string u, .string v, .string typ, .bool st] w fun e w' => e = .returned (.bool true) ∧ Below w.heap.size w w' := by
  have hu := Tryd.underlying25
  go_enter Tryd.func3, Tryd.ntmps3
  go_wp2_with fail
  obtain ⟨hB0, hC0, hC1⟩ := boxed2 w #[.slice A0 l0.length c0, .slice A1 l1.length c1, .int .i64 a2, .int .i64 a3, .int .i64 a4, .int .i64 a5, .int .i64 a6, .int .i64 a7, .int .i64 a8] 25 #[.slice B0 m0.length d0, .slice B1 m1.length d1, .int .i64 b2, .int .i64 b3, .int .i64 b4, .int .i64 b5, .int .i64 b6, .int .i64 b7, .int .i64 b8] 25
  generalize (w.alloc (.cells #[.slice A0 l0.length c0, .slice A1 l1.length c1, .int .i64 a2, .int .i64 a3, .int .i64 a4, .int .i64 a5, .int .i64 a6, .int .i64 a7, .int .i64 a8] 25)).alloc (.cells #[.slice B0 m0.length d0, .slice B1 m1.length d1, .int .i64 b2, .int .i64 b3, .int .i64 b4, .int .i64 b5, .int .i64 b6, .int .i64 b7, .int .i64 b8] 25) = W at hB0 hC0 hC1 ⊢
  have HR0 := Lib.hid (hr0.below hB0)
  have HR1 := Lib.hid (hr1.below hB0)
  have HS0 := Lib.hid (hq0.below hB0)
  have HS1 := Lib.hid (hq1.below hB0)
  have HT := Lib.hid (hT.below hB0)
  have HL := Lib.hid (fun V (h : Below W.heap.size W V) => hL V (bl_then hB0 h))
  have HM := Lib.hid (fun V (h : Below W.heap.size W V) => hM V (bl_then hB0 h))
  have HB0 := Lib.hid hB0
  have HC0 := Lib.hid hC0
  have HC1 := Lib.hid hC1
  have HK := Lib.hid hk
  have HJ := Lib.hid hj
  clear hr0 hr1 hq0 hq1 hT hL hM hB0 hC0 hC1 hk hj
  generalize w.heap.size = gb at HC0 HC1 ⊢
  refine (Z.outlawlaw11_lives.calls true _ (by decide +kernel : Z.outlawlaw11_lives.f = some true)).mono ?_
  rintro e w1 ⟨rfl, hb⟩
  have HB := Lib.hid hb
  clear hb
  have x := nine HC0.out HB.out
  have x0 := x 0 _ rfl
  have x1 := x 1 _ rfl
  have x2 := x 2 _ rfl
  have x3 := x 3 _ rfl
  have x4 := x 4 _ rfl
  have x5 := x 5 _ rfl
  have x6 := x 6 _ rfl
  have x7 := x 7 _ rfl
  have x8 := x 8 _ rfl
  clear x
  go_wp2_with fail
  refine (HL.out _ HB.out).mono ?_
  rintro e w2 ⟨rfl, hb⟩
  have HB2 := Lib.hid (bl_then HB.out hb)
  clear hb HB x0 x1 x2 x3 x4 x5 x6 x7 x8 HL
  cases r with
  | false =>
    go_wp2
    go_ret
    exact ⟨rfl, bl_then HB0.out HB2.out⟩
  | true =>
  have y := nine HC1.out HB2.out
  have y0 := y 0 _ rfl
  have y1 := y 1 _ rfl
  have y2 := y 2 _ rfl
  have y3 := y 3 _ rfl
  have y4 := y 4 _ rfl
  have y5 := y 5 _ rfl
  have y6 := y 6 _ rfl
  have y7 := y 7 _ rfl
  have y8 := y 8 _ rfl
  clear y
  go_wp2_with fail
  refine (HM.out _ HB2.out).mono ?_
  rintro e w3 ⟨rfl, hb⟩
  have HB3 := Lib.hid (bl_then HB2.out hb)
  clear hb HB2 y0 y1 y2 y3 y4 y5 y6 y7 y8 HM
  cases s with
  | false =>
    go_wp2
    go_ret
    exact ⟨rfl, bl_then HB0.out HB3.out⟩
  | true =>
  obtain ⟨n0, n1, s0, s1⟩ := HK.out (by simp)
  obtain ⟨k0, k1, t0, t1⟩ := HJ.out (by simp)
  have s0' : ∀ p ∈ l0, p.1.size ≤ 9223372036854775807 := fun p hp => Nat.le_trans (s0 p hp) (by decide)
  have s1' : ∀ p ∈ l1, p.1.size ≤ 9223372036854775807 := fun p hp => Nat.le_trans (s1 p hp) (by decide)
  have t0' : ∀ p ∈ m0, p.1.size ≤ 9223372036854775807 := fun p hp => Nat.le_trans (t0 p hp) (by decide)
  have t1' : ∀ p ∈ m1, p.1.size ≤ 9223372036854775807 := fun p hp => Nat.le_trans (t1 p hp) (by decide)
  have j0 : l0.length ≤ 1000000 := by omega
  have j1 : l1.length ≤ 1000000 := by omega
  have i0 : m0.length ≤ 1000000 := by omega
  have i1 : m1.length ≤ 1000000 := by omega
  clear HK HJ n0 n1 s0 s1 k0 k1 t0 t1
  have CC := Lib.hid (fun V h h' g g' hT => change_any A0 c0 A1 c1 a2 a3 a4 a5 a6 a7 a8 B0 d0 B1 d1 b2 b3 b4 b5 b6 b7 b8 u l0 l1 m0 m1 V h h' g g' s0' s1' t0' t1' j0 j1 i0 i1 hT)
  have CKO := Lib.hid (fun V h h' hT => Check_any A0 c0 A1 c1 a2 a3 a4 a5 a6 a7 a8 l0 l1 V h h' s0' s1' hT)
  have CKN := Lib.hid (fun V h h' hT => Check_any B0 d0 B1 d1 b2 b3 b4 b5 b6 b7 b8 m0 m1 V h h' t0' t1' hT)
  have COu := Lib.hid (fun V h => Of_any A0 l0.length c0 A1 l1.length c1 a2 a3 a4 a5 a6 a7 a8 l0 u V h j0 rfl)
  have COv := Lib.hid (fun V h => Of_any A0 l0.length c0 A1 l1.length c1 a2 a3 a4 a5 a6 a7 a8 l0 v V h j0 rfl)
  have CNu := Lib.hid (fun V h => Of_any B0 m0.length d0 B1 m1.length d1 b2 b3 b4 b5 b6 b7 b8 m0 u V h i0 rfl)
  have CNv := Lib.hid (fun V h => Of_any B0 m0.length d0 B1 m1.length d1 b2 b3 b4 b5 b6 b7 b8 m0 v V h i0 rfl)
  have CDo := Lib.hid (fun V h => Need_any A0 l0.length c0 A1 l1.length c1 a2 a3 a4 a5 a6 a7 a8 l1 typ st V h j1 rfl)
  have CDn := Lib.hid (fun V h => Need_any B0 m0.length d0 B1 m1.length d1 b2 b3 b4 b5 b6 b7 b8 m1 typ st V h i1 rfl)
  have HTL := Lib.hid (fun h => change_tells (l0 := l0) (l1 := l1) (a2 := a2) (a3 := a3) (a4 := a4) (a5 := a5) (a6 := a6) (a7 := a7) (a8 := a8) (m0 := m0) (m1 := m1) (b2 := b2) (b3 := b3) (b4 := b4) (b5 := b5) (b6 := b6) (b7 := b7) (b8 := b8) (u := u) h v typ st)
  clear s0' s1' t0' t1' j0 j1 i0 i1
  generalize changeB l0 l1 a2 a3 a4 a5 a6 a7 a8 m0 m1 b2 b3 b4 b5 b6 b7 b8 u = Q at CC HTL
  generalize rightB l0 l1 a2 a3 a4 a5 a6 a7 a8 = R1 at CKO HTL
  generalize rightB m0 m1 b2 b3 b4 b5 b6 b7 b8 = R2 at CKN HTL
  generalize ofS l0 a2 u = own at COu HTL
  generalize ofS l0 a2 v = na at COv HTL
  generalize ofS m0 b2 u = nn at CNu HTL
  generalize ofS m0 b2 v = nb at CNv HTL
  generalize needS l1 a3 a4 typ st = nc at CDo HTL
  generalize needS m1 b3 b4 typ st = nd at CDn HTL
  by_cases hu1 : 300 < u.size
  · go_wp2
    go_ret
    exact ⟨rfl, bl_then HB0.out HB3.out⟩
  by_cases hv1 : 300 < v.size
  · go_wp2
    go_ret
    exact ⟨rfl, bl_then HB0.out HB3.out⟩
  by_cases ht1 : 300 < typ.size
  · go_wp2
    go_ret
    exact ⟨rfl, bl_then HB0.out HB3.out⟩
  have x := nine HC0.out HB3.out
  have x0 := x 0 _ rfl
  have x1 := x 1 _ rfl
  have x2 := x 2 _ rfl
  have x3 := x 3 _ rfl
  have x4 := x 4 _ rfl
  have x5 := x 5 _ rfl
  have x6 := x 6 _ rfl
  have x7 := x 7 _ rfl
  have x8 := x 8 _ rfl
  clear x
  have y := nine HC1.out HB3.out
  have y0 := y 0 _ rfl
  have y1 := y 1 _ rfl
  have y2 := y 2 _ rfl
  have y3 := y 3 _ rfl
  have y4 := y 4 _ rfl
  have y5 := y 5 _ rfl
  have y6 := y 6 _ rfl
  have y7 := y 7 _ rfl
  have y8 := y 8 _ rfl
  clear y
  go_wp2_with fail
  refine (CC.out _ (HR0.out.below HB3.out) (HR1.out.below HB3.out) (HS0.out.below HB3.out) (HS1.out.below HB3.out) (HT.out.below HB3.out)).mono ?_
  rintro e w4 ⟨rfl, hb⟩
  have HB4 := Lib.hid (bl_then HB3.out hb)
  clear hb HB3 CC x0 x1 x2 x3 x4 x5 x6 x7 x8 y0 y1 y2 y3 y4 y5 y6 y7 y8
  cases Q with
  | false =>
    go_wp2
    go_ret
    exact ⟨rfl, bl_then HB0.out HB4.out⟩
  | true =>
  obtain ⟨rfl, rfl, fA, fB, fC, fD, fE⟩ := HTL.out (by simp)
  clear HTL
  have FA := Lib.hid fA
  have FB := Lib.hid fB
  have FC := Lib.hid fC
  have FD := Lib.hid fD
  have FE := Lib.hid fE
  clear fA fB fC fD fE
  have x := nine HC0.out HB4.out
  have x0 := x 0 _ rfl
  have x1 := x 1 _ rfl
  have x2 := x 2 _ rfl
  have x3 := x 3 _ rfl
  have x4 := x 4 _ rfl
  have x5 := x 5 _ rfl
  have x6 := x 6 _ rfl
  have x7 := x 7 _ rfl
  have x8 := x 8 _ rfl
  clear x
  go_wp2_with fail
  refine (COu.out _ (HR0.out.below HB4.out)).mono ?_
  rintro e w5 ⟨rfl, hb⟩
  have HB5 := Lib.hid (bl_then HB4.out hb)
  clear hb HB4 COu x0 x1 x2 x3 x4 x5 x6 x7 x8
  have x := nine HC0.out HB5.out
  have x0 := x 0 _ rfl
  have x1 := x 1 _ rfl
  have x2 := x 2 _ rfl
  have x3 := x 3 _ rfl
  have x4 := x 4 _ rfl
  have x5 := x 5 _ rfl
  have x6 := x 6 _ rfl
  have x7 := x 7 _ rfl
  have x8 := x 8 _ rfl
  clear x
  have y := nine HC1.out HB5.out
  have y0 := y 0 _ rfl
  have y1 := y 1 _ rfl
  have y2 := y 2 _ rfl
  have y3 := y 3 _ rfl
  have y4 := y 4 _ rfl
  have y5 := y 5 _ rfl
  have y6 := y 6 _ rfl
  have y7 := y 7 _ rfl
  have y8 := y 8 _ rfl
  clear y
  go_wp2
  refine start_ (n := 8) (S := fun w' => w'.cell? ⟨gb, 0, none⟩ = some (.slice A0 l0.length c0) ∧ w'.cell? ⟨gb, 1, none⟩ = some (.slice A1 l1.length c1) ∧ w'.cell? ⟨gb, 2, none⟩ = some (.int .i64 a2) ∧ w'.cell? ⟨gb, 3, none⟩ = some (.int .i64 a3) ∧ w'.cell? ⟨gb, 4, none⟩ = some (.int .i64 a4) ∧ w'.cell? ⟨gb, 5, none⟩ = some (.int .i64 a5) ∧ w'.cell? ⟨gb, 6, none⟩ = some (.int .i64 a6) ∧ w'.cell? ⟨gb, 7, none⟩ = some (.int .i64 a7) ∧ w'.cell? ⟨gb, 8, none⟩ = some (.int .i64 a8) ∧ w'.cell? ⟨gb + 1, 0, none⟩ = some (.slice B0 m0.length d0) ∧ w'.cell? ⟨gb + 1, 1, none⟩ = some (.slice B1 m1.length d1) ∧ w'.cell? ⟨gb + 1, 2, none⟩ = some (.int .i64 b2) ∧ w'.cell? ⟨gb + 1, 3, none⟩ = some (.int .i64 b3) ∧ w'.cell? ⟨gb + 1, 4, none⟩ = some (.int .i64 b4) ∧ w'.cell? ⟨gb + 1, 5, none⟩ = some (.int .i64 b5) ∧ w'.cell? ⟨gb + 1, 6, none⟩ = some (.int .i64 b6) ∧ w'.cell? ⟨gb + 1, 7, none⟩ = some (.int .i64 b7) ∧ w'.cell? ⟨gb + 1, 8, none⟩ = some (.int .i64 b8) ∧ Below W.heap.size W w') (ds := []) (bA 8 0) (by kernel_rfl) rfl rfl ⟨x0, x1, x2, x3, x4, x5, x6, x7, x8, y0, y1, y2, y3, y4, y5, y6, y7, y8, (bl_drew HB5.out)⟩ (fun hHeld => ?_)
  refine pure_ (i := 1) (N := some 52) (v := ?_) (a' := ?_) (bA 8 2) rfl rfl (by kernel_rfl) (fun _ _ _ h => h) (Or.inl ⟨by rfl, ?_⟩) ?_ ?_
  rotate_left
  · intro w'
    go_simp
    with_reducible rfl
  rotate_left
  · simp only [Act.put, List.setIfInBounds_toArray, List.set_cons_zero, List.set_cons_succ, i64_w, i32_w]
    rfl
  refine pure_ (i := 4) (N := some 55) (v := ?_) (a' := ?_) (bA 8 18) rfl rfl (by kernel_rfl) (fun _ _ _ h => h) (Or.inl ⟨by rfl, ?_⟩) ?_ ?_
  rotate_left
  · intro w'
    go_simp
    with_reducible rfl
  rotate_left
  · simp only [Act.put, List.setIfInBounds_toArray, List.set_cons_zero, List.set_cons_succ, i64_w, i32_w]
    rfl
  refine take_ (i := 0) (N := some 51) (v := ?_) (a' := ?_) (bA 8 19) rfl rfl (by kernel_rfl) (fun _ _ _ h => h) (Or.inl ⟨by rfl, ?_⟩) hHeld ?_ ?_
  rotate_left
  · rintro w' ⟨s0, s1, s2, s3, s4, s5, s6, s7, s8, s9, s10, s11, s12, s13, s14, s15, s16, s17, s18⟩
    go_simp
    with_reducible rfl
  rotate_left
  · simp only [Act.put, List.setIfInBounds_toArray, List.set_cons_zero, List.set_cons_succ, i64_w, i32_w]
    rfl
  refine take_ (i := 3) (N := some 54) (v := ?_) (a' := ?_) (bA 8 27) rfl rfl (by kernel_rfl) (fun _ _ _ h => h) (Or.inl ⟨by rfl, ?_⟩) hHeld ?_ ?_
  rotate_left
  · rintro w' ⟨s0, s1, s2, s3, s4, s5, s6, s7, s8, s9, s10, s11, s12, s13, s14, s15, s16, s17, s18⟩
    go_simp
    with_reducible rfl
  rotate_left
  · simp only [Act.put, List.setIfInBounds_toArray, List.set_cons_zero, List.set_cons_succ, i64_w, i32_w]
    rfl
  refine one_ (i := 2) (N := some 53) (bA 8 31) rfl rfl (by kernel_rfl) (by decide) (fun K hK => ?_)
  refine goes_ Tryd.func9 (by kernel_rfl) rfl #[.agg #[.slice A0 l0.length c0, .slice A1 l1.length c1, .int .i64 a2, .int .i64 a3, .int .i64 a4, .int .i64 a5, .int .i64 a6, .int .i64 a7, .int .i64 a8], .string v] (by rfl) rfl rfl (by simp only [List.map_toArray, List.map_cons, List.map_nil]; rfl) ?_
  with_reducible refine (COv.out _ (HR0.out.below hHeld.2.2.2.2.2.2.2.2.2.2.2.2.2.2.2.2.2.2)).mono ?_
  rintro e w9 ⟨rfl, hb⟩
  refine ⟨_, rfl, ?_⟩
  refine hK.out _ _ ⟨((hb.cell (World.block_lt_of_cell? _ _ hHeld.1)).trans hHeld.1), ((hb.cell (World.block_lt_of_cell? _ _ hHeld.2.1)).trans hHeld.2.1), ((hb.cell (World.block_lt_of_cell? _ _ hHeld.2.2.1)).trans hHeld.2.2.1), ((hb.cell (World.block_lt_of_cell? _ _ hHeld.2.2.2.1)).trans hHeld.2.2.2.1), ((hb.cell (World.block_lt_of_cell? _ _ hHeld.2.2.2.2.1)).trans hHeld.2.2.2.2.1), ((hb.cell (World.block_lt_of_cell? _ _ hHeld.2.2.2.2.2.1)).trans hHeld.2.2.2.2.2.1), ((hb.cell (World.block_lt_of_cell? _ _ hHeld.2.2.2.2.2.2.1)).trans hHeld.2.2.2.2.2.2.1), ((hb.cell (World.block_lt_of_cell? _ _ hHeld.2.2.2.2.2.2.2.1)).trans hHeld.2.2.2.2.2.2.2.1), ((hb.cell (World.block_lt_of_cell? _ _ hHeld.2.2.2.2.2.2.2.2.1)).trans hHeld.2.2.2.2.2.2.2.2.1), ((hb.cell (World.block_lt_of_cell? _ _ hHeld.2.2.2.2.2.2.2.2.2.1)).trans hHeld.2.2.2.2.2.2.2.2.2.1), ((hb.cell (World.block_lt_of_cell? _ _ hHeld.2.2.2.2.2.2.2.2.2.2.1)).trans hHeld.2.2.2.2.2.2.2.2.2.2.1), ((hb.cell (World.block_lt_of_cell? _ _ hHeld.2.2.2.2.2.2.2.2.2.2.2.1)).trans hHeld.2.2.2.2.2.2.2.2.2.2.2.1), ((hb.cell (World.block_lt_of_cell? _ _ hHeld.2.2.2.2.2.2.2.2.2.2.2.2.1)).trans hHeld.2.2.2.2.2.2.2.2.2.2.2.2.1), ((hb.cell (World.block_lt_of_cell? _ _ hHeld.2.2.2.2.2.2.2.2.2.2.2.2.2.1)).trans hHeld.2.2.2.2.2.2.2.2.2.2.2.2.2.1), ((hb.cell (World.block_lt_of_cell? _ _ hHeld.2.2.2.2.2.2.2.2.2.2.2.2.2.2.1)).trans hHeld.2.2.2.2.2.2.2.2.2.2.2.2.2.2.1), ((hb.cell (World.block_lt_of_cell? _ _ hHeld.2.2.2.2.2.2.2.2.2.2.2.2.2.2.2.1)).trans hHeld.2.2.2.2.2.2.2.2.2.2.2.2.2.2.2.1), ((hb.cell (World.block_lt_of_cell? _ _ hHeld.2.2.2.2.2.2.2.2.2.2.2.2.2.2.2.2.1)).trans hHeld.2.2.2.2.2.2.2.2.2.2.2.2.2.2.2.2.1), ((hb.cell (World.block_lt_of_cell? _ _ hHeld.2.2.2.2.2.2.2.2.2.2.2.2.2.2.2.2.2.1)).trans hHeld.2.2.2.2.2.2.2.2.2.2.2.2.2.2.2.2.2.1), (bl_then hHeld.2.2.2.2.2.2.2.2.2.2.2.2.2.2.2.2.2.2 hb)⟩ (fun hHeld => ?_)
  clear hK K
  refine norm_ (a' := ?_) ?_ ?_
  rotate_left
  · show Act.put _ (some 53) _ = _
    simp only [Act.put, List.setIfInBounds_toArray, List.set_cons_zero, List.set_cons_succ, i64_w, i32_w]
    rfl
  refine one_ (i := 5) (N := some 56) (bA 8 63) rfl rfl (by kernel_rfl) (by decide) (fun K hK => ?_)
  refine goes_ Tryd.func9 (by kernel_rfl) rfl #[.agg #[.slice B0 m0.length d0, .slice B1 m1.length d1, .int .i64 b2, .int .i64 b3, .int .i64 b4, .int .i64 b5, .int .i64 b6, .int .i64 b7, .int .i64 b8], .string v] (by rfl) rfl rfl (by simp only [List.map_toArray, List.map_cons, List.map_nil]; rfl) ?_
  with_reducible refine (CNv.out _ (HS0.out.below hHeld.2.2.2.2.2.2.2.2.2.2.2.2.2.2.2.2.2.2)).mono ?_
  rintro e w9 ⟨rfl, hb⟩
  refine ⟨_, rfl, ?_⟩
  refine hK.out _ _ ⟨((hb.cell (World.block_lt_of_cell? _ _ hHeld.1)).trans hHeld.1), ((hb.cell (World.block_lt_of_cell? _ _ hHeld.2.1)).trans hHeld.2.1), ((hb.cell (World.block_lt_of_cell? _ _ hHeld.2.2.1)).trans hHeld.2.2.1), ((hb.cell (World.block_lt_of_cell? _ _ hHeld.2.2.2.1)).trans hHeld.2.2.2.1), ((hb.cell (World.block_lt_of_cell? _ _ hHeld.2.2.2.2.1)).trans hHeld.2.2.2.2.1), ((hb.cell (World.block_lt_of_cell? _ _ hHeld.2.2.2.2.2.1)).trans hHeld.2.2.2.2.2.1), ((hb.cell (World.block_lt_of_cell? _ _ hHeld.2.2.2.2.2.2.1)).trans hHeld.2.2.2.2.2.2.1), ((hb.cell (World.block_lt_of_cell? _ _ hHeld.2.2.2.2.2.2.2.1)).trans hHeld.2.2.2.2.2.2.2.1), ((hb.cell (World.block_lt_of_cell? _ _ hHeld.2.2.2.2.2.2.2.2.1)).trans hHeld.2.2.2.2.2.2.2.2.1), ((hb.cell (World.block_lt_of_cell? _ _ hHeld.2.2.2.2.2.2.2.2.2.1)).trans hHeld.2.2.2.2.2.2.2.2.2.1), ((hb.cell (World.block_lt_of_cell? _ _ hHeld.2.2.2.2.2.2.2.2.2.2.1)).trans hHeld.2.2.2.2.2.2.2.2.2.2.1), ((hb.cell (World.block_lt_of_cell? _ _ hHeld.2.2.2.2.2.2.2.2.2.2.2.1)).trans hHeld.2.2.2.2.2.2.2.2.2.2.2.1), ((hb.cell (World.block_lt_of_cell? _ _ hHeld.2.2.2.2.2.2.2.2.2.2.2.2.1)).trans hHeld.2.2.2.2.2.2.2.2.2.2.2.2.1), ((hb.cell (World.block_lt_of_cell? _ _ hHeld.2.2.2.2.2.2.2.2.2.2.2.2.2.1)).trans hHeld.2.2.2.2.2.2.2.2.2.2.2.2.2.1), ((hb.cell (World.block_lt_of_cell? _ _ hHeld.2.2.2.2.2.2.2.2.2.2.2.2.2.2.1)).trans hHeld.2.2.2.2.2.2.2.2.2.2.2.2.2.2.1), ((hb.cell (World.block_lt_of_cell? _ _ hHeld.2.2.2.2.2.2.2.2.2.2.2.2.2.2.2.1)).trans hHeld.2.2.2.2.2.2.2.2.2.2.2.2.2.2.2.1), ((hb.cell (World.block_lt_of_cell? _ _ hHeld.2.2.2.2.2.2.2.2.2.2.2.2.2.2.2.2.1)).trans hHeld.2.2.2.2.2.2.2.2.2.2.2.2.2.2.2.2.1), ((hb.cell (World.block_lt_of_cell? _ _ hHeld.2.2.2.2.2.2.2.2.2.2.2.2.2.2.2.2.2.1)).trans hHeld.2.2.2.2.2.2.2.2.2.2.2.2.2.2.2.2.2.1), (bl_then hHeld.2.2.2.2.2.2.2.2.2.2.2.2.2.2.2.2.2.2 hb)⟩ (fun hHeld => ?_)
  clear hK K
  refine norm_ (a' := ?_) ?_ ?_
  rotate_left
  · show Act.put _ (some 56) _ = _
    simp only [Act.put, List.setIfInBounds_toArray, List.set_cons_zero, List.set_cons_succ, i64_w, i32_w]
    rfl
  refine pure_ (i := 6) (N := some 14) (v := ?_) (a' := ?_) (bA 8 127) rfl rfl (by kernel_rfl) (fun _ _ _ h => h) (Or.inl ⟨by rfl, ?_⟩) ?_ ?_
  rotate_left
  · intro w'
    go_simp
    with_reducible rfl
  rotate_left
  · simp only [Act.put, List.setIfInBounds_toArray, List.set_cons_zero, List.set_cons_succ, i64_w, i32_w]
    rfl
  refine pure_ (i := 7) (N := some 15) (v := ?_) (a' := ?_) (bA 8 255) rfl rfl (by kernel_rfl) (fun _ _ _ h => h) (Or.inl ⟨by rfl, ?_⟩) ?_ ?_
  rotate_left
  · intro w'
    go_simp
    with_reducible rfl
  rotate_left
  · simp only [Act.put, List.setIfInBounds_toArray, List.set_cons_zero, List.set_cons_succ, i64_w, i32_w]
    rfl
  refine done_ (by kernel_rfl) ?_
  have HB6 := Lib.hid hHeld.2.2.2.2.2.2.2.2.2.2.2.2.2.2.2.2.2.2
  clear hHeld x0 x1 x2 x3 x4 x5 x6 x7 x8 y0 y1 y2 y3 y4 y5 y6 y7 y8 HB5
  have x := nine HC0.out HB6.out
  have x0 := x 0 _ rfl
  have x1 := x 1 _ rfl
  have x2 := x 2 _ rfl
  have x3 := x 3 _ rfl
  have x4 := x 4 _ rfl
  have x5 := x 5 _ rfl
  have x6 := x 6 _ rfl
  have x7 := x 7 _ rfl
  have x8 := x 8 _ rfl
  clear x
  have y := nine HC1.out HB6.out
  have y0 := y 0 _ rfl
  have y1 := y 1 _ rfl
  have y2 := y 2 _ rfl
  have y3 := y 3 _ rfl
  have y4 := y 4 _ rfl
  have y5 := y 5 _ rfl
  have y6 := y 6 _ rfl
  have y7 := y 7 _ rfl
  have y8 := y 8 _ rfl
  clear y
  go_wp2
  refine start_ (n := 10) (S := fun w' => w'.cell? ⟨gb, 0, none⟩ = some (.slice A0 l0.length c0) ∧ w'.cell? ⟨gb, 1, none⟩ = some (.slice A1 l1.length c1) ∧ w'.cell? ⟨gb, 2, none⟩ = some (.int .i64 a2) ∧ w'.cell? ⟨gb, 3, none⟩ = some (.int .i64 a3) ∧ w'.cell? ⟨gb, 4, none⟩ = some (.int .i64 a4) ∧ w'.cell? ⟨gb, 5, none⟩ = some (.int .i64 a5) ∧ w'.cell? ⟨gb, 6, none⟩ = some (.int .i64 a6) ∧ w'.cell? ⟨gb, 7, none⟩ = some (.int .i64 a7) ∧ w'.cell? ⟨gb, 8, none⟩ = some (.int .i64 a8) ∧ w'.cell? ⟨gb + 1, 0, none⟩ = some (.slice B0 m0.length d0) ∧ w'.cell? ⟨gb + 1, 1, none⟩ = some (.slice B1 m1.length d1) ∧ w'.cell? ⟨gb + 1, 2, none⟩ = some (.int .i64 b2) ∧ w'.cell? ⟨gb + 1, 3, none⟩ = some (.int .i64 b3) ∧ w'.cell? ⟨gb + 1, 4, none⟩ = some (.int .i64 b4) ∧ w'.cell? ⟨gb + 1, 5, none⟩ = some (.int .i64 b5) ∧ w'.cell? ⟨gb + 1, 6, none⟩ = some (.int .i64 b6) ∧ w'.cell? ⟨gb + 1, 7, none⟩ = some (.int .i64 b7) ∧ w'.cell? ⟨gb + 1, 8, none⟩ = some (.int .i64 b8) ∧ Below W.heap.size W w') (ds := []) (bA 10 0) (by kernel_rfl) rfl rfl ⟨x0, x1, x2, x3, x4, x5, x6, x7, x8, y0, y1, y2, y3, y4, y5, y6, y7, y8, (bl_drew HB6.out)⟩ (fun hHeld => ?_)
  refine pure_ (i := 1) (N := some 58) (v := ?_) (a' := ?_) (bA 10 2) rfl rfl (by kernel_rfl) (fun _ _ _ h => h) (Or.inl ⟨by rfl, ?_⟩) ?_ ?_
  rotate_left
  · intro w'
    go_simp
    with_reducible rfl
  rotate_left
  · simp only [Act.put, List.setIfInBounds_toArray, List.set_cons_zero, List.set_cons_succ, i64_w, i32_w]
    rfl
  refine pure_ (i := 2) (N := some 59) (v := ?_) (a' := ?_) (bA 10 6) rfl rfl (by kernel_rfl) (fun _ _ _ h => h) (Or.inl ⟨by rfl, ?_⟩) ?_ ?_
  rotate_left
  · intro w'
    go_simp
    with_reducible rfl
  rotate_left
  · simp only [Act.put, List.setIfInBounds_toArray, List.set_cons_zero, List.set_cons_succ, i64_w, i32_w]
    rfl
  refine pure_ (i := 5) (N := some 62) (v := ?_) (a' := ?_) (bA 10 38) rfl rfl (by kernel_rfl) (fun _ _ _ h => h) (Or.inl ⟨by rfl, ?_⟩) ?_ ?_
  rotate_left
  · intro w'
    go_simp
    with_reducible rfl
  rotate_left
  · simp only [Act.put, List.setIfInBounds_toArray, List.set_cons_zero, List.set_cons_succ, i64_w, i32_w]
    rfl
  refine pure_ (i := 6) (N := some 63) (v := ?_) (a' := ?_) (bA 10 102) rfl rfl (by kernel_rfl) (fun _ _ _ h => h) (Or.inl ⟨by rfl, ?_⟩) ?_ ?_
  rotate_left
  · intro w'
    go_simp
    with_reducible rfl
  rotate_left
  · simp only [Act.put, List.setIfInBounds_toArray, List.set_cons_zero, List.set_cons_succ, i64_w, i32_w]
    rfl
  refine take_ (i := 0) (N := some 57) (v := ?_) (a' := ?_) (bA 10 103) rfl rfl (by kernel_rfl) (fun _ _ _ h => h) (Or.inl ⟨by rfl, ?_⟩) hHeld ?_ ?_
  rotate_left
  · rintro w' ⟨s0, s1, s2, s3, s4, s5, s6, s7, s8, s9, s10, s11, s12, s13, s14, s15, s16, s17, s18⟩
    go_simp
    with_reducible rfl
  rotate_left
  · simp only [Act.put, List.setIfInBounds_toArray, List.set_cons_zero, List.set_cons_succ, i64_w, i32_w]
    rfl
  refine take_ (i := 4) (N := some 61) (v := ?_) (a' := ?_) (bA 10 119) rfl rfl (by kernel_rfl) (fun _ _ _ h => h) (Or.inl ⟨by rfl, ?_⟩) hHeld ?_ ?_
  rotate_left
  · rintro w' ⟨s0, s1, s2, s3, s4, s5, s6, s7, s8, s9, s10, s11, s12, s13, s14, s15, s16, s17, s18⟩
    go_simp
    with_reducible rfl
  rotate_left
  · simp only [Act.put, List.setIfInBounds_toArray, List.set_cons_zero, List.set_cons_succ, i64_w, i32_w]
    rfl
  refine one_ (i := 3) (N := some 60) (bA 10 127) rfl rfl (by kernel_rfl) (by decide) (fun K hK => ?_)
  refine goes_ Tryd.func10 (by kernel_rfl) rfl #[.agg #[.slice A0 l0.length c0, .slice A1 l1.length c1, .int .i64 a2, .int .i64 a3, .int .i64 a4, .int .i64 a5, .int .i64 a6, .int .i64 a7, .int .i64 a8], .string typ, .bool st] (by rfl) rfl rfl (by simp only [List.map_toArray, List.map_cons, List.map_nil]; rfl) ?_
  with_reducible refine (CDo.out _ (HR1.out.below hHeld.2.2.2.2.2.2.2.2.2.2.2.2.2.2.2.2.2.2)).mono ?_
  rintro e w9 ⟨rfl, hb⟩
  refine ⟨_, rfl, ?_⟩
  refine hK.out _ _ ⟨((hb.cell (World.block_lt_of_cell? _ _ hHeld.1)).trans hHeld.1), ((hb.cell (World.block_lt_of_cell? _ _ hHeld.2.1)).trans hHeld.2.1), ((hb.cell (World.block_lt_of_cell? _ _ hHeld.2.2.1)).trans hHeld.2.2.1), ((hb.cell (World.block_lt_of_cell? _ _ hHeld.2.2.2.1)).trans hHeld.2.2.2.1), ((hb.cell (World.block_lt_of_cell? _ _ hHeld.2.2.2.2.1)).trans hHeld.2.2.2.2.1), ((hb.cell (World.block_lt_of_cell? _ _ hHeld.2.2.2.2.2.1)).trans hHeld.2.2.2.2.2.1), ((hb.cell (World.block_lt_of_cell? _ _ hHeld.2.2.2.2.2.2.1)).trans hHeld.2.2.2.2.2.2.1), ((hb.cell (World.block_lt_of_cell? _ _ hHeld.2.2.2.2.2.2.2.1)).trans hHeld.2.2.2.2.2.2.2.1), ((hb.cell (World.block_lt_of_cell? _ _ hHeld.2.2.2.2.2.2.2.2.1)).trans hHeld.2.2.2.2.2.2.2.2.1), ((hb.cell (World.block_lt_of_cell? _ _ hHeld.2.2.2.2.2.2.2.2.2.1)).trans hHeld.2.2.2.2.2.2.2.2.2.1), ((hb.cell (World.block_lt_of_cell? _ _ hHeld.2.2.2.2.2.2.2.2.2.2.1)).trans hHeld.2.2.2.2.2.2.2.2.2.2.1), ((hb.cell (World.block_lt_of_cell? _ _ hHeld.2.2.2.2.2.2.2.2.2.2.2.1)).trans hHeld.2.2.2.2.2.2.2.2.2.2.2.1), ((hb.cell (World.block_lt_of_cell? _ _ hHeld.2.2.2.2.2.2.2.2.2.2.2.2.1)).trans hHeld.2.2.2.2.2.2.2.2.2.2.2.2.1), ((hb.cell (World.block_lt_of_cell? _ _ hHeld.2.2.2.2.2.2.2.2.2.2.2.2.2.1)).trans hHeld.2.2.2.2.2.2.2.2.2.2.2.2.2.1), ((hb.cell (World.block_lt_of_cell? _ _ hHeld.2.2.2.2.2.2.2.2.2.2.2.2.2.2.1)).trans hHeld.2.2.2.2.2.2.2.2.2.2.2.2.2.2.1), ((hb.cell (World.block_lt_of_cell? _ _ hHeld.2.2.2.2.2.2.2.2.2.2.2.2.2.2.2.1)).trans hHeld.2.2.2.2.2.2.2.2.2.2.2.2.2.2.2.1), ((hb.cell (World.block_lt_of_cell? _ _ hHeld.2.2.2.2.2.2.2.2.2.2.2.2.2.2.2.2.1)).trans hHeld.2.2.2.2.2.2.2.2.2.2.2.2.2.2.2.2.1), ((hb.cell (World.block_lt_of_cell? _ _ hHeld.2.2.2.2.2.2.2.2.2.2.2.2.2.2.2.2.2.1)).trans hHeld.2.2.2.2.2.2.2.2.2.2.2.2.2.2.2.2.2.1), (bl_then hHeld.2.2.2.2.2.2.2.2.2.2.2.2.2.2.2.2.2.2 hb)⟩ (fun hHeld => ?_)
  clear hK K
  refine norm_ (a' := ?_) ?_ ?_
  rotate_left
  · show Act.put _ (some 60) _ = _
    simp only [Act.put, List.setIfInBounds_toArray, List.set_cons_zero, List.set_cons_succ, i64_w, i32_w]
    rfl
  refine one_ (i := 7) (N := some 64) (bA 10 255) rfl rfl (by kernel_rfl) (by decide) (fun K hK => ?_)
  refine goes_ Tryd.func10 (by kernel_rfl) rfl #[.agg #[.slice B0 m0.length d0, .slice B1 m1.length d1, .int .i64 b2, .int .i64 b3, .int .i64 b4, .int .i64 b5, .int .i64 b6, .int .i64 b7, .int .i64 b8], .string typ, .bool st] (by rfl) rfl rfl (by simp only [List.map_toArray, List.map_cons, List.map_nil]; rfl) ?_
  with_reducible refine (CDn.out _ (HS1.out.below hHeld.2.2.2.2.2.2.2.2.2.2.2.2.2.2.2.2.2.2)).mono ?_
  rintro e w9 ⟨rfl, hb⟩
  refine ⟨_, rfl, ?_⟩
  refine hK.out _ _ ⟨((hb.cell (World.block_lt_of_cell? _ _ hHeld.1)).trans hHeld.1), ((hb.cell (World.block_lt_of_cell? _ _ hHeld.2.1)).trans hHeld.2.1), ((hb.cell (World.block_lt_of_cell? _ _ hHeld.2.2.1)).trans hHeld.2.2.1), ((hb.cell (World.block_lt_of_cell? _ _ hHeld.2.2.2.1)).trans hHeld.2.2.2.1), ((hb.cell (World.block_lt_of_cell? _ _ hHeld.2.2.2.2.1)).trans hHeld.2.2.2.2.1), ((hb.cell (World.block_lt_of_cell? _ _ hHeld.2.2.2.2.2.1)).trans hHeld.2.2.2.2.2.1), ((hb.cell (World.block_lt_of_cell? _ _ hHeld.2.2.2.2.2.2.1)).trans hHeld.2.2.2.2.2.2.1), ((hb.cell (World.block_lt_of_cell? _ _ hHeld.2.2.2.2.2.2.2.1)).trans hHeld.2.2.2.2.2.2.2.1), ((hb.cell (World.block_lt_of_cell? _ _ hHeld.2.2.2.2.2.2.2.2.1)).trans hHeld.2.2.2.2.2.2.2.2.1), ((hb.cell (World.block_lt_of_cell? _ _ hHeld.2.2.2.2.2.2.2.2.2.1)).trans hHeld.2.2.2.2.2.2.2.2.2.1), ((hb.cell (World.block_lt_of_cell? _ _ hHeld.2.2.2.2.2.2.2.2.2.2.1)).trans hHeld.2.2.2.2.2.2.2.2.2.2.1), ((hb.cell (World.block_lt_of_cell? _ _ hHeld.2.2.2.2.2.2.2.2.2.2.2.1)).trans hHeld.2.2.2.2.2.2.2.2.2.2.2.1), ((hb.cell (World.block_lt_of_cell? _ _ hHeld.2.2.2.2.2.2.2.2.2.2.2.2.1)).trans hHeld.2.2.2.2.2.2.2.2.2.2.2.2.1), ((hb.cell (World.block_lt_of_cell? _ _ hHeld.2.2.2.2.2.2.2.2.2.2.2.2.2.1)).trans hHeld.2.2.2.2.2.2.2.2.2.2.2.2.2.1), ((hb.cell (World.block_lt_of_cell? _ _ hHeld.2.2.2.2.2.2.2.2.2.2.2.2.2.2.1)).trans hHeld.2.2.2.2.2.2.2.2.2.2.2.2.2.2.1), ((hb.cell (World.block_lt_of_cell? _ _ hHeld.2.2.2.2.2.2.2.2.2.2.2.2.2.2.2.1)).trans hHeld.2.2.2.2.2.2.2.2.2.2.2.2.2.2.2.1), ((hb.cell (World.block_lt_of_cell? _ _ hHeld.2.2.2.2.2.2.2.2.2.2.2.2.2.2.2.2.1)).trans hHeld.2.2.2.2.2.2.2.2.2.2.2.2.2.2.2.2.1), ((hb.cell (World.block_lt_of_cell? _ _ hHeld.2.2.2.2.2.2.2.2.2.2.2.2.2.2.2.2.2.1)).trans hHeld.2.2.2.2.2.2.2.2.2.2.2.2.2.2.2.2.2.1), (bl_then hHeld.2.2.2.2.2.2.2.2.2.2.2.2.2.2.2.2.2.2 hb)⟩ (fun hHeld => ?_)
  clear hK K
  refine norm_ (a' := ?_) ?_ ?_
  rotate_left
  · show Act.put _ (some 64) _ = _
    simp only [Act.put, List.setIfInBounds_toArray, List.set_cons_zero, List.set_cons_succ, i64_w, i32_w]
    rfl
  refine pure_ (i := 8) (N := some 16) (v := ?_) (a' := ?_) (bA 10 511) rfl rfl (by kernel_rfl) (fun _ _ _ h => h) (Or.inl ⟨by rfl, ?_⟩) ?_ ?_
  rotate_left
  · intro w'
    go_simp
    with_reducible rfl
  rotate_left
  · simp only [Act.put, List.setIfInBounds_toArray, List.set_cons_zero, List.set_cons_succ, i64_w, i32_w]
    rfl
  refine pure_ (i := 9) (N := some 17) (v := ?_) (a' := ?_) (bA 10 1023) rfl rfl (by kernel_rfl) (fun _ _ _ h => h) (Or.inl ⟨by rfl, ?_⟩) ?_ ?_
  rotate_left
  · intro w'
    go_simp
    with_reducible rfl
  rotate_left
  · simp only [Act.put, List.setIfInBounds_toArray, List.set_cons_zero, List.set_cons_succ, i64_w, i32_w]
    rfl
  refine done_ (by kernel_rfl) ?_
  have HB7 := Lib.hid hHeld.2.2.2.2.2.2.2.2.2.2.2.2.2.2.2.2.2.2
  clear hHeld x0 x1 x2 x3 x4 x5 x6 x7 x8 y0 y1 y2 y3 y4 y5 y6 y7 y8 HB6 CDo CDn COv
  have x := nine HC0.out HB7.out
  have x0 := x 0 _ rfl
  have x1 := x 1 _ rfl
  have x2 := x 2 _ rfl
  have x3 := x 3 _ rfl
  have x4 := x 4 _ rfl
  have x5 := x 5 _ rfl
  have x6 := x 6 _ rfl
  have x7 := x 7 _ rfl
  have x8 := x 8 _ rfl
  clear x
  go_wp2_with fail
  refine (CKO.out _ (HR0.out.below HB7.out) (HR1.out.below HB7.out) (HT.out.below HB7.out)).mono ?_
  rintro e w8 ⟨rfl, hb⟩
  have HB8 := Lib.hid (bl_then HB7.out hb)
  clear hb HB7 CKO x0 x1 x2 x3 x4 x5 x6 x7 x8
  have y := nine HC1.out HB8.out
  have y0 := y 0 _ rfl
  have y1 := y 1 _ rfl
  have y2 := y 2 _ rfl
  have y3 := y 3 _ rfl
  have y4 := y 4 _ rfl
  have y5 := y 5 _ rfl
  have y6 := y 6 _ rfl
  have y7 := y 7 _ rfl
  have y8 := y 8 _ rfl
  clear y
  go_wp2_with fail
  refine (CKN.out _ (HS0.out.below HB8.out) (HS1.out.below HB8.out) (HT.out.below HB8.out)).mono ?_
  rintro e w9 ⟨rfl, hb⟩
  have HB9 := Lib.hid (bl_then HB8.out hb)
  clear hb HB8 CKN y0 y1 y2 y3 y4 y5 y6 y7 y8
  have y := nine HC1.out HB9.out
  have y0 := y 0 _ rfl
  have y1 := y 1 _ rfl
  have y2 := y 2 _ rfl
  have y3 := y 3 _ rfl
  have y4 := y 4 _ rfl
  have y5 := y 5 _ rfl
  have y6 := y 6 _ rfl
  have y7 := y 7 _ rfl
  have y8 := y 8 _ rfl
  clear y
  have hone : (nb ≤ na ∧ na ≤ own) ∨ (nb ≤ na ∧ own < na ∧ nb = na) ∨ (na < nb ∧ nb ≤ own ∧ na ≤ own) := by
    have f1 := FA.out
    have f2 := FB.out
    omega
  have htwo : v = u ∨ (v ≠ u ∧ na ≠ own) ∨ (v ≠ u ∧ na = own ∧ nb = na) ∨ (v ≠ u ∧ na = own ∧ nb ≠ na ∧ a2 ≠ b2) := by
    have f1 := FD.out
    by_cases c1 : v = u
    · exact .inl c1
    · rcases f1 with f1 | f1 | f1 | f1
      · exact absurd f1 c1
      · exact .inr (.inl ⟨c1, f1⟩)
      · by_cases c2 : na = own
        · exact .inr (.inr (.inl ⟨c1, c2, f1⟩))
        · exact .inr (.inl ⟨c1, c2⟩)
      · by_cases c2 : na = own
        · by_cases c3 : nb = na
          · exact .inr (.inr (.inl ⟨c1, c2, c3⟩))
          · exact .inr (.inr (.inr ⟨c1, c2, c3, f1⟩))
        · exact .inr (.inl ⟨c1, c2⟩)
  have hthree : (nc ≤ own) ∨ (own < nc ∧ nd = nc) := by
    have f1 := FE.out
    omega
  have e0 : decide (nn ≤ own) = true := decide_eq_true FC.out
  clear FA FB FC FD FE
  have HTW := Lib.hid htwo
  have HTH := Lib.hid hthree
  clear htwo hthree
  rcases hone with hx | hx | hx
  · have e1 : decide (nb ≤ na) = true := decide_eq_true (by omega)
    have e2 : decide (na ≤ own) = true := decide_eq_true (by omega)
    go_wp2_with fail
    refine (CNu.out _ (HS0.out.below HB9.out)).mono ?_
    rintro e w10 ⟨rfl, hb⟩
    have HB10 := Lib.hid (bl_then HB9.out hb)
    clear hb y0 y1 y2 y3 y4 y5 y6 y7 y8
    have y := nine HC1.out HB10.out
    have y0 := y 0 _ rfl
    have y1 := y 1 _ rfl
    have y2 := y 2 _ rfl
    have y3 := y 3 _ rfl
    have y4 := y 4 _ rfl
    have y5 := y 5 _ rfl
    have y6 := y 6 _ rfl
    have y7 := y 7 _ rfl
    have y8 := y 8 _ rfl
    clear y
    have x2 : w10.cell? ⟨gb, 2, none⟩ = some (.int .i64 a2) := (HB10.out.cell (World.block_lt_of_cell? _ _ (HC0.out 2))).trans (HC0.out 2)
    have hthree := HTH.out
    rcases HTW.out with hvu | hvu | hvu | hvu
    · have g1 : (v.toList == u.toList) = true := by rw [hvu]; simp
      rcases hthree with hc | hc
      · have h1 : decide (nc ≤ own) = true := decide_eq_true hc
        go_wp2
        go_ret
        exact ⟨ret_bool (by simp_all), bl_then HB0.out HB10.out⟩
      · have h1 : decide (nc ≤ own) = false := decide_eq_false (by omega)
        have h2 : (nd == nc) = true := by simp; omega
        go_wp2
        go_ret
        exact ⟨ret_bool (by simp_all), bl_then HB0.out HB10.out⟩
    · have g1 : (v.toList == u.toList) = false := by simp; exact fun e => hvu.1 (toList_inj e)
      have g2 : (na != own) = true := by simp; omega
      rcases hthree with hc | hc
      · have h1 : decide (nc ≤ own) = true := decide_eq_true hc
        go_wp2
        go_ret
        exact ⟨ret_bool (by simp_all), bl_then HB0.out HB10.out⟩
      · have h1 : decide (nc ≤ own) = false := decide_eq_false (by omega)
        have h2 : (nd == nc) = true := by simp; omega
        go_wp2
        go_ret
        exact ⟨ret_bool (by simp_all), bl_then HB0.out HB10.out⟩
    · have g1 : (v.toList == u.toList) = false := by simp; exact fun e => hvu.1 (toList_inj e)
      have g2 : (na != own) = false := by simp; omega
      have g3 : (nb == na) = true := by simp; omega
      go_wp2_with fail
      refine (CNv.out _ (HS0.out.below HB10.out)).mono ?_
      rintro e w11 ⟨rfl, hb⟩
      have HB11 := Lib.hid (bl_then HB10.out hb)
      clear hb
      have y2' : w11.cell? ⟨gb + 1, 2, none⟩ = some (.int .i64 b2) := (HB11.out.cell (World.block_lt_of_cell? _ _ (HC1.out 2))).trans (HC1.out 2)
      have x2' : w11.cell? ⟨gb, 2, none⟩ = some (.int .i64 a2) := (HB11.out.cell (World.block_lt_of_cell? _ _ (HC0.out 2))).trans (HC0.out 2)
      rcases hthree with hc | hc
      · have h1 : decide (nc ≤ own) = true := decide_eq_true hc
        go_wp2
        go_ret
        exact ⟨ret_bool (by simp_all), bl_then HB0.out HB11.out⟩
      · have h1 : decide (nc ≤ own) = false := decide_eq_false (by omega)
        have h2 : (nd == nc) = true := by simp; omega
        go_wp2
        go_ret
        exact ⟨ret_bool (by simp_all), bl_then HB0.out HB11.out⟩
    · have g1 : (v.toList == u.toList) = false := by simp; exact fun e => hvu.1 (toList_inj e)
      have g2 : (na != own) = false := by simp; omega
      have g3 : (nb == na) = false := by simp; omega
      have g4 : (a2 != b2) = true := by simp; omega
      go_wp2_with fail
      refine (CNv.out _ (HS0.out.below HB10.out)).mono ?_
      rintro e w11 ⟨rfl, hb⟩
      have HB11 := Lib.hid (bl_then HB10.out hb)
      clear hb
      have y2' : w11.cell? ⟨gb + 1, 2, none⟩ = some (.int .i64 b2) := (HB11.out.cell (World.block_lt_of_cell? _ _ (HC1.out 2))).trans (HC1.out 2)
      have x2' : w11.cell? ⟨gb, 2, none⟩ = some (.int .i64 a2) := (HB11.out.cell (World.block_lt_of_cell? _ _ (HC0.out 2))).trans (HC0.out 2)
      rcases hthree with hc | hc
      · have h1 : decide (nc ≤ own) = true := decide_eq_true hc
        go_wp2
        go_ret
        exact ⟨ret_bool (by simp_all), bl_then HB0.out HB11.out⟩
      · have h1 : decide (nc ≤ own) = false := decide_eq_false (by omega)
        have h2 : (nd == nc) = true := by simp; omega
        go_wp2
        go_ret
        exact ⟨ret_bool (by simp_all), bl_then HB0.out HB11.out⟩
  · have e1 : decide (nb ≤ na) = true := decide_eq_true (by omega)
    have e2 : decide (na ≤ own) = false := decide_eq_false (by omega)
    have e3 : (nb == na) = true := by simp; omega
    go_wp2_with fail
    refine (CNu.out _ (HS0.out.below HB9.out)).mono ?_
    rintro e w10 ⟨rfl, hb⟩
    have HB10 := Lib.hid (bl_then HB9.out hb)
    clear hb y0 y1 y2 y3 y4 y5 y6 y7 y8
    have y := nine HC1.out HB10.out
    have y0 := y 0 _ rfl
    have y1 := y 1 _ rfl
    have y2 := y 2 _ rfl
    have y3 := y 3 _ rfl
    have y4 := y 4 _ rfl
    have y5 := y 5 _ rfl
    have y6 := y 6 _ rfl
    have y7 := y 7 _ rfl
    have y8 := y 8 _ rfl
    clear y
    have x2 : w10.cell? ⟨gb, 2, none⟩ = some (.int .i64 a2) := (HB10.out.cell (World.block_lt_of_cell? _ _ (HC0.out 2))).trans (HC0.out 2)
    have hthree := HTH.out
    rcases HTW.out with hvu | hvu | hvu | hvu
    · have g1 : (v.toList == u.toList) = true := by rw [hvu]; simp
      rcases hthree with hc | hc
      · have h1 : decide (nc ≤ own) = true := decide_eq_true hc
        go_wp2
        go_ret
        exact ⟨ret_bool (by simp_all), bl_then HB0.out HB10.out⟩
      · have h1 : decide (nc ≤ own) = false := decide_eq_false (by omega)
        have h2 : (nd == nc) = true := by simp; omega
        go_wp2
        go_ret
        exact ⟨ret_bool (by simp_all), bl_then HB0.out HB10.out⟩
    · have g1 : (v.toList == u.toList) = false := by simp; exact fun e => hvu.1 (toList_inj e)
      have g2 : (na != own) = true := by simp; omega
      rcases hthree with hc | hc
      · have h1 : decide (nc ≤ own) = true := decide_eq_true hc
        go_wp2
        go_ret
        exact ⟨ret_bool (by simp_all), bl_then HB0.out HB10.out⟩
      · have h1 : decide (nc ≤ own) = false := decide_eq_false (by omega)
        have h2 : (nd == nc) = true := by simp; omega
        go_wp2
        go_ret
        exact ⟨ret_bool (by simp_all), bl_then HB0.out HB10.out⟩
    · omega
    · omega
  · have e1 : decide (nb ≤ na) = false := decide_eq_false (by omega)
    have e3 : decide (nb ≤ own) = true := decide_eq_true (by omega)
    have e2 : decide (na ≤ own) = true := decide_eq_true (by omega)
    go_wp2_with fail
    refine (CNu.out _ (HS0.out.below HB9.out)).mono ?_
    rintro e w10 ⟨rfl, hb⟩
    have HB10 := Lib.hid (bl_then HB9.out hb)
    clear hb y0 y1 y2 y3 y4 y5 y6 y7 y8
    have y := nine HC1.out HB10.out
    have y0 := y 0 _ rfl
    have y1 := y 1 _ rfl
    have y2 := y 2 _ rfl
    have y3 := y 3 _ rfl
    have y4 := y 4 _ rfl
    have y5 := y 5 _ rfl
    have y6 := y 6 _ rfl
    have y7 := y 7 _ rfl
    have y8 := y 8 _ rfl
    clear y
    have x2 : w10.cell? ⟨gb, 2, none⟩ = some (.int .i64 a2) := (HB10.out.cell (World.block_lt_of_cell? _ _ (HC0.out 2))).trans (HC0.out 2)
    have hthree := HTH.out
    rcases HTW.out with hvu | hvu | hvu | hvu
    · have g1 : (v.toList == u.toList) = true := by rw [hvu]; simp
      rcases hthree with hc | hc
      · have h1 : decide (nc ≤ own) = true := decide_eq_true hc
        go_wp2
        go_ret
        exact ⟨ret_bool (by simp_all), bl_then HB0.out HB10.out⟩
      · have h1 : decide (nc ≤ own) = false := decide_eq_false (by omega)
        have h2 : (nd == nc) = true := by simp; omega
        go_wp2
        go_ret
        exact ⟨ret_bool (by simp_all), bl_then HB0.out HB10.out⟩
    · have g1 : (v.toList == u.toList) = false := by simp; exact fun e => hvu.1 (toList_inj e)
      have g2 : (na != own) = true := by simp; omega
      rcases hthree with hc | hc
      · have h1 : decide (nc ≤ own) = true := decide_eq_true hc
        go_wp2
        go_ret
        exact ⟨ret_bool (by simp_all), bl_then HB0.out HB10.out⟩
      · have h1 : decide (nc ≤ own) = false := decide_eq_false (by omega)
        have h2 : (nd == nc) = true := by simp; omega
        go_wp2
        go_ret
        exact ⟨ret_bool (by simp_all), bl_then HB0.out HB10.out⟩
    · omega
    · omega
end Go.Proofs.YtpflimghkckpjaaDoor.H
