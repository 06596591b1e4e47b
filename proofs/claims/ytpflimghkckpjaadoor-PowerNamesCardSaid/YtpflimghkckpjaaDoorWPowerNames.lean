/-
The walk of PowerNames.
-/
import Derived.Test.YtpflimghkckpjaaDoorHPow4
import Derived.Test.YtpflimghkckpjaaDoorHChange
import Derived.Test.YtpflimghkckpjaaDoorZ2
import Derived.Test.YtpflimghkckpjaaDoorZ6
set_option linter.unusedVariables false
set_option linter.unusedSimpArgs false
namespace Go.Proofs.YtpflimghkckpjaaDoor.H
open Go.RowKit Go.Proofs.YtpflimghkckpjaaDoorW.PrintWords
theorem user_as : userB ⟨#[64, 97, 58, 115]⟩ = true := by decide +kernel
theorem default_as : Z.power_Default.f ⟨#[64, 97, 58, 115]⟩ = some ([⟨⟨#[64, 97, 58, 115]⟩, 100⟩], [], 0, 0, 50, 50, 50, 50, 0) := by
  unfold Z.power_Default.f Z.ident_User.f
  rw [if_pos (by decide), user_as]
  rfl
theorem lives_true : Z.outlawlaw11_lives.f = some true := by decide +kernel
def LA : List (ByteArray × Int) := [(⟨#[64, 97, 58, 115]⟩, 100)]
def MA : List (ByteArray × Int) := [(⟨#[64, 97, 58, 115]⟩, 100), (⟨#[64, 98, 58, 115]⟩, 100)]
def NA : List (ByteArray × Int) := [(⟨#[64, 97, 58, 115]⟩, 100), (⟨#[64, 98, 58, 115]⟩, 101)]
theorem sz_LA : ∀ p ∈ LA, p.1.size ≤ 9223372036854775807 := by decide
theorem sz_MA : ∀ p ∈ MA, p.1.size ≤ 9223372036854775807 := by decide
theorem sz_NA : ∀ p ∈ NA, p.1.size ≤ 9223372036854775807 := by decide
theorem len_LA : LA.length ≤ 1000000 := by decide
theorem len_MA : MA.length ≤ 1000000 := by decide
theorem len_NA : NA.length ≤ 1000000 := by decide
theorem of_la : ofS LA 0 ⟨#[64, 97, 58, 115]⟩ = 100 := by decide +kernel
theorem ab_lab : decide (ofS LA 0 ⟨#[64, 98, 58, 115]⟩ < ofS LA 0 ⟨#[64, 97, 58, 115]⟩) = true := by decide +kernel
theorem ab_laa : decide (ofS LA 0 ⟨#[64, 97, 58, 115]⟩ < ofS LA 0 ⟨#[64, 97, 58, 115]⟩) = false := by decide +kernel
theorem ch_lma : changeB LA [] 0 0 50 50 50 50 0 MA [] 0 0 50 50 50 50 0 ⟨#[64, 97, 58, 115]⟩ = true := by decide +kernel
theorem ch_lna : changeB LA [] 0 0 50 50 50 50 0 NA [] 0 0 50 50 50 50 0 ⟨#[64, 97, 58, 115]⟩ = false := by decide +kernel
theorem ch_mla : changeB MA [] 0 0 50 50 50 50 0 LA [] 0 0 50 50 50 50 0 ⟨#[64, 97, 58, 115]⟩ = false := by decide +kernel
theorem ch_mlb : changeB MA [] 0 0 50 50 50 50 0 LA [] 0 0 50 50 50 50 0 ⟨#[64, 98, 58, 115]⟩ = true := by decide +kernel
theorem nd_lx : needS [] 0 50 ⟨#[120]⟩ true = 50 := by decide +kernel
theorem ck_l : (if rightB LA [] 0 0 50 50 50 50 0 then (0 : Int) else 2) = 0 := by decide +kernel
theorem my_l9 : mayS LA 0 50 50 50 0 ⟨#[64, 97, 58, 115]⟩ 9 = false := by decide +kernel
theorem boxed5 (w : World) (cs1 : Array Value) (T1 : TypeId) (cs2 : Array Value) (T2 : TypeId) (cs3 : Array Value) (T3 : TypeId) (cs4 : Array Value) (T4 : TypeId) (cs5 : Array Value) (T5 : TypeId) :
    let W := ((((w.alloc (.cells cs1 T1)).alloc (.cells cs2 T2)).alloc (.cells cs3 T3)).alloc (.cells cs4 T4)).alloc (.cells cs5 T5)
    Below w.heap.size w W ∧ (∀ i, W.cell? ⟨w.heap.size, i, none⟩ = cs1[i]?) ∧ (∀ i, W.cell? ⟨w.heap.size + 1, i, none⟩ = cs2[i]?) ∧ (∀ i, W.cell? ⟨w.heap.size + 1 + 1, i, none⟩ = cs3[i]?) ∧ (∀ i, W.cell? ⟨w.heap.size + 1 + 1 + 1, i, none⟩ = cs4[i]?) ∧ ∀ i, W.cell? ⟨w.heap.size + 1 + 1 + 1 + 1, i, none⟩ = cs5[i]? := by
  refine ⟨((((((Below.refl _ _).alloc (Nat.le_refl _) _).alloc (by simp) _).alloc (by simp <;> omega) _).alloc (by simp <;> omega) _).alloc (by simp <;> omega) _), fun i => ?_, fun i => ?_, fun i => ?_, fun i => ?_, fun i => ?_⟩
  · rw [World.cell?_alloc_past _ _ _ (by simp <;> omega), World.cell?_alloc_past _ _ _ (by simp <;> omega), World.cell?_alloc_past _ _ _ (by simp <;> omega), World.cell?_alloc_past _ _ _ (by simp), World.cell?_alloc_at _ _ _ _ rfl]
  · rw [World.cell?_alloc_past _ _ _ (by simp <;> omega), World.cell?_alloc_past _ _ _ (by simp <;> omega), World.cell?_alloc_past _ _ _ (by simp), World.cell?_alloc_at _ _ _ _ (by simp)]
  · rw [World.cell?_alloc_past _ _ _ (by simp <;> omega), World.cell?_alloc_past _ _ _ (by simp), World.cell?_alloc_at _ _ _ _ (by simp)]
  · rw [World.cell?_alloc_past _ _ _ (by simp), World.cell?_alloc_at _ _ _ _ (by simp)]
  · rw [World.cell?_alloc_at _ _ _ _ (by simp)]
theorem rd_two {w : World} {g : Nat} {x1 x2 : ByteArray} {n1 n2 : Int} (h : ∀ i, w.cell? ⟨g, i, none⟩ = #[Value.string x1, .int .i64 n1, .string x2, .int .i64 n2][i]?) : Rd w (some ⟨g, 0, none⟩) [(x1, n1), (x2, n2)] := by
  refine ⟨by simp, fun _ => ⟨_, rfl, fun j p hj => ?_⟩⟩
  match j, hj with
  | 0, hj => simp at hj; subst hj; exact ⟨h 0, h 1⟩
  | 1, hj => simp at hj; subst hj; exact ⟨h 2, h 3⟩
  | j + 2, hj => simp at hj
theorem rd_nil {w : World} {A : Option Addr} : Rd w A [] := ⟨by decide, fun h => by simp at h⟩
set_option maxHeartbeats 1600000 in
set_option maxRecDepth 100000 in
theorem PowerNames_walk (w : World) (hT : Tab w) : Calls Tryd.prog 4 #[] w fun e w' => e = .returned (.bool true) ∧ Below w.heap.size w w' := by
  have hu := Tryd.underlying25
  have hu3 := Tryd.underlying36
  go_enter Tryd.func4, Tryd.ntmps4
  go_wp2_with fail
  refine (Z.power_Default.calls ⟨#[64, 97, 58, 115]⟩ _ _ _ _ _ _ _ _ _ w default_as).mono ?_
  rintro e w1 ⟨v0, v1, rfl, h0, h1, hb⟩
  obtain ⟨A0, c0, rfl, hl0, hC0⟩ := Kd.R_reads h0
  obtain ⟨A1, c1, rfl, hl1, hC1⟩ := Kd.R_reads h1
  have HB1 := Lib.hid hb
  have HR0 := Lib.hid (Z.power_Of.rdUserLevel hC0)
  have HT1 := Lib.hid (hT.below hb)
  clear hb hC0 hC1 h0 h1 hT hl0 hl1
  go_wp2_with fail
  obtain ⟨hBW, q1, q2, q3, q4, q5⟩ := boxed5 w1 #[.slice A0 1 c0, .slice A1 0 c1, .int .i64 0, .int .i64 0, .int .i64 50, .int .i64 50, .int .i64 50, .int .i64 50, .int .i64 0] 25 #[.slice (some ⟨w1.heap.size + 1 + 1, 0, none⟩) 2 2, .slice A1 0 c1, .int .i64 0, .int .i64 0, .int .i64 50, .int .i64 50, .int .i64 50, .int .i64 50, .int .i64 0] 25 #[.string ⟨#[64, 97, 58, 115]⟩, .int .i64 100, .string ⟨#[64, 98, 58, 115]⟩, .int .i64 100] 36 #[.slice (some ⟨w1.heap.size + 1 + 1 + 1 + 1, 0, none⟩) 2 2, .slice A1 0 c1, .int .i64 0, .int .i64 0, .int .i64 50, .int .i64 50, .int .i64 50, .int .i64 50, .int .i64 0] 25 #[.string ⟨#[64, 97, 58, 115]⟩, .int .i64 100, .string ⟨#[64, 98, 58, 115]⟩, .int .i64 101] 36
  have HBW := Lib.hid (bl_then HB1.out hBW)
  have HL : Hid (Rd _ A0 LA) := Lib.hid (HR0.out.below hBW)
  have HM : Hid (Rd _ (some ⟨w1.heap.size + 1 + 1, 0, none⟩) MA) := Lib.hid (rd_two q3)
  have HN : Hid (Rd _ (some ⟨w1.heap.size + 1 + 1 + 1 + 1, 0, none⟩) NA) := Lib.hid (rd_two q5)
  have HE : Hid (Rd _ A1 []) := Lib.hid (rd_nil (w := (((((w1.alloc (.cells #[.slice A0 1 c0, .slice A1 0 c1, .int .i64 0, .int .i64 0, .int .i64 50, .int .i64 50, .int .i64 50, .int .i64 50, .int .i64 0] 25)).alloc (.cells #[.slice (some ⟨w1.heap.size + 1 + 1, 0, none⟩) 2 2, .slice A1 0 c1, .int .i64 0, .int .i64 0, .int .i64 50, .int .i64 50, .int .i64 50, .int .i64 50, .int .i64 0] 25)).alloc (.cells #[.string ⟨#[64, 97, 58, 115]⟩, .int .i64 100, .string ⟨#[64, 98, 58, 115]⟩, .int .i64 100] 36)).alloc (.cells #[.slice (some ⟨w1.heap.size + 1 + 1 + 1 + 1, 0, none⟩) 2 2, .slice A1 0 c1, .int .i64 0, .int .i64 0, .int .i64 50, .int .i64 50, .int .i64 50, .int .i64 50, .int .i64 0] 25)).alloc (.cells #[.string ⟨#[64, 97, 58, 115]⟩, .int .i64 100, .string ⟨#[64, 98, 58, 115]⟩, .int .i64 101] 36))) (A := A1))
  have HT := Lib.hid (HT1.out.below hBW)
  have HX := Lib.hid q1
  have HY := Lib.hid q2
  have HZ := Lib.hid q4
  clear hBW q1 q2 q3 q4 q5 HR0 HT1 HB1
  generalize (((((w1.alloc (.cells #[.slice A0 1 c0, .slice A1 0 c1, .int .i64 0, .int .i64 0, .int .i64 50, .int .i64 50, .int .i64 50, .int .i64 50, .int .i64 0] 25)).alloc (.cells #[.slice (some ⟨w1.heap.size + 1 + 1, 0, none⟩) 2 2, .slice A1 0 c1, .int .i64 0, .int .i64 0, .int .i64 50, .int .i64 50, .int .i64 50, .int .i64 50, .int .i64 0] 25)).alloc (.cells #[.string ⟨#[64, 97, 58, 115]⟩, .int .i64 100, .string ⟨#[64, 98, 58, 115]⟩, .int .i64 100] 36)).alloc (.cells #[.slice (some ⟨w1.heap.size + 1 + 1 + 1 + 1, 0, none⟩) 2 2, .slice A1 0 c1, .int .i64 0, .int .i64 0, .int .i64 50, .int .i64 50, .int .i64 50, .int .i64 50, .int .i64 0] 25)).alloc (.cells #[.string ⟨#[64, 97, 58, 115]⟩, .int .i64 100, .string ⟨#[64, 98, 58, 115]⟩, .int .i64 101] 36)) = W at HBW HL HM HN HE HT HX HY HZ ⊢
  generalize w1.heap.size = hs at HM HN HX HY HZ ⊢
  refine (Z.outlawlaw11_lives.calls true _ lives_true).mono ?_
  rintro e v0 ⟨rfl, hb⟩
  have HB := Lib.hid hb
  clear hb
  have x := nine HX.out HB.out
  have x0 := x 0 _ rfl
  have x1 := x 1 _ rfl
  have x2 := x 2 _ rfl
  have x3 := x 3 _ rfl
  have x4 := x 4 _ rfl
  have x5 := x 5 _ rfl
  have x6 := x 6 _ rfl
  have x7 := x 7 _ rfl
  have x8 := x 8 _ rfl
  clear x
  go_wp2_with fail
  have CC := Of_any A0 1 c0 A1 0 c1 0 0 50 50 50 50 0 LA ⟨#[64, 97, 58, 115]⟩ _ (HL.out.below HB.out) (by decide) rfl
  rw [of_la] at CC
  refine CC.mono ?_
  clear CC
  rintro e v1 ⟨rfl, hb⟩
  have HB := Lib.hid (bl_then HB.out hb)
  clear hb x0 x1 x2 x3 x4 x5 x6 x7 x8
  have x := nine HX.out HB.out
  have x0 := x 0 _ rfl
  have x1 := x 1 _ rfl
  have x2 := x 2 _ rfl
  have x3 := x 3 _ rfl
  have x4 := x 4 _ rfl
  have x5 := x 5 _ rfl
  have x6 := x 6 _ rfl
  have x7 := x 7 _ rfl
  have x8 := x 8 _ rfl
  clear x
  go_wp2_with fail
  have CC := Above_any A0 1 c0 A1 0 c1 0 0 50 50 50 50 0 LA ⟨#[64, 97, 58, 115]⟩ ⟨#[64, 98, 58, 115]⟩ _ (HL.out.below HB.out) (by decide) rfl
  rw [ab_lab] at CC
  refine CC.mono ?_
  clear CC
  rintro e v2 ⟨rfl, hb⟩
  have HB := Lib.hid (bl_then HB.out hb)
  clear hb x0 x1 x2 x3 x4 x5 x6 x7 x8
  have x := nine HX.out HB.out
  have x0 := x 0 _ rfl
  have x1 := x 1 _ rfl
  have x2 := x 2 _ rfl
  have x3 := x 3 _ rfl
  have x4 := x 4 _ rfl
  have x5 := x 5 _ rfl
  have x6 := x 6 _ rfl
  have x7 := x 7 _ rfl
  have x8 := x 8 _ rfl
  clear x
  go_wp2_with fail
  have CC := Above_any A0 1 c0 A1 0 c1 0 0 50 50 50 50 0 LA ⟨#[64, 97, 58, 115]⟩ ⟨#[64, 97, 58, 115]⟩ _ (HL.out.below HB.out) (by decide) rfl
  rw [ab_laa] at CC
  refine CC.mono ?_
  clear CC
  rintro e v3 ⟨rfl, hb⟩
  have HB := Lib.hid (bl_then HB.out hb)
  clear hb x0 x1 x2 x3 x4 x5 x6 x7 x8
  have x := nine HX.out HB.out
  have x0 := x 0 _ rfl
  have x1 := x 1 _ rfl
  have x2 := x 2 _ rfl
  have x3 := x 3 _ rfl
  have x4 := x 4 _ rfl
  have x5 := x 5 _ rfl
  have x6 := x 6 _ rfl
  have x7 := x 7 _ rfl
  have x8 := x 8 _ rfl
  clear x
  have y := nine HY.out HB.out
  have y0 := y 0 _ rfl
  have y1 := y 1 _ rfl
  have y2 := y 2 _ rfl
  have y3 := y 3 _ rfl
  have y4 := y 4 _ rfl
  have y5 := y 5 _ rfl
  have y6 := y 6 _ rfl
  have y7 := y 7 _ rfl
  have y8 := y 8 _ rfl
  clear y
  go_wp2_with fail
  have CC := (change_any A0 c0 A1 c1 0 0 50 50 50 50 0 (some ⟨hs + 1 + 1, 0, none⟩) 2 A1 c1 0 0 50 50 50 50 0 ⟨#[64, 97, 58, 115]⟩ LA [] MA [] _ (HL.out.below HB.out) (HE.out.below HB.out) (HM.out.below HB.out) (HE.out.below HB.out) sz_LA (by simp) sz_MA (by simp) len_LA (by simp) len_MA (by simp) (HT.out.below HB.out))
  rw [ch_lma] at CC
  refine CC.mono ?_
  clear CC
  rintro e v4 ⟨rfl, hb⟩
  have HB := Lib.hid (bl_then HB.out hb)
  clear hb x0 x1 x2 x3 x4 x5 x6 x7 x8 y0 y1 y2 y3 y4 y5 y6 y7 y8
  have x := nine HX.out HB.out
  have x0 := x 0 _ rfl
  have x1 := x 1 _ rfl
  have x2 := x 2 _ rfl
  have x3 := x 3 _ rfl
  have x4 := x 4 _ rfl
  have x5 := x 5 _ rfl
  have x6 := x 6 _ rfl
  have x7 := x 7 _ rfl
  have x8 := x 8 _ rfl
  clear x
  have z := nine HZ.out HB.out
  have z0 := z 0 _ rfl
  have z1 := z 1 _ rfl
  have z2 := z 2 _ rfl
  have z3 := z 3 _ rfl
  have z4 := z 4 _ rfl
  have z5 := z 5 _ rfl
  have z6 := z 6 _ rfl
  have z7 := z 7 _ rfl
  have z8 := z 8 _ rfl
  clear z
  go_wp2_with fail
  have CC := (change_any A0 c0 A1 c1 0 0 50 50 50 50 0 (some ⟨hs + 1 + 1 + 1 + 1, 0, none⟩) 2 A1 c1 0 0 50 50 50 50 0 ⟨#[64, 97, 58, 115]⟩ LA [] NA [] _ (HL.out.below HB.out) (HE.out.below HB.out) (HN.out.below HB.out) (HE.out.below HB.out) sz_LA (by simp) sz_NA (by simp) len_LA (by simp) len_NA (by simp) (HT.out.below HB.out))
  rw [ch_lna] at CC
  refine CC.mono ?_
  clear CC
  rintro e v5 ⟨rfl, hb⟩
  have HB := Lib.hid (bl_then HB.out hb)
  clear hb x0 x1 x2 x3 x4 x5 x6 x7 x8 z0 z1 z2 z3 z4 z5 z6 z7 z8
  have y := nine HY.out HB.out
  have y0 := y 0 _ rfl
  have y1 := y 1 _ rfl
  have y2 := y 2 _ rfl
  have y3 := y 3 _ rfl
  have y4 := y 4 _ rfl
  have y5 := y 5 _ rfl
  have y6 := y 6 _ rfl
  have y7 := y 7 _ rfl
  have y8 := y 8 _ rfl
  clear y
  have x := nine HX.out HB.out
  have x0 := x 0 _ rfl
  have x1 := x 1 _ rfl
  have x2 := x 2 _ rfl
  have x3 := x 3 _ rfl
  have x4 := x 4 _ rfl
  have x5 := x 5 _ rfl
  have x6 := x 6 _ rfl
  have x7 := x 7 _ rfl
  have x8 := x 8 _ rfl
  clear x
  go_wp2_with fail
  have CC := (change_any (some ⟨hs + 1 + 1, 0, none⟩) 2 A1 c1 0 0 50 50 50 50 0 A0 c0 A1 c1 0 0 50 50 50 50 0 ⟨#[64, 97, 58, 115]⟩ MA [] LA [] _ (HM.out.below HB.out) (HE.out.below HB.out) (HL.out.below HB.out) (HE.out.below HB.out) sz_MA (by simp) sz_LA (by simp) len_MA (by simp) len_LA (by simp) (HT.out.below HB.out))
  rw [ch_mla] at CC
  refine CC.mono ?_
  clear CC
  rintro e v6 ⟨rfl, hb⟩
  have HB := Lib.hid (bl_then HB.out hb)
  clear hb y0 y1 y2 y3 y4 y5 y6 y7 y8 x0 x1 x2 x3 x4 x5 x6 x7 x8
  have y := nine HY.out HB.out
  have y0 := y 0 _ rfl
  have y1 := y 1 _ rfl
  have y2 := y 2 _ rfl
  have y3 := y 3 _ rfl
  have y4 := y 4 _ rfl
  have y5 := y 5 _ rfl
  have y6 := y 6 _ rfl
  have y7 := y 7 _ rfl
  have y8 := y 8 _ rfl
  clear y
  have x := nine HX.out HB.out
  have x0 := x 0 _ rfl
  have x1 := x 1 _ rfl
  have x2 := x 2 _ rfl
  have x3 := x 3 _ rfl
  have x4 := x 4 _ rfl
  have x5 := x 5 _ rfl
  have x6 := x 6 _ rfl
  have x7 := x 7 _ rfl
  have x8 := x 8 _ rfl
  clear x
  go_wp2_with fail
  have CC := (change_any (some ⟨hs + 1 + 1, 0, none⟩) 2 A1 c1 0 0 50 50 50 50 0 A0 c0 A1 c1 0 0 50 50 50 50 0 ⟨#[64, 98, 58, 115]⟩ MA [] LA [] _ (HM.out.below HB.out) (HE.out.below HB.out) (HL.out.below HB.out) (HE.out.below HB.out) sz_MA (by simp) sz_LA (by simp) len_MA (by simp) len_LA (by simp) (HT.out.below HB.out))
  rw [ch_mlb] at CC
  refine CC.mono ?_
  clear CC
  rintro e v7 ⟨rfl, hb⟩
  have HB := Lib.hid (bl_then HB.out hb)
  clear hb y0 y1 y2 y3 y4 y5 y6 y7 y8 x0 x1 x2 x3 x4 x5 x6 x7 x8
  have x := nine HX.out HB.out
  have x0 := x 0 _ rfl
  have x1 := x 1 _ rfl
  have x2 := x 2 _ rfl
  have x3 := x 3 _ rfl
  have x4 := x 4 _ rfl
  have x5 := x 5 _ rfl
  have x6 := x 6 _ rfl
  have x7 := x 7 _ rfl
  have x8 := x 8 _ rfl
  clear x
  go_wp2_with fail
  have CC := Need_any A0 1 c0 A1 0 c1 0 0 50 50 50 50 0 [] ⟨#[120]⟩ true _ (HE.out.below HB.out) (by decide) rfl
  rw [nd_lx] at CC
  refine CC.mono ?_
  clear CC
  rintro e v8 ⟨rfl, hb⟩
  have HB := Lib.hid (bl_then HB.out hb)
  clear hb x0 x1 x2 x3 x4 x5 x6 x7 x8
  have x := nine HX.out HB.out
  have x0 := x 0 _ rfl
  have x1 := x 1 _ rfl
  have x2 := x 2 _ rfl
  have x3 := x 3 _ rfl
  have x4 := x 4 _ rfl
  have x5 := x 5 _ rfl
  have x6 := x 6 _ rfl
  have x7 := x 7 _ rfl
  have x8 := x 8 _ rfl
  clear x
  go_wp2_with fail
  have CC := Check_any A0 c0 A1 c1 0 0 50 50 50 50 0 LA [] _ (HL.out.below HB.out) (HE.out.below HB.out) sz_LA (by simp) (HT.out.below HB.out)
  rw [ck_l] at CC
  refine CC.mono ?_
  clear CC
  rintro e v9 ⟨rfl, hb⟩
  have HB := Lib.hid (bl_then HB.out hb)
  clear hb x0 x1 x2 x3 x4 x5 x6 x7 x8
  have x := nine HX.out HB.out
  have x0 := x 0 _ rfl
  have x1 := x 1 _ rfl
  have x2 := x 2 _ rfl
  have x3 := x 3 _ rfl
  have x4 := x 4 _ rfl
  have x5 := x 5 _ rfl
  have x6 := x 6 _ rfl
  have x7 := x 7 _ rfl
  have x8 := x 8 _ rfl
  clear x
  go_wp2_with fail
  have CC := May_any A0 1 c0 A1 0 c1 0 0 50 50 50 50 0 LA ⟨#[64, 97, 58, 115]⟩ 9 _ (HL.out.below HB.out) (by decide) rfl
  rw [my_l9] at CC
  refine CC.mono ?_
  clear CC
  rintro e v10 ⟨rfl, hb⟩
  have HB := Lib.hid (bl_then HB.out hb)
  clear hb x0 x1 x2 x3 x4 x5 x6 x7 x8
  go_wp2
  go_ret
  exact ⟨rfl, bl_then HBW.out HB.out⟩
end Go.Proofs.YtpflimghkckpjaaDoor.H
