/-
Contracts of ident.Server, named, User, by hand.
-/
import Derived.Test.YtkppcahnbifkgaaGreatDoorHId
import Derived.ShutString
set_option linter.unusedVariables false
set_option linter.unusedSimpArgs false
namespace Go.Proofs.YtkppcahnbifkgaaGreatDoor.H
open Go.RowKit Go.Shelf

def hostP : UInt8 → Bool := orC greatC [46, 45]
def serverB (s : ByteArray) : Bool :=
  if (128 : Int) < s.size then false
  else if 0 ≤ colonAt s then allC hostP (cutA s).data.toList s.size && allC digC (cutB s).data.toList 5
  else allC hostP s.data.toList s.size
theorem bl_drewN {B : Nat} {w W : World} (h : Below B w W) (n : Nat) : Below B w (W.drewN n) := ⟨h.os, h.tape, h.output, h.size, h.block⟩
theorem bl_drew {B : Nat} {w W : World} (h : Below B w W) : Below B w W.drew := ⟨h.os, h.tape, h.output, h.size, h.block⟩
theorem bl_pre {w W : World} {n : Nat} (h : Below (w.drewN n).heap.size (w.drewN n) W) : Below w.heap.size w W := (bl_drewN (Below.refl _ _) n).trans h
/-- One step more. -/
theorem bl_then {w w1 w2 : World} (h : Below w.heap.size w w1) (k : Below w1.heap.size w1 w2) : Below w.heap.size w w2 :=
  h.trans ⟨k.os, k.tape, k.output, k.size, fun i hi => k.block i (Nat.lt_of_lt_of_le hi h.size)⟩
theorem cutA_le (s : ByteArray) : (cutA s).size ≤ s.size := by
  unfold cutA; split
  · rw [ByteArray.size_extract]; omega
  · exact Nat.le_refl _
theorem cutB_le (s : ByteArray) : (cutB s).size ≤ s.size := by
  unfold cutB; split
  · rw [ByteArray.size_extract]; omega
  · exact Nat.zero_le _

/-- 'class.or', its closure's class told. -/
theorem orw_small (more : ByteArray) (w : World) :
    Calls Tryz.prog 173 #[.func (.func 172) #[] #[], .string more] w fun e w' => ∃ p1 p2, e = .returned (.func (.func 223) #[] #[p1, p2]) ∧ Below w.heap.size w w' ∧
      ∀ W, Below w'.heap.size w' W → ∀ c : UInt8, Calls Tryz.prog 223 #[.int .u8 (c.toNat : Int), p1, p2] W fun e w' => e = .returned (.bool (orC smallC more.data.toList c)) ∧ W = w' := by
  refine (or_any 172 more w).mono ?_
  rintro e w' ⟨rfl, rfl⟩
  refine ⟨_, _, rfl, ((Below.refl _ _).alloc (Nat.le_refl _) _).alloc (by simp) _, fun W hb c => or_small c _ more W ?_ ?_⟩
  · rw [hb.cell (p := ⟨w.heap.size, 0, none⟩) (by simp; omega), World.cell?_alloc_past _ _ _ (by simp), World.cell?_alloc_at _ _ _ _ rfl]; rfl
  · rw [hb.cell (p := ⟨w.heap.size + 1, 0, none⟩) (by simp), World.cell?_alloc_at _ _ _ _ (by simp)]; rfl
theorem orw_great (more : ByteArray) (w : World) :
    Calls Tryz.prog 173 #[.func (.func 264) #[] #[], .string more] w fun e w' => ∃ p1 p2, e = .returned (.func (.func 223) #[] #[p1, p2]) ∧ Below w.heap.size w w' ∧
      ∀ W, Below w'.heap.size w' W → ∀ c : UInt8, Calls Tryz.prog 223 #[.int .u8 (c.toNat : Int), p1, p2] W fun e w' => e = .returned (.bool (orC greatC more.data.toList c)) ∧ W = w' := by
  refine (or_any 264 more w).mono ?_
  rintro e w' ⟨rfl, rfl⟩
  refine ⟨_, _, rfl, ((Below.refl _ _).alloc (Nat.le_refl _) _).alloc (by simp) _, fun W hb c => or_great c _ more W ?_ ?_⟩
  · rw [hb.cell (p := ⟨w.heap.size, 0, none⟩) (by simp; omega), World.cell?_alloc_past _ _ _ (by simp), World.cell?_alloc_at _ _ _ _ rfl]; rfl
  · rw [hb.cell (p := ⟨w.heap.size + 1, 0, none⟩) (by simp), World.cell?_alloc_at _ _ _ _ (by simp)]; rfl

set_option maxHeartbeats 800000 in
theorem server_any (s : ByteArray) (w : World) (hs : s.size ≤ 9223372036854775807) :
    Calls Tryz.prog 219 #[.string s] w fun e w' => e = .returned (.bool (serverB s)) ∧ Below w.heap.size w w' := by
  have cI := Lib.hid (cut_any s)
  have hA := cutA_le s
  have hB := cutB_le s
  unfold serverB
  by_cases h128 : (128 : Int) < s.size
  · rw [if_pos h128]
    go_enter Tryz.func219, Tryz.ntmps219
    go_wp2
    go_ret
    exact ⟨rfl, Below.refl _ _⟩
  · rw [if_neg h128]
    generalize hAA : cutA s = A at cI hA ⊢
    generalize hBB : cutB s = B at cI hB ⊢
    clear hAA hBB
    by_cases hc : 0 ≤ colonAt s
    · rw [if_pos hc]
      rw [decide_eq_true hc] at cI
      clear hc
      have HP := Lib.hid (all_clo hostP A s.size)
      have HD := Lib.hid (all_plain digC B 5)
      cases h1 : allC hostP A.data.toList s.size with
      | false =>
        rw [h1] at HP
        clear h1
        go_enter Tryz.func219, Tryz.ntmps219
        go_wp2_with fail
        refine (cI.out _ hs).mono ?_
        rintro e w0 ⟨rfl, n, rfl⟩
        go_wp2_with fail
        refine (orw_great _ _).mono ?_
        rintro e w1 ⟨p1, p2, rfl, hb, hclo⟩
        have HC := Lib.hid (hclo w1 (Below.refl _ _))
        have HB := Lib.hid hb
        clear hclo hb
        go_wp2_with fail
        refine (HP.out _ _ _ (by omega) HC.out).mono ?_
        rintro e w2 ⟨rfl, rfl⟩
        go_wp2
        go_ret
        exact ⟨rfl, bl_pre HB.out⟩
      | true =>
        rw [h1] at HP
        clear h1
        generalize allC digC B.data.toList 5 = y at HD ⊢
        go_enter Tryz.func219, Tryz.ntmps219
        go_wp2_with fail
        refine (cI.out _ hs).mono ?_
        rintro e w0 ⟨rfl, n, rfl⟩
        go_wp2_with fail
        refine (orw_great _ _).mono ?_
        rintro e w1 ⟨p1, p2, rfl, hb, hclo⟩
        have HC := Lib.hid (hclo w1 (Below.refl _ _))
        have HB := Lib.hid hb
        clear hclo hb
        go_wp2_with fail
        refine (HP.out _ _ _ (by omega) HC.out).mono ?_
        rintro e w2 ⟨rfl, rfl⟩
        go_wp2_with fail
        refine (HD.out _ (by omega) (fun c => dig_any c _)).mono ?_
        rintro e w2 ⟨rfl, rfl⟩
        go_wp2
        go_ret
        exact ⟨ret_bool (by simp), bl_pre HB.out⟩
    · rw [if_neg hc]
      rw [decide_eq_false hc] at cI
      clear hc
      have HP := Lib.hid (all_clo hostP s s.size)
      generalize allC hostP s.data.toList s.size = y at HP ⊢
      go_enter Tryz.func219, Tryz.ntmps219
      go_wp2_with fail
      refine (cI.out _ hs).mono ?_
      rintro e w0 ⟨rfl, n, rfl⟩
      go_wp2_with fail
      refine (orw_great _ _).mono ?_
      rintro e w1 ⟨p1, p2, rfl, hb, hclo⟩
      have HC := Lib.hid (hclo w1 (Below.refl _ _))
      have HB := Lib.hid hb
      clear hclo hb
      go_wp2_with fail
      refine (HP.out _ _ _ hs HC.out).mono ?_
      rintro e w2 ⟨rfl, rfl⟩
      go_wp2
      go_ret
      exact ⟨rfl, bl_pre HB.out⟩

/-- ident.named at a class that is small or great with some bytes more. -/
def namedB (sign : UInt8) (p : UInt8 → Bool) (s : ByteArray) : Bool :=
  decide (0 ≤ colonAt s) && (!decide ((255 : Int) < s.size) && (serverB (cutB s) && (Lib.hasPrefix (cutA s).data.toList [sign] && allC p (Lib.trimPrefix (cutA s).data.toList [sign]) s.size)))

set_option maxHeartbeats 800000 in
theorem named_any (sign : UInt8) (p : UInt8 → Bool) (s : ByteArray) (p1 p2 : Value) (w : World) (hs : s.size ≤ 9223372036854775807)
    (hclo : ∀ W, Below w.heap.size w W → ∀ c : UInt8, Calls Tryz.prog 223 #[.int .u8 (c.toNat : Int), p1, p2] W fun e w' => e = .returned (.bool (p c)) ∧ W = w') :
    Calls Tryz.prog 171 #[.string s, .string ⟨#[sign]⟩, .func (.func 223) #[] #[p1, p2]] w fun e w' => e = .returned (.bool (namedB sign p s)) ∧ Below w.heap.size w w' := by
  have cI := Lib.hid (cut_any s)
  have cP := Lib.hid (Tryz.strings_CutPrefix (cutA s) ⟨#[sign]⟩)
  have cS := Lib.hid (server_any (cutB s))
  have hA := cutA_le s
  have hB := cutB_le s
  have hT : (Lib.trimPrefix (cutA s).data.toList [sign]).length ≤ (cutA s).size := by
    rw [Lib.size_eq]; exact Lib.trimPrefix_le _ _
  have HCL := Lib.hid hclo
  clear hclo
  unfold namedB
  generalize hAA : cutA s = A at cI hA cP hT ⊢
  generalize hBB : cutB s = B at cI hB cS ⊢
  clear hAA hBB
  change Hid (∀ W, Calls _ _ _ W fun e w' => e = .returned (.tuple #[.string ⟨(Lib.trimPrefix A.data.toList [sign]).toArray⟩, .bool (Lib.hasPrefix A.data.toList [sign])]) ∧ w' = W) at cP
  generalize Lib.hasPrefix A.data.toList [sign] = hp at cP ⊢
  have HP := Lib.hid (all_clo p ⟨(Lib.trimPrefix A.data.toList [sign]).toArray⟩ s.size)
  have hTs : (⟨(Lib.trimPrefix A.data.toList [sign]).toArray⟩ : ByteArray).size ≤ A.size := by rw [size_of_list]; exact hT
  change Hid (∀ w p1 p2, _ → _ → Calls _ _ _ _ fun e w' => e = .returned (.bool (allC p (Lib.trimPrefix A.data.toList [sign]) s.size)) ∧ w = w') at HP
  generalize allC p (Lib.trimPrefix A.data.toList [sign]) s.size = y at HP ⊢
  generalize (⟨(Lib.trimPrefix A.data.toList [sign]).toArray⟩ : ByteArray) = T at *
  clear hT
  by_cases hc : 0 ≤ colonAt s
  · rw [decide_eq_true hc] at cI ⊢
    clear hc
    by_cases h255 : (255 : Int) < s.size
    · rw [decide_eq_true h255]
      go_enter Tryz.func171, Tryz.ntmps171
      go_wp2_with fail
      refine (cI.out _ hs).mono ?_
      rintro e w0 ⟨rfl, n, rfl⟩
      go_wp2
      go_ret
      exact ⟨rfl, bl_drewN (Below.refl _ _) n⟩
    · rw [decide_eq_false h255]
      cases hS : serverB B with
      | false =>
        rw [hS] at cS
        clear hS
        go_enter Tryz.func171, Tryz.ntmps171
        go_wp2_with fail
        refine (cI.out _ hs).mono ?_
        rintro e w0 ⟨rfl, n, rfl⟩
        go_wp2_with fail
        refine (cS.out _ (by omega)).mono ?_
        rintro e w1 ⟨rfl, hb⟩
        have HB := Lib.hid (bl_pre hb)
        clear hb
        go_wp2
        go_ret
        exact ⟨rfl, HB.out⟩
      | true =>
        rw [hS] at cS
        clear hS
        cases hp with
        | false =>
          go_enter Tryz.func171, Tryz.ntmps171
          go_wp2_with fail
          refine (cI.out _ hs).mono ?_
          rintro e w0 ⟨rfl, n, rfl⟩
          go_wp2_with fail
          refine (cS.out _ (by omega)).mono ?_
          rintro e w1 ⟨rfl, hb⟩
          have HB := Lib.hid (bl_pre hb)
          clear hb
          go_wp2_with fail
          refine (cP.out _).mono ?_
          rintro e w2 ⟨rfl, rfl⟩
          go_wp2
          go_ret
          exact ⟨rfl, HB.out⟩
        | true =>
          go_enter Tryz.func171, Tryz.ntmps171
          go_wp2_with fail
          refine (cI.out _ hs).mono ?_
          rintro e w0 ⟨rfl, n, rfl⟩
          go_wp2_with fail
          refine (cS.out _ (by omega)).mono ?_
          rintro e w1 ⟨rfl, hb⟩
          have HB := Lib.hid (bl_pre hb)
          clear hb
          go_wp2_with fail
          refine (cP.out _).mono ?_
          rintro e w2 ⟨rfl, rfl⟩
          go_wp2_with fail
          refine (HP.out _ _ _ (by omega) (HCL.out _ HB.out)).mono ?_
          rintro e w2 ⟨rfl, rfl⟩
          go_wp2
          go_ret
          exact ⟨ret_bool (by simp), HB.out⟩
  · rw [decide_eq_false hc] at cI ⊢
    clear hc
    go_enter Tryz.func171, Tryz.ntmps171
    go_wp2_with fail
    refine (cI.out _ hs).mono ?_
    rintro e w0 ⟨rfl, n, rfl⟩
    go_wp2
    go_ret
    exact ⟨rfl, bl_drewN (Below.refl _ _) n⟩

def userB (s : ByteArray) : Bool := namedB 64 (orC smallC [46, 95, 61, 45, 47, 43]) s
def roomB (s : ByteArray) : Bool := namedB 33 (orC greatC [46, 95, 45]) s
set_option maxHeartbeats 400000 in
theorem User_any (s : ByteArray) (w : World) (hs : s.size ≤ 9223372036854775807) :
    Calls Tryz.prog 101 #[.string s] w fun e w' => e = .returned (.bool (userB s)) ∧ Below w.heap.size w w' := by
  have hN := Lib.hid (fun q1 q2 W => named_any 64 (orC smallC [46, 95, 61, 45, 47, 43]) s q1 q2 W hs)
  unfold userB
  generalize namedB 64 (orC smallC [46, 95, 61, 45, 47, 43]) s = y at hN ⊢
  go_enter Tryz.func101, Tryz.ntmps101
  go_wp2_with fail
  refine (orw_small _ _).mono ?_
  rintro e w1 ⟨p1, p2, rfl, hb, hclo⟩
  have HC := Lib.hid hclo
  have HB := Lib.hid hb
  clear hclo hb
  go_wp2_with fail
  refine (hN.out _ _ _ HC.out).mono ?_
  rintro e w2 ⟨rfl, hb2⟩
  have HB2 := Lib.hid (bl_then HB.out hb2)
  clear hb2
  go_wp2
  go_ret
  exact ⟨rfl, HB2.out⟩
end Go.Proofs.YtkppcahnbifkgaaGreatDoor.H
