/-
The program's functions of power, their contracts by hand turned into contracts on pure values.
-/
import Derived.Test.YtpflimghkckpjaaGreatDoorBR11b
import Derived.Test.YtpflimghkckpjaaGreatDoorBR06
import Derived.Test.YtpflimghkckpjaaGreatDoorHPow4
import Derived.Test.YtpflimghkckpjaaGreatDoorHChange
import Derived.Test.YtpflimghkckpjaaGreatDoorHR04b
import Derived.Test.YtpflimghkckpjaaGreatDoorHR01b
set_option linter.unusedVariables false
set_option linter.unusedSimpArgs false
namespace Go.Proofs.YtpflimghkckpjaaGreatDoor.B
open Go.RowKit
theorem tab_stable : Stable H.Tab := fun w w' h hb => h.below hb
theorem rd_of_rep {S : Nat → Nat → Prop} {w : World} {v : Value} {l : List (ByteArray × Int)} (h : RepP S w v (.sl (l.map encE))) (hl : l.length ≤ 1000000) : ∃ A c, v = .slice A l.length c ∧ H.Rd w A l := by
  rcases rep_sl h with ⟨e, h0⟩ | ⟨b, off, k, cap, e, h1, h2, h3⟩
  · have : l = [] := by simpa using h0
    subst this
    exact ⟨none, 0, e, by simp [H.Rd]⟩
  · rw [List.length_map] at e
    refine ⟨_, cap, e, by omega, fun hpos => ⟨_, rfl, fun j p hj => ?_⟩⟩
    have hk : k = 2 := by
      have := h2 (encE (l[0]'hpos)) (List.mem_map_of_mem (List.getElem_mem hpos))
      rw [← this]; rfl
    subst hk
    have hr := h3 j (encE p) (by rw [List.getElem?_map, hj]; rfl)
    obtain ⟨_, v0, q1, q2, _⟩ := hr 0 _ rfl
    obtain ⟨_, v1, q3, q4, _⟩ := hr 1 _ rfl
    rw [(rep_lit q2).1] at q1
    rw [(rep_lit q4).1] at q3
    rw [Addr.add_lit]
    exact ⟨q1, q3⟩
theorem lv_of_rep {S : Nat → Nat → Prop} {w : World} {v : Value} (X Y : List (List PV)) (l0 l1 : List (ByteArray × Int)) (hX : l0.map encE = X) (hY : l1.map encE = Y) (hl0 : l0.length ≤ 1000000) (hl1 : l1.length ≤ 1000000) (a2 a3 a4 a5 a6 a7 a8 : Int) (h : RepP S w v (encLv X Y a2 a3 a4 a5 a6 a7 a8)) :
    ∃ A0 c0 A1 c1, v = .agg #[.slice A0 l0.length c0, .slice A1 l1.length c1, .int .i64 a2, .int .i64 a3, .int .i64 a4, .int .i64 a5, .int .i64 a6, .int .i64 a7, .int .i64 a8] ∧ H.Rd w A0 l0 ∧ H.Rd w A1 l1 := by
  obtain ⟨vs, rfl, h1, h2, h3⟩ := rep_agg h
  obtain ⟨l⟩ := vs
  match l, h1 with
  | [v0, v1, v2, v3, v4, v5, v6, v7, v8], _ =>
    have g0 := h3 0 v0 _ rfl rfl
    have g1 := h3 1 v1 _ rfl rfl
    rw [← hX] at g0
    rw [← hY] at g1
    obtain ⟨A0, c0, rfl, r0⟩ := rd_of_rep g0 hl0
    obtain ⟨A1, c1, rfl, r1⟩ := rd_of_rep g1 hl1
    obtain rfl := (rep_lit (h3 2 v2 _ rfl rfl)).1
    obtain rfl := (rep_lit (h3 3 v3 _ rfl rfl)).1
    obtain rfl := (rep_lit (h3 4 v4 _ rfl rfl)).1
    obtain rfl := (rep_lit (h3 5 v5 _ rfl rfl)).1
    obtain rfl := (rep_lit (h3 6 v6 _ rfl rfl)).1
    obtain rfl := (rep_lit (h3 7 v7 _ rfl rfl)).1
    obtain rfl := (rep_lit (h3 8 v8 _ rfl rfl)).1
    exact ⟨A0, c0, A1, c1, rfl, r0, r1⟩
theorem lookS_of {l : List (ByteArray × Int)} {key : ByteArray} {n : Int} {b : Bool} (h : LookAt l key n b) : H.lookS l key = (n, b) := by
  rcases h with ⟨rfl, k, p, h2, h3, h4, h5⟩ | ⟨rfl, rfl, h3⟩
  · obtain ⟨hk, rfl⟩ := List.getElem?_eq_some_iff.1 h2
    rw [H.lookS_at hk (by rw [h3]) (fun x hx => str_ne (h5 x _ hx (List.getElem?_eq_getElem _)))]
    rw [h4]
  · exact H.lookS_no (fun x hx => str_ne (h3 x _ (List.getElem?_eq_getElem hx)))
theorem ofS_of {l : List (ByteArray × Int)} {d : Int} {key : ByteArray} {r : Int} (h : OfAt l d key r) : H.ofS l d key = r := by
  obtain ⟨n, b, h1, h2⟩ := h.out
  unfold H.ofS
  rw [lookS_of h1, h2]
theorem needS_of {l : List (ByteArray × Int)} {a3 a4 : Int} {st : Bool} {key : ByteArray} {r : Int} (h : OfAt l (if st = true then a4 else a3) key r) : H.needS l a3 a4 key st = r := by
  obtain ⟨n, b, h1, h2⟩ := h.out
  unfold H.needS
  rw [lookS_of h1, h2]
theorem pOf_ac (X Y : List (List PV)) (l0 l1 : List (ByteArray × Int)) (hX : l0.map encE = X) (hY : l1.map encE = Y) (hl0 : l0.length ≤ 1000000) (hl1 : l1.length ≤ 1000000) (a2 a3 a4 a5 a6 a7 a8 : Int) (key : ByteArray) (r : Int) (hr : OfAt l0 a2 key r) :
    ACalls H.Tab Tryz.prog 16 [encLv X Y a2 a3 a4 a5 a6 a7 a8, .lit (.string key)] (.lit (.int .i64 r)) none := by
  refine of_calls tab_stable ⟨_, Tryz.func16, by kernel_rfl, by kernel_rfl⟩ (v0 := .int .i64 r) (fun w S vs hT hrep => ?_) (fun S w => .lit _ rfl)
  obtain ⟨v, u, rfl, q1, q2⟩ := hrep.two
  obtain ⟨A0, c0, A1, c1, rfl, r0, r1⟩ := lv_of_rep X Y l0 l1 hX hY hl0 hl1 a2 a3 a4 a5 a6 a7 a8 q1
  obtain rfl := (rep_lit q2).1
  rw [← ofS_of hr]
  exact H.Of_any A0 l0.length c0 A1 l1.length c1 a2 a3 a4 a5 a6 a7 a8 l0 key w r0 hl0 rfl
theorem pNeed_ac (X Y : List (List PV)) (l0 l1 : List (ByteArray × Int)) (hX : l0.map encE = X) (hY : l1.map encE = Y) (hl0 : l0.length ≤ 1000000) (hl1 : l1.length ≤ 1000000) (a2 a3 a4 a5 a6 a7 a8 : Int) (key : ByteArray) (st : Bool) (r : Int) (hr : OfAt l1 (if st = true then a4 else a3) key r) :
    ACalls H.Tab Tryz.prog 18 [encLv X Y a2 a3 a4 a5 a6 a7 a8, .lit (.string key), .lit (.bool st)] (.lit (.int .i64 r)) none := by
  refine of_calls tab_stable ⟨_, Tryz.func18, by kernel_rfl, by kernel_rfl⟩ (v0 := .int .i64 r) (fun w S vs hT hrep => ?_) (fun S w => .lit _ rfl)
  obtain ⟨v, u, t, rfl, q1, q2, q3⟩ := hrep.three
  obtain ⟨A0, c0, A1, c1, rfl, r0, r1⟩ := lv_of_rep X Y l0 l1 hX hY hl0 hl1 a2 a3 a4 a5 a6 a7 a8 q1
  obtain rfl := (rep_lit q2).1
  obtain rfl := (rep_lit q3).1
  rw [← needS_of hr]
  exact H.Need_any A0 l0.length c0 A1 l1.length c1 a2 a3 a4 a5 a6 a7 a8 l1 key st w r1 hl1 rfl
theorem pSend_ac (X Y : List (List PV)) (l0 l1 : List (ByteArray × Int)) (hX : l0.map encE = X) (hY : l1.map encE = Y) (hl0 : l0.length ≤ 1000000) (hl1 : l1.length ≤ 1000000) (a2 a3 a4 a5 a6 a7 a8 : Int) (key typ : ByteArray) (st : Bool) (r n : Int) (hr : OfAt l0 a2 key r) (hn : OfAt l1 (if st = true then a4 else a3) typ n) (c : Bool) (hc : decide (n ≤ r) = c) :
    ACalls H.Tab Tryz.prog 22 [encLv X Y a2 a3 a4 a5 a6 a7 a8, .lit (.string key), .lit (.string typ), .lit (.bool st)] (.lit (.bool c)) none := by
  refine of_calls tab_stable ⟨_, Tryz.func22, by kernel_rfl, by kernel_rfl⟩ (v0 := .bool c) (fun w S vs hT hrep => ?_) (fun S w => .lit _ rfl)
  obtain ⟨v, u, t, x, rfl, q1, q2, q3, q4⟩ := hrep.four
  obtain ⟨A0, c0, A1, c1, rfl, r0, r1⟩ := lv_of_rep X Y l0 l1 hX hY hl0 hl1 a2 a3 a4 a5 a6 a7 a8 q1
  obtain rfl := (rep_lit q2).1
  obtain rfl := (rep_lit q3).1
  obtain rfl := (rep_lit q4).1
  rw [← hc, ← needS_of hn, ← ofS_of hr]
  exact H.Send_any A0 l0.length c0 A1 l1.length c1 a2 a3 a4 a5 a6 a7 a8 l0 l1 key typ st w r0 r1 hl0 hl1 rfl rfl
theorem pAbove_ac (X Y : List (List PV)) (l0 l1 : List (ByteArray × Int)) (hX : l0.map encE = X) (hY : l1.map encE = Y) (hl0 : l0.length ≤ 1000000) (hl1 : l1.length ≤ 1000000) (a2 a3 a4 a5 a6 a7 a8 : Int) (key key2 : ByteArray) (r n : Int) (hr : OfAt l0 a2 key r) (hn : OfAt l0 a2 key2 n) (c : Bool) (hc : decide (n < r) = c) :
    ACalls H.Tab Tryz.prog 24 [encLv X Y a2 a3 a4 a5 a6 a7 a8, .lit (.string key), .lit (.string key2)] (.lit (.bool c)) none := by
  refine of_calls tab_stable ⟨_, Tryz.func24, by kernel_rfl, by kernel_rfl⟩ (v0 := .bool c) (fun w S vs hT hrep => ?_) (fun S w => .lit _ rfl)
  obtain ⟨v, u, t, rfl, q1, q2, q3⟩ := hrep.three
  obtain ⟨A0, c0, A1, c1, rfl, r0, r1⟩ := lv_of_rep X Y l0 l1 hX hY hl0 hl1 a2 a3 a4 a5 a6 a7 a8 q1
  obtain rfl := (rep_lit q2).1
  obtain rfl := (rep_lit q3).1
  rw [← hc, ← ofS_of hn, ← ofS_of hr]
  exact H.Above_any A0 l0.length c0 A1 l1.length c1 a2 a3 a4 a5 a6 a7 a8 l0 key key2 w r0 hl0 rfl
theorem pMay_ac (X Y : List (List PV)) (l0 l1 : List (ByteArray × Int)) (hX : l0.map encE = X) (hY : l1.map encE = Y) (hl0 : l0.length ≤ 1000000) (hl1 : l1.length ≤ 1000000) (a2 a3 a4 a5 a6 a7 a8 : Int) (key : ByteArray) (act : Int) (r : Int) (hr : OfAt l0 a2 key r) (c : Bool) (hc : (if act = 1 then decide (a8 ≤ r) else if act = 2 then decide (a6 ≤ r) else if act = 3 then decide (a5 ≤ r) else if act = 4 then decide (a7 ≤ r) else false) = c) :
    ACalls H.Tab Tryz.prog 20 [encLv X Y a2 a3 a4 a5 a6 a7 a8, .lit (.string key), .lit (.int .i64 act)] (.lit (.bool c)) none := by
  refine of_calls tab_stable ⟨_, Tryz.func20, by kernel_rfl, by kernel_rfl⟩ (v0 := .bool c) (fun w S vs hT hrep => ?_) (fun S w => .lit _ rfl)
  obtain ⟨v, u, t, rfl, q1, q2, q3⟩ := hrep.three
  obtain ⟨A0, c0, A1, c1, rfl, r0, r1⟩ := lv_of_rep X Y l0 l1 hX hY hl0 hl1 a2 a3 a4 a5 a6 a7 a8 q1
  obtain rfl := (rep_lit q2).1
  obtain rfl := (rep_lit q3).1
  have e : H.mayS l0 a2 a5 a6 a7 a8 key act = c := by unfold H.mayS; rw [ofS_of hr]; exact hc
  rw [← e]
  exact H.May_any A0 l0.length c0 A1 l1.length c1 a2 a3 a4 a5 a6 a7 a8 l0 key act w r0 hl0 rfl
theorem pCheck_ac (X Y : List (List PV)) (l0 l1 : List (ByteArray × Int)) (hX : l0.map encE = X) (hY : l1.map encE = Y) (hl0 : l0.length ≤ 1000000) (hl1 : l1.length ≤ 1000000) (a2 a3 a4 a5 a6 a7 a8 : Int) (hs0 : ∀ p ∈ l0, p.1.size ≤ 9223372036854775807) (hs1 : ∀ p ∈ l1, p.1.size ≤ 9223372036854775807) (r : Int) (hr : (if H.rightB l0 l1 a2 a3 a4 a5 a6 a7 a8 = true then 0 else 2) = r) :
    ACalls H.Tab Tryz.prog 11 [encLv X Y a2 a3 a4 a5 a6 a7 a8] (.lit (.int .i64 r)) none := by
  refine of_calls tab_stable ⟨_, Tryz.func11, by kernel_rfl, by kernel_rfl⟩ (v0 := .int .i64 r) (fun w S vs hT hrep => ?_) (fun S w => .lit _ rfl)
  obtain ⟨v, rfl, q1⟩ := hrep.one
  obtain ⟨A0, c0, A1, c1, rfl, r0, r1⟩ := lv_of_rep X Y l0 l1 hX hY hl0 hl1 a2 a3 a4 a5 a6 a7 a8 q1
  rw [← hr]
  exact H.Check_any A0 c0 A1 c1 a2 a3 a4 a5 a6 a7 a8 l0 l1 w r0 r1 hs0 hs1 hT
theorem pChange_ac (X Y : List (List PV)) (l0 l1 : List (ByteArray × Int)) (hX : l0.map encE = X) (hY : l1.map encE = Y) (hl0 : l0.length ≤ 1000000) (hl1 : l1.length ≤ 1000000) (a2 a3 a4 a5 a6 a7 a8 : Int) (Z W : List (List PV)) (m0 m1 : List (ByteArray × Int)) (hZ : m0.map encE = Z) (hW : m1.map encE = W) (hm0 : m0.length ≤ 1000000) (hm1 : m1.length ≤ 1000000) (b2 b3 b4 b5 b6 b7 b8 : Int) (hs0 : ∀ p ∈ l0, p.1.size ≤ 9223372036854775807) (hs1 : ∀ p ∈ l1, p.1.size ≤ 9223372036854775807) (ht0 : ∀ p ∈ m0, p.1.size ≤ 9223372036854775807) (ht1 : ∀ p ∈ m1, p.1.size ≤ 9223372036854775807)
    (s : ByteArray) (c : Bool) (hc : H.changeB l0 l1 a2 a3 a4 a5 a6 a7 a8 m0 m1 b2 b3 b4 b5 b6 b7 b8 s = c) :
    ACalls H.Tab Tryz.prog 26 [encLv X Y a2 a3 a4 a5 a6 a7 a8, encLv Z W b2 b3 b4 b5 b6 b7 b8, .lit (.string s)] (.lit (.bool c)) none := by
  refine of_calls tab_stable ⟨_, Tryz.func26, by kernel_rfl, by kernel_rfl⟩ (v0 := .bool c) (fun w S vs hT hrep => ?_) (fun S w => .lit _ rfl)
  obtain ⟨v, u, t, rfl, q1, q2, q3⟩ := hrep.three
  obtain ⟨A0, c0, A1, c1, rfl, r0, r1⟩ := lv_of_rep X Y l0 l1 hX hY hl0 hl1 a2 a3 a4 a5 a6 a7 a8 q1
  obtain ⟨B0, d0, B1, d1, rfl, s0, s1⟩ := lv_of_rep Z W m0 m1 hZ hW hm0 hm1 b2 b3 b4 b5 b6 b7 b8 q2
  obtain rfl := (rep_lit q3).1
  rw [← hc]
  exact H.change_any A0 c0 A1 c1 a2 a3 a4 a5 a6 a7 a8 B0 d0 B1 d1 b2 b3 b4 b5 b6 b7 b8 s l0 l1 m0 m1 w r0 r1 s0 s1 hs0 hs1 ht0 ht1 hl0 hl1 hm0 hm1 hT
theorem pUser_ac {G : World → Prop} (hst : Stable G) (s : ByteArray) (hs : s.size ≤ 9223372036854775807) : ACalls G Tryz.prog 59 [.lit (.string s)] (.lit (.bool (H.userB s))) none := by
  refine of_calls hst ⟨_, Tryz.func59, by kernel_rfl, by kernel_rfl⟩ (v0 := .bool (H.userB s)) (fun w S vs hT hrep => ?_) (fun S w => .lit _ rfl)
  obtain ⟨v, rfl, q1⟩ := hrep.one
  obtain rfl := (rep_lit q1).1
  exact H.User_any s w hs
theorem rUser_ac {G : World → Prop} (hst : Stable G) (s : ByteArray) (hs : s.size ≤ 9223372036854775807) : ACalls G Tryz.prog 61 [.lit (.string s)] (.lit (.bool (H.userB s))) none := by
  refine of_calls hst ⟨_, Tryz.func61, by kernel_rfl, by kernel_rfl⟩ (v0 := .bool (H.userB s)) (fun w S vs hT hrep => ?_) (fun S w => .lit _ rfl)
  obtain ⟨v, rfl, q1⟩ := hrep.one
  obtain rfl := (rep_lit q1).1
  refine (H.ruser_any s w hs).mono ?_
  rintro e w' ⟨rfl, rfl⟩
  exact ⟨rfl, Below.refl _ _⟩
theorem rValid_ac {G : World → Prop} (hst : Stable G) (s : ByteArray) (hs : s.size ≤ 9223372036854775807) : ACalls G Tryz.prog 98 [.lit (.string s)] (.lit (.bool (H.validB s))) none := by
  refine of_calls hst ⟨_, Tryz.func98, by kernel_rfl, by kernel_rfl⟩ (v0 := .bool (H.validB s)) (fun w S vs hT hrep => ?_) (fun S w => .lit _ rfl)
  obtain ⟨v, rfl, q1⟩ := hrep.one
  obtain rfl := (rep_lit q1).1
  exact H.rvalid_any s w hs
end Go.Proofs.YtpflimghkckpjaaGreatDoor.B
