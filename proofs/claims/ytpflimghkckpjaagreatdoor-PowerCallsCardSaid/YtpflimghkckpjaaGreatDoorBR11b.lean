/-
The reference of power, walked: Of, Need, May, Send, Above, least.
-/
import Derived.Test.YtpflimghkckpjaaGreatDoorBR11
set_option linter.unusedVariables false
set_option linter.unusedSimpArgs false
namespace Go.Proofs.YtpflimghkckpjaaGreatDoor.B
open Go.RowKit
structure OfAt (l : List (ByteArray × Int)) (d : Int) (key : ByteArray) (r : Int) : Prop where
  out : ∃ n b, LookAt l key n b ∧ r = if b = true then n else d
set_option maxRecDepth 100000 in
set_option maxHeartbeats 2000000 in
theorem rOf_ac {G : World → Prop} (hst : Stable G) (X Y : List (List PV)) (l0 l1 : List (ByteArray × Int)) (hX : l0.map encE = X) (hY : l1.map encE = Y) (hl0 : l0.length ≤ 1000000) (hl1 : l1.length ≤ 1000000) (a2 a3 a4 a5 a6 a7 a8 : Int) (key : ByteArray) (r : Int) (hr : OfAt l0 a2 key r) :
    ACalls G Tryz.prog 17 [encLv X Y a2 a3 a4 a5 a6 a7 a8, .lit (.string key)] (.lit (.int .i64 r)) none := by
  obtain ⟨n, b, hn, rfl⟩ := hr.out
  refine acalls_fn hst mixed tau_ok Tryz.func17 (by kernel_rfl) (by kernel_rfl) (by kernel_rfl) ?_
  intro Q hQ
  cbv
  refine ⟨_, _, hQ _ _ _ _ (ruser_ac hst l0 X Y hX hl0 a2 a3 a4 a5 a6 a7 a8 key n b hn), ?_⟩
  cbv
  cases b
  · cbv
  · cbv
set_option maxRecDepth 100000 in
set_option maxHeartbeats 2000000 in
theorem rNeed_ac {G : World → Prop} (hst : Stable G) (X Y : List (List PV)) (l0 l1 : List (ByteArray × Int)) (hX : l0.map encE = X) (hY : l1.map encE = Y) (hl0 : l0.length ≤ 1000000) (hl1 : l1.length ≤ 1000000) (a2 a3 a4 a5 a6 a7 a8 : Int) (typ : ByteArray) (st : Bool) (r : Int) (hr : OfAt l1 (if st = true then a4 else a3) typ r) :
    ACalls G Tryz.prog 19 [encLv X Y a2 a3 a4 a5 a6 a7 a8, .lit (.string typ), .lit (.bool st)] (.lit (.int .i64 r)) none := by
  obtain ⟨n, b, hn, rfl⟩ := hr.out
  refine acalls_fn hst mixed tau_ok Tryz.func19 (by kernel_rfl) (by kernel_rfl) (by kernel_rfl) ?_
  intro Q hQ
  cbv
  refine ⟨_, _, hQ _ _ _ _ (rtyped_ac hst l1 X Y hY hl1 a2 a3 a4 a5 a6 a7 a8 typ n b hn), ?_⟩
  cbv
  cases b
  · cbv
    cases st
    · cbv
    · cbv
  · cbv
set_option maxRecDepth 100000 in
set_option maxHeartbeats 2000000 in
theorem rleast_ac {G : World → Prop} (hst : Stable G) (X Y : List (List PV)) (l0 l1 : List (ByteArray × Int)) (hX : l0.map encE = X) (hY : l1.map encE = Y) (hl0 : l0.length ≤ 1000000) (hl1 : l1.length ≤ 1000000) (a2 a3 a4 a5 a6 a7 a8 : Int) (typ : ByteArray) (M r : Int) (hM : max a4 a3 = M) (hr : OfAt l1 M typ r) :
    ACalls G Tryz.prog 112 [encLv X Y a2 a3 a4 a5 a6 a7 a8, .lit (.string typ)] (.lit (.int .i64 r)) none := by
  obtain ⟨n, b, hn, rfl⟩ := hr.out
  refine acalls_fn hst mixed tau_ok Tryz.func112 (by kernel_rfl) (by kernel_rfl) (by kernel_rfl) ?_
  intro Q hQ
  cbv
  refine ⟨_, _, hQ _ _ _ _ (rtyped_ac hst l1 X Y hY hl1 a2 a3 a4 a5 a6 a7 a8 typ n b hn), ?_⟩
  cbv
  cases b
  · cbv
    intro m hm
    obtain rfl : m = M := hm.out.trans hM
    cbv
  · cbv
set_option maxRecDepth 100000 in
set_option maxHeartbeats 2000000 in
theorem rSend_ac {G : World → Prop} (hst : Stable G) (X Y : List (List PV)) (l0 l1 : List (ByteArray × Int)) (hX : l0.map encE = X) (hY : l1.map encE = Y) (hl0 : l0.length ≤ 1000000) (hl1 : l1.length ≤ 1000000) (a2 a3 a4 a5 a6 a7 a8 : Int) (key typ : ByteArray) (st : Bool) (r n : Int) (hr : OfAt l0 a2 key r) (hn : OfAt l1 (if st = true then a4 else a3) typ n) (c : Bool) (hc : decide (n ≤ r) = c) :
    ACalls G Tryz.prog 23 [encLv X Y a2 a3 a4 a5 a6 a7 a8, .lit (.string key), .lit (.string typ), .lit (.bool st)] (.lit (.bool c)) none := by
  refine acalls_fn hst mixed tau_ok Tryz.func23 (by kernel_rfl) (by kernel_rfl) (by kernel_rfl) ?_
  intro Q hQ
  cbv
  refine ⟨_, _, hQ _ _ _ _ (rOf_ac hst X Y l0 l1 hX hY hl0 hl1 a2 a3 a4 a5 a6 a7 a8 key r hr), ?_⟩
  cbv
  refine ⟨_, _, hQ _ _ _ _ (rNeed_ac hst X Y l0 l1 hX hY hl0 hl1 a2 a3 a4 a5 a6 a7 a8 typ st n hn), ?_⟩
  cbv
  intro m hm
  obtain rfl := hm.out.trans hc
  cbv
set_option maxRecDepth 100000 in
set_option maxHeartbeats 2000000 in
theorem rAbove_ac {G : World → Prop} (hst : Stable G) (X Y : List (List PV)) (l0 l1 : List (ByteArray × Int)) (hX : l0.map encE = X) (hY : l1.map encE = Y) (hl0 : l0.length ≤ 1000000) (hl1 : l1.length ≤ 1000000) (a2 a3 a4 a5 a6 a7 a8 : Int) (key key2 : ByteArray) (r n : Int) (hr : OfAt l0 a2 key r) (hn : OfAt l0 a2 key2 n) (c : Bool) (hc : decide (n < r) = c) :
    ACalls G Tryz.prog 25 [encLv X Y a2 a3 a4 a5 a6 a7 a8, .lit (.string key), .lit (.string key2)] (.lit (.bool c)) none := by
  refine acalls_fn hst mixed tau_ok Tryz.func25 (by kernel_rfl) (by kernel_rfl) (by kernel_rfl) ?_
  intro Q hQ
  cbv
  refine ⟨_, _, hQ _ _ _ _ (rOf_ac hst X Y l0 l1 hX hY hl0 hl1 a2 a3 a4 a5 a6 a7 a8 key r hr), ?_⟩
  cbv
  refine ⟨_, _, hQ _ _ _ _ (rOf_ac hst X Y l0 l1 hX hY hl0 hl1 a2 a3 a4 a5 a6 a7 a8 key2 n hn), ?_⟩
  cbv
  intro m hm
  obtain rfl := hm.out.trans hc
  cbv
set_option maxRecDepth 100000 in
set_option maxHeartbeats 2000000 in
theorem rMay_ac {G : World → Prop} (hst : Stable G) (X Y : List (List PV)) (l0 l1 : List (ByteArray × Int)) (hX : l0.map encE = X) (hY : l1.map encE = Y) (hl0 : l0.length ≤ 1000000) (hl1 : l1.length ≤ 1000000) (a2 a3 a4 a5 a6 a7 a8 : Int) (key : ByteArray) (act : Int) (r : Int) (hr : OfAt l0 a2 key r) (c : Bool) (hc : (if act = 1 then decide (a8 ≤ r) else if act = 2 then decide (a6 ≤ r) else if act = 3 then decide (a5 ≤ r) else if act = 4 then decide (a7 ≤ r) else false) = c) :
    ACalls G Tryz.prog 21 [encLv X Y a2 a3 a4 a5 a6 a7 a8, .lit (.string key), .lit (.int .i64 act)] (.lit (.bool c)) none := by
  refine acalls_fn hst mixed tau_ok Tryz.func21 (by kernel_rfl) (by kernel_rfl) (by kernel_rfl) ?_
  intro Q hQ
  cbv
  refine ⟨_, _, hQ _ _ _ _ (rOf_ac hst X Y l0 l1 hX hY hl0 hl1 a2 a3 a4 a5 a6 a7 a8 key r hr), ?_⟩
  cbv
  intro c1 h1
  cbv
  cases c1
  · cbv
    rw [if_neg h1.no] at hc
    intro c2 h2
    cbv
    cases c2
    · cbv
      rw [if_neg h2.no] at hc
      intro c3 h3
      cbv
      cases c3
      · cbv
        rw [if_neg h3.no] at hc
        intro c4 h4
        cbv
        cases c4
        · cbv
          rw [if_neg h4.no] at hc
          subst hc
          exact ⟨rfl, trivial⟩
        · cbv
          rw [if_pos h4.yes] at hc
          intro m hm
          obtain rfl := hm.out.trans hc
          cbv
      · cbv
        rw [if_pos h3.yes] at hc
        intro m hm
        obtain rfl := hm.out.trans hc
        cbv
    · cbv
      rw [if_pos h2.yes] at hc
      intro m hm
      obtain rfl := hm.out.trans hc
      cbv
  · cbv
    rw [if_pos h1.yes] at hc
    intro m hm
    obtain rfl := hm.out.trans hc
    cbv
end Go.Proofs.YtpflimghkckpjaaGreatDoor.B
