/-
The reference of power, walked: user, typed.
-/
import Derived.Test.YtpflimghkckpjaaGreatDoorBLib
set_option linter.unusedVariables false
set_option linter.unusedSimpArgs false
namespace Go.Proofs.YtpflimghkckpjaaGreatDoor.B
open Go.RowKit
set_option maxRecDepth 100000 in
set_option maxHeartbeats 2000000 in
theorem ruser_ac {G : World → Prop} (hst : Stable G) (l : List (ByteArray × Int)) (X Y : List (List PV)) (hX : l.map encE = X) (hl : l.length ≤ 1000000) (a2 a3 a4 a5 a6 a7 a8 : Int) (key : ByteArray) (n : Int) (b : Bool) (hn : LookAt l key n b) :
    ACalls G Tryz.prog 63 [encLv X Y a2 a3 a4 a5 a6 a7 a8, .lit (.string key)] (.tup [.lit (.int .i64 n), .lit (.bool b)]) none := by
  have hXl : X.length = l.length := by rw [← hX]; simp
  refine acalls_fn hst mixed tau_ok Tryz.func63 (by kernel_rfl) (by kernel_rfl) (by kernel_rfl) ?_
  intro Q hQ
  cbv
  refine ⟨[1, 2], [2], Int, fun k => [(.t 6, ⟨.pv (.lit (.int .i64 k)), none, none⟩)], Upto X.length (fun x => ∀ q, l[x]? = some q → q.1 ≠ key), fun k => X.length - k.toNat, 0, Upto.zero, ?_, ?_⟩
  · cbv
    simp
  · intro k hk
    cbv
    intro m1 h1
    cbv
    intro c1 h2
    cbv
    obtain rfl := h1.len
    have h0 := hk.lo
    cases c1
    · cbv
      have h := h2.no
      obtain ⟨rfl, rfl⟩ := hn.miss (fun x q hq => hk.full h x (by rw [hXl]; exact (List.getElem?_eq_some_iff.1 hq).1) q hq)
      exact ⟨rfl, trivial⟩
    · have h := h2.yes
      cbv
      refine ⟨Is.at h0 h, ?_⟩
      intro r hr
      obtain ⟨⟨u, un⟩, hx, rfl⟩ := hr.row hX
      cbv
      intro c2 h3
      cbv
      cases c2
      · cbv
        intro m2 h4
        obtain rfl := h4.inc h0 h (by omega)
        cbv
        refine ⟨k + 1, hk.next h (fun q hq => ?_), less h0 h, ?_⟩
        · rw [hx] at hq
          cases hq
          exact h3.no
        · cbv
          simp
      · cbv
        refine ⟨Is.at h0 h, ?_⟩
        intro r hr2
        obtain ⟨⟨u2, un2⟩, hx2, rfl⟩ := hr2.row hX
        rw [hx] at hx2
        cases hx2
        cbv
        obtain ⟨rfl, rfl⟩ := hn.hit hx h3.yes (fun x q hxk hq => hk.all x (by omega) q hq)
        exact ⟨rfl, trivial⟩
set_option maxRecDepth 100000 in
set_option maxHeartbeats 2000000 in
theorem rtyped_ac {G : World → Prop} (hst : Stable G) (l : List (ByteArray × Int)) (X Y : List (List PV)) (hX : l.map encE = Y) (hl : l.length ≤ 1000000) (a2 a3 a4 a5 a6 a7 a8 : Int) (key : ByteArray) (n : Int) (b : Bool) (hn : LookAt l key n b) :
    ACalls G Tryz.prog 65 [encLv X Y a2 a3 a4 a5 a6 a7 a8, .lit (.string key)] (.tup [.lit (.int .i64 n), .lit (.bool b)]) none := by
  have hXl : Y.length = l.length := by rw [← hX]; simp
  refine acalls_fn hst mixed tau_ok Tryz.func65 (by kernel_rfl) (by kernel_rfl) (by kernel_rfl) ?_
  intro Q hQ
  cbv
  refine ⟨[1, 2], [2], Int, fun k => [(.t 6, ⟨.pv (.lit (.int .i64 k)), none, none⟩)], Upto Y.length (fun x => ∀ q, l[x]? = some q → q.1 ≠ key), fun k => Y.length - k.toNat, 0, Upto.zero, ?_, ?_⟩
  · cbv
    simp
  · intro k hk
    cbv
    intro m1 h1
    cbv
    intro c1 h2
    cbv
    obtain rfl := h1.len
    have h0 := hk.lo
    cases c1
    · cbv
      have h := h2.no
      obtain ⟨rfl, rfl⟩ := hn.miss (fun x q hq => hk.full h x (by rw [hXl]; exact (List.getElem?_eq_some_iff.1 hq).1) q hq)
      exact ⟨rfl, trivial⟩
    · have h := h2.yes
      cbv
      refine ⟨Is.at h0 h, ?_⟩
      intro r hr
      obtain ⟨⟨u, un⟩, hx, rfl⟩ := hr.row hX
      cbv
      intro c2 h3
      cbv
      cases c2
      · cbv
        intro m2 h4
        obtain rfl := h4.inc h0 h (by omega)
        cbv
        refine ⟨k + 1, hk.next h (fun q hq => ?_), less h0 h, ?_⟩
        · rw [hx] at hq
          cases hq
          exact h3.no
        · cbv
          simp
      · cbv
        refine ⟨Is.at h0 h, ?_⟩
        intro r hr2
        obtain ⟨⟨u2, un2⟩, hx2, rfl⟩ := hr2.row hX
        rw [hx] at hx2
        cases hx2
        cbv
        obtain ⟨rfl, rfl⟩ := hn.hit hx h3.yes (fun x q hxk hq => hk.all x (by omega) q hq)
        exact ⟨rfl, trivial⟩
end Go.Proofs.YtpflimghkckpjaaGreatDoor.B
