-- PRINTED by print.py (a twelfth state) out of the translation. Not trusted: Lean checks it.
import Derived.Test.YtpflimghkckpjaaDoorHPow3
import Derived.Test.YtpflimghkckpjaaDoorZ0
namespace Go.Proofs.YtpflimghkckpjaaDoor.Z
open Go.RowKit Go.Proofs.YtpflimghkckpjaaDoorW.PrintWords Go.Proofs.YtpflimghkckpjaaDoorW.PrintLast Go.Proofs.YtpflimghkckpjaaDoorW.PrintMore
attribute [local go_sem] max2_int min2_int max_two min_two max_three min_three max_four min_four   -- for this text's walks alone
set_option linter.unusedVariables false
set_option linter.unusedSimpArgs false

/-! ### power_May: function 14 -/
-- FOR: outlaw/power.May
-- IMPORT: Derived.Test.YtpflimghkckpjaaDoorHPow3
theorem power_May.rdUserLevel {w : World} {A : Option Addr} {l : List S36} (h : Kd.C k36 w A l.length l) : H.Rd w A (l.map fun x => (x.f0, x.f1)) := by
  refine ⟨by rw [List.length_map]; exact h.2.1, fun hn => ?_⟩
  rw [List.length_map] at hn
  obtain ⟨ad, e, hc⟩ := h.2.2 hn
  refine ⟨ad, e, fun j p hj => ?_⟩
  rw [List.getElem?_map] at hj
  obtain ⟨x, hx, rfl⟩ := Option.map_eq_some_iff.1 hj
  obtain ⟨c, hl, hK, hcell⟩ := hc j x hx
  have hK' := k36_open hK
  subst hK'
  have h0 := hcell 0 _ rfl
  have h1 := hcell 1 _ rfl
  rw [Nat.add_zero] at h0
  refine ⟨h0, ?_⟩
  rw [add_field ad _ 1 (by omega)] at h1
  exact h1
def power_May.f (l0_0 : List (S36)) (l0_1 : List (S42)) (a0_2 : Int) (a0_3 : Int) (a0_4 : Int) (a0_5 : Int) (a0_6 : Int) (a0_7 : Int) (a0_8 : Int) (a1 : ByteArray) (a2 : Int) : Option (Bool) := if l0_0.length ≤ 1000000 then some (H.mayS (l0_0.map fun x => (x.f0, x.f1)) a0_2 a0_5 a0_6 a0_7 a0_8 a1 a2) else none
theorem power_May.calls (A0_0 : Option Addr) (c0_0 : Nat) (l0_0 : List (S36)) (A0_1 : Option Addr) (c0_1 : Nat) (l0_1 : List (S42)) (a0_2 : Int) (a0_3 : Int) (a0_4 : Int) (a0_5 : Int) (a0_6 : Int) (a0_7 : Int) (a0_8 : Int) (a1 : ByteArray) (a2 : Int) (r : Bool) (w : World) (hr0_0 : Kd.C k36 w A0_0 l0_0.length l0_0) (hc0_0 : l0_0.length ≤ c0_0) (hr0_1 : Kd.C k42 w A0_1 l0_1.length l0_1) (hc0_1 : l0_1.length ≤ c0_1) (h : power_May.f l0_0 l0_1 a0_2 a0_3 a0_4 a0_5 a0_6 a0_7 a0_8 a1 a2 = some r) :
    Calls Tryd.prog 14 #[.agg #[.slice A0_0 l0_0.length c0_0, .slice A0_1 l0_1.length c0_1, .int .i64 a0_2, .int .i64 a0_3, .int .i64 a0_4, .int .i64 a0_5, .int .i64 a0_6, .int .i64 a0_7, .int .i64 a0_8], .string a1, .int .i64 a2] w fun e w' => e = .returned (.bool r) ∧ Below w.heap.size w w' := by
  unfold power_May.f at h
  split at h
  · rename_i hs
    obtain rfl := Option.some.inj h
    exact H.May_any A0_0 l0_0.length c0_0 A0_1 l0_1.length c0_1 a0_2 a0_3 a0_4 a0_5 a0_6 a0_7 a0_8 _ a1 a2 w (power_May.rdUserLevel hr0_0) (by rw [List.length_map]; exact hs) (by rw [List.length_map])
  · cases h

end Go.Proofs.YtpflimghkckpjaaDoor.Z
