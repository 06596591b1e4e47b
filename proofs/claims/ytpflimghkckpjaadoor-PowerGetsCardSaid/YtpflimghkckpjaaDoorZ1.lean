-- PRINTED by print.py (a twelfth state) out of the translation. Not trusted: Lean checks it.
import Derived.Test.YtpflimghkckpjaaDoorHId2
import Derived.Test.YtpflimghkckpjaaDoorZ0
namespace Go.Proofs.YtpflimghkckpjaaDoor.Z
open Go.RowKit Go.Proofs.YtpflimghkckpjaaDoorW.PrintWords Go.Proofs.YtpflimghkckpjaaDoorW.PrintLast Go.Proofs.YtpflimghkckpjaaDoorW.PrintMore
attribute [local go_sem] max2_int min2_int max_two min_two max_three min_three max_four min_four   -- for this text's walks alone
set_option linter.unusedVariables false
set_option linter.unusedSimpArgs false

/-! ### ident_User: function 23 -/
-- FOR: outlaw/ident.User
-- IMPORT: Derived.Test.YtpflimghkckpjaaDoorHId2
def ident_User.f (a0 : ByteArray) : Option (Bool) := if a0.size ≤ 9223372036854775807 then some (H.userB a0) else none
theorem ident_User.calls (a0 : ByteArray) (r : Bool) (w : World) (h : ident_User.f a0 = some r) :
    Calls Tryd.prog 23 #[.string a0] w fun e w' => e = .returned (.bool r) ∧ Below w.heap.size w w' := by
  unfold ident_User.f at h
  split at h
  · rename_i hs
    obtain rfl := Option.some.inj h
    exact H.User_any a0 w hs
  · cases h

end Go.Proofs.YtpflimghkckpjaaDoor.Z
