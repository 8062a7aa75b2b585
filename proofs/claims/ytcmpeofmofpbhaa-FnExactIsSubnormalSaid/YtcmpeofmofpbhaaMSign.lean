/-
  math.Signbit: the sign of a float64. No condition.
-/
import Derived.Test.YtcmpeofmofpbhaaBits
namespace Go.Proofs.Ytcmpeofmofpbhaa
open Go.RowKit
set_option linter.unusedVariables false
theorem signbit (x : Nat) (hx : x < 18446744073709551616) (w : World) : Calls Try.prog 32 #[.float .f64 x] w fun e w' => e = .returned (.bool (decide (9223372036854775808 ≤ x))) ∧ w = w' := by
  have H := Lib.hid (Fl.sign_wrap x hx)
  go_enter Try.func32, Try.ntmps32
  go_wp2
  go_ret
  exact ⟨by rw [← H.out]; rfl, rfl⟩
end Go.Proofs.Ytcmpeofmofpbhaa
