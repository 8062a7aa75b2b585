/-
  math.Abs: the word without its sign. No condition.
-/
import Derived.Test.YteoedcbnffkjkaaBits
namespace Go.Proofs.Yteoedcbnffkjkaa
open Go.RowKit
set_option linter.unusedVariables false
theorem abs64 (x : Nat) (hx : x < 18446744073709551616) (w : World) : Calls Try.prog 34 #[.float .f64 x] w fun e w' => e = .returned (.float .f64 (x % 9223372036854775808)) ∧ w = w' := by
  have H := Lib.hid (Fl.abs_bits x hx)
  go_enter Try.func34, Try.ntmps34
  go_wp2
  go_ret
  exact ⟨by rw [show (x % 9223372036854775808) = (((x % 9223372036854775808 : Nat) : Int)).toNat from rfl, ← H.out]; rfl, rfl⟩
end Go.Proofs.Yteoedcbnffkjkaa
