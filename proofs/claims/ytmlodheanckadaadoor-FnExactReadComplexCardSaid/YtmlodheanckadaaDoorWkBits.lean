/-
  Walk of spec.l01Bits: the bits of a float32, one not-a-number for all. No condition.
-/
import Derived.Test.YtmlodheanckadaaDoorBits
namespace Go.Proofs.YtmlodheanckadaaDoor
open Go.RowKit
set_option linter.unusedVariables false
theorem bitsS (x : Nat) (hx : x < 4294967296) (w : World) : Calls Tryd.prog 68 #[.float .f32 x] w fun e w' => e = .returned (.int .i64 (Fl.can .f32 x)) ∧ w = w' := by
  cases hn : Fl.isN .f32 x with
  | true =>
    go_enter Tryd.func68, Tryd.ntmps68
    go_wp2
    go_ret
    exact ⟨by rw [Fl.can_nan hn]; rfl, rfl⟩
  | false =>
    go_enter Tryd.func68, Tryd.ntmps68
    go_wp2
    go_ret
    exact ⟨by rw [Fl.can_of _ _ hn]; rfl, rfl⟩
end Go.Proofs.YtmlodheanckadaaDoor
