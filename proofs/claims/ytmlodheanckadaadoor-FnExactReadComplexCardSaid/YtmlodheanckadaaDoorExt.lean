/-
  What the functions of Go's library without a body give here (the bits of a number, the number of some bits, the root). No condition.
-/
import Derived.Test.YtmlodheanckadaaDoorNear
import Derived.Test.YtmlodheanckadaaDoorChecked
import Derived.Laws.Externs
import Derived.RowKit3
namespace Go.Proofs.YtmlodheanckadaaDoor
open Go.RowKit
set_option linter.unusedVariables false
attribute [go_sem] Fl.can_out Fl.eq_can_self Fl.can_can
theorem grown_drewN {W w : World} (h : Grown W w) (n : Nat) : Grown W (w.drewN n) := h

@[go_sem] theorem ext_Float32bits (x : Nat) (w : World) : (callFunc 82 #[.float .f32 x]).run Tryd.prog w = .ok (.value (.int .u32 x)) w := by rw [run_callFunc_extern (e := Extern.MathFloatBits.float32bits) Tryd.func82 (by kernel_rfl) (by kernel_rfl) (by kernel_rfl) (by kernel_rfl)]; rfl
@[go_sem] theorem ext_Float32frombits (x : Int) (w : World) : (callFunc 71 #[.int .u32 x]).run Tryd.prog w = .ok (.value (.float .f32 x.toNat)) w := by rw [run_callFunc_extern (e := Extern.MathFloatBits.float32frombits) Tryd.func71 (by kernel_rfl) (by kernel_rfl) (by kernel_rfl) (by kernel_rfl)]; rfl
end Go.Proofs.YtmlodheanckadaaDoor
