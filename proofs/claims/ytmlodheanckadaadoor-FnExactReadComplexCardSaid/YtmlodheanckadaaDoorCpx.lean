/-
  Complex numbers as the walk meets them: made of two parts, the parts, complex64 to complex128. No condition.
-/
import Derived.Test.YtmlodheanckadaaDoorExtW
namespace Go.Proofs.YtmlodheanckadaaDoor
open Go.RowKit
set_option linter.unusedVariables false
namespace Fl
section
variable {P : Program} (w : World)
@[go_sem] theorem run_complexB (ts : Array TypeId) (t : TypeId) (k : FloatKind) (a b : Nat) : (Builtin.complex_ ts t #[.float k a, .float k b]).run P w = .ok (.complex k a b) w := by cases k <;> rfl
@[go_sem] theorem run_realB (ts : Array TypeId) (t : TypeId) (k : FloatKind) (a b : Nat) : (Builtin.real_ ts t #[.complex k a b]).run P w = .ok (.float k a) w := rfl
@[go_sem] theorem run_imagB (ts : Array TypeId) (t : TypeId) (k : FloatKind) (a b : Nat) : (Builtin.imag_ ts t #[.complex k a b]).run P w = .ok (.float k b) w := rfl
@[go_sem] theorem run_cwiden (src dst : TypeId) (a b : Nat) (hs : (P.underlying src).isSome = true) (hd : P.underlying dst = some (.complex .f64)) :
    (convert src dst (.complex .f32 a b)).run P w = .ok (.complex .f64 (widenOut w a) (widenOut (w.drewN (widenDr a)) b)) (w.drewN (widenDr a + widenDr b)) := by
  obtain ⟨u, hs'⟩ := Option.isSome_iff_exists.1 hs
  cases u <;> simp [convert, run_underlying hs', run_underlying hd, Conv.complexToComplex, run_widenRaw, Sem.run_bind]
end
end Fl
end Go.Proofs.YtmlodheanckadaaDoor
