/-
  Walks of spec.l01Sum and impl.SumNumbers: the sum of a list of float32. No condition.
-/
import Derived.Test.YtacacgddnfbmcaaWkTo
namespace Go.Proofs.Ytacacgddnfbmcaa
open Go.RowKit Go.Deep
set_option linter.unusedVariables false
set_option linter.unusedSimpArgs false

/-- the sum of the first k numbers -/
def sumC (f : Nat → Nat) : Nat → Nat
  | 0 => 0
  | k + 1 => Fl.F .add .f32 (sumC f k) (Fl.can .f32 (f k))

theorem sumS (b off len cap : Nat) (f : Nat → Nat) (w : World) (hl : len ≤ 1048576) (h1 : ∀ i, i < len → w.cell? ⟨b, off + i, none⟩ = some (.float .f32 (f i))) :
    Calls Try.prog 38 #[.slice (some ⟨b, off, none⟩) len cap] w (fun e w' => ∃ r n, e = .returned (.float .f32 r) ∧ Fl.can .f32 r = sumC f len ∧ w' = w.drewN n) := by
  go_enter Try.func38, Try.ntmps38
  go_wp2
  go_loopg [3, 4] len (fun g s i wr => ∃ k n S, k ≤ len ∧ g = len - k ∧ i = .int .i64 (k : Nat) ∧ s = .float .f32 S ∧ Fl.can .f32 S = sumC f k ∧ wr = w.drewN n)
  case atStart => exact ⟨0, 0, 0, Nat.zero_le _, rfl, rfl, rfl, Fl.can32_0, rfl⟩
  case round =>
    obtain ⟨k, n, S, hk, rfl, rfl, rfl, hS, rfl⟩ := hrel
    have HS := Lib.hid hS
    clear hS
    by_cases hlt : k < len
    · have g1 := h1 k hlt
      clear h1
      go_wp2
      go_roundg (len - (k + 1))
      case measure => omega
      case rel => exact ⟨k + 1, _, _, by omega, rfl, congrArg (Value.int .i64) (by omega), rfl, by simp [Fl.can_out, HS.out, sumC], rfl⟩
    · obtain rfl : k = len := by omega
      go_wp2
      go_ret
      exact ⟨_, _, rfl, HS.out, rfl⟩

theorem sumI (b off len cap : Nat) (f : Nat → Nat) (w : World) (hl : len ≤ 256) (h1 : ∀ i, i < len → w.cell? ⟨b, off + i, none⟩ = some (.float .f32 (f i))) :
    Calls Try.prog 20 #[.slice (some ⟨b, off, none⟩) len cap] w fun e w' => ∃ r n, e = .returned (.tuple #[.float .f32 r, .bool true]) ∧ Fl.can .f32 r = sumC f len ∧ w' = w.drewN n := by
  go_enter Try.func20, Try.ntmps20
  go_wp2
  go_loopg [4, 6, 12] len (fun g s x i wr => ∃ k n S, k ≤ len ∧ g = len - k ∧ i = .int .i64 (k : Nat) ∧ s = .float .f32 S ∧ Fl.can .f32 S = sumC f k ∧ wr = w.drewN n)
  case atStart => exact ⟨0, 0, 0, Nat.zero_le _, rfl, rfl, rfl, Fl.can32_0, rfl⟩
  case round =>
    obtain ⟨k, n, S, hk, rfl, rfl, rfl, hS, rfl⟩ := hrel
    have HS := Lib.hid hS
    clear hS
    by_cases hlt : k < len
    · have g1 := h1 k hlt
      clear h1
      go_wp2
      go_roundg (len - (k + 1))
      case measure => omega
      case rel => exact ⟨k + 1, _, _, by omega, rfl, congrArg (Value.int .i64) (by omega), rfl, by simp [Fl.can_out, HS.out, sumC], rfl⟩
    · obtain rfl : k = len := by omega
      go_wp2
      go_ret2
      exact ⟨_, _, rfl, HS.out, rfl⟩
end Go.Proofs.Ytacacgddnfbmcaa
