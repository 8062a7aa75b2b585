/-
  Walk of laws.heldFloat32S: a list of at most 8 numbers that holds 1, 2, .. is read. No condition.
-/
import Derived.Test.YtacacgddnfbmcaaWkMark
namespace Go.Proofs.Ytacacgddnfbmcaa
open Go.RowKit Go.Deep
set_option linter.unusedVariables false
set_option linter.unusedSimpArgs false

theorem near_small (k : Nat) (h : k < 8) : Fl.can .f32 (FloatKind.f32.nearest ((k : Int) + 1)) = FloatKind.f32.nearest ((k : Int) + 1) ∧ Fl.eq .f32 (FloatKind.f32.nearest ((k : Int) + 1)) (FloatKind.f32.nearest ((k : Int) + 1)) = true := by
  have : ∀ k : Fin 8, Fl.can .f32 (FloatKind.f32.nearest ((k.val : Int) + 1)) = FloatKind.f32.nearest ((k.val : Int) + 1) ∧ Fl.eq .f32 (FloatKind.f32.nearest ((k.val : Int) + 1)) (FloatKind.f32.nearest ((k.val : Int) + 1)) = true := by decide +kernel
  exact this ⟨k, h⟩

theorem heldW (b len cap : Nat) (w : World) (hl : len ≤ 8) (h : ∀ i : Nat, i < len → w.cell? ⟨b, 0 + i, none⟩ = some (.float .f32 (FloatKind.f32.nearest ((i : Int) + 1)))) :
    Calls Try.prog 24 #[.slice (some ⟨b, 0, none⟩) len cap, .int .i64 1] w fun e w' => e = .returned (.int .i64 ((len : Int) + 1)) ∧ ∃ n, w' = w.drewN n := by
  go_enter Try.func24, Try.ntmps24
  go_wp2
  go_loopg [1, 5] len (fun g q i wr => ∃ k n : Nat, k ≤ len ∧ g = len - k ∧ q = .int .i64 ((k : Int) + 1) ∧ i = .int .i64 k ∧ wr = w.drewN n)
  case atStart => exact ⟨0, 0, Nat.zero_le _, rfl, rfl, rfl, rfl⟩
  case round =>
    obtain ⟨k, n, hk, rfl, rfl, rfl, rfl⟩ := hrel
    by_cases hlt : k < len
    · have g2 := h k hlt
      rw [Nat.zero_add] at g2
      obtain ⟨c1, c2⟩ := near_small k (by omega)
      clear h
      go_wp2
      all_goals go_roundg (len - (k + 1))
      case measure => omega
      case rel => exact ⟨k + 1, _, by omega, rfl, congrArg (Value.int .i64) (by omega), congrArg (Value.int .i64) (by omega), rfl⟩
    · obtain rfl : k = len := by omega
      go_wp2
      go_ret
      exact ⟨rfl, _, rfl⟩
end Go.Proofs.Ytacacgddnfbmcaa
