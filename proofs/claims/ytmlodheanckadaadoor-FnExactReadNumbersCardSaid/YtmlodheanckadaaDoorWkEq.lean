/-
  Walk of laws.eqFloat32S at two lists of the same numbers: it answers true and writes nothing. No condition.
-/
import Derived.Test.YtmlodheanckadaaDoorWkTo
import Derived.Deep.RegionWith
namespace Go.Proofs.YtmlodheanckadaaDoor
open Go.RowKit Go.Deep
set_option linter.unusedVariables false
set_option linter.unusedSimpArgs false

set_option maxHeartbeats 4000000 in
theorem eqF (b1 o1 b2 o2 len cap1 cap2 : Nat) (f : Nat → Nat) (w : World) (hl : len ≤ 1048576) (h1 : ∀ i, i < len → w.cell? ⟨b1, o1 + i, none⟩ = some (.float .f32 (f i))) (h2 : ∀ i, i < len → w.cell? ⟨b2, o2 + i, none⟩ = some (.float .f32 (f i))) :
    Calls Tryd.prog 25 #[.slice (some ⟨b1, o1, none⟩) len cap1, .slice (some ⟨b2, o2, none⟩) len cap2] w fun e w' => e = .returned (.bool true) ∧ ∃ n, w' = w.drewN n := by
  go_enter Tryd.func25, Tryd.ntmps25
  go_wp2
  go_loopg [5] len (fun g i wr => ∃ k n : Nat, k ≤ len ∧ g = len - k ∧ i = .int .i64 k ∧ wr = w.drewN n)
  case atStart => exact ⟨0, 0, Nat.zero_le _, rfl, rfl, rfl⟩
  case round =>
    obtain ⟨k, n0, hk, rfl, rfl, rfl⟩ := hrel
    by_cases hlt : k < len
    · have g1 := h1 k hlt
      have g2 := h2 k hlt
      clear h1 h2
      go_wp2
      go_region_with (go_at_call 50; refine (sameF _ _ (by rw [Fl.can_widenOut, Fl.can_widenOut]) _).mono ?_; rintro e w' ⟨rfl, n, rfl⟩)
      all_goals go_wp2
      all_goals go_roundg (len - (k + 1))
      all_goals first | omega | exact ⟨k + 1, _, by omega, rfl, congrArg (Value.int .i64) (by omega), rfl⟩
    · obtain rfl : k = len := by omega
      go_wp2
      go_ret
      exact ⟨rfl, _, rfl⟩
end Go.Proofs.YtmlodheanckadaaDoor
