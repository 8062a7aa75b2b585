/-
  Walks of the laws FnExactFromBits and FnExactRootNumber: for every input each returns true and writes nothing. No condition.
-/
import Derived.Test.YtacacgddnfbmcaaWkSF
namespace Go.Proofs.Ytacacgddnfbmcaa
open Go.RowKit
set_option linter.unusedVariables false
theorem walk_FnExactFromBits (a0 : Int) (w0 : (Lit.int .i64 a0).wf = true) (w : World) :
    Calls Try.prog 3 #[.int .i64 a0] w fun e w' => e = .returned (.bool true) ∧ Grown w w' := by
  by_cases h : 0 ≤ a0 ∧ a0 ≤ 4294967295
  · obtain ⟨h0, h1⟩ := h
    go_enter Try.func3, Try.ntmps3
    go_wp2_with (first | (go_at_call 12; refine (sameF _ _ (by rw [Fl.can_widenOut, Fl.can_widenOut]) _).mono ?_; rintro e w' ⟨rfl, n, rfl⟩) | go_in)
    all_goals go_ret
    all_goals exact ⟨rfl, grown_drewN (Grown.refl _) _⟩
  · rcases (by omega : a0 < 0 ∨ 4294967295 < a0) with h0 | h0
    · have hd : decide (0 ≤ a0) = false := by simpa using h0
      clear h
      go_enter Try.func3, Try.ntmps3
      go_wp2_with (first | (go_at_call 12; refine (sameF _ _ (by rw [Fl.can_widenOut, Fl.can_widenOut]) _).mono ?_; rintro e w' ⟨rfl, n, rfl⟩) | go_in)
      all_goals go_ret
      all_goals exact ⟨rfl, grown_drewN (Grown.refl _) _⟩
    · have hd : decide (a0 ≤ 4294967295) = false := by simpa using h0
      have h1 : 0 ≤ a0 := by omega
      clear h
      go_enter Try.func3, Try.ntmps3
      go_wp2_with (first | (go_at_call 12; refine (sameF _ _ (by rw [Fl.can_widenOut, Fl.can_widenOut]) _).mono ?_; rintro e w' ⟨rfl, n, rfl⟩) | go_in)
      all_goals go_ret
      all_goals exact ⟨rfl, grown_drewN (Grown.refl _) _⟩
end Go.Proofs.Ytacacgddnfbmcaa
