/-
  Walk of laws.sameFloat at two numbers that are the same: it answers true and writes nothing.
-/
import Derived.Test.YtmlodheanckadaaDoorBits
namespace Go.Proofs.YtmlodheanckadaaDoor
open Go.RowKit
set_option linter.unusedVariables false
theorem can_cases {k : FloatKind} {a b : Nat} (h : Fl.can k a = Fl.can k b) : (Fl.isN k a = true ∧ Fl.isN k b = true) ∨ (a = b ∧ Fl.isN k a = false) := by
  cases ha : Fl.isN k a <;> cases hb : Fl.isN k b
  · rw [Fl.can_of _ _ ha, Fl.can_of _ _ hb] at h; exact Or.inr ⟨h, rfl⟩
  · have := Fl.isN_can k a; rw [h, Fl.isN_can, ha, hb] at this; cases this
  · have := Fl.isN_can k a; rw [h, Fl.isN_can, ha, hb] at this; cases this
  · exact Or.inl ⟨rfl, rfl⟩
theorem sameF (a b : Nat) (h : Fl.can .f64 a = Fl.can .f64 b) (w : World) : Calls Tryd.prog 50 #[.float .f64 a, .float .f64 b] w fun e w' => e = .returned (.bool true) ∧ ∃ n, w' = w.drewN n := by
  rcases can_cases h with ⟨ha, hb⟩ | ⟨rfl, ha⟩
  · clear h
    go_enter Tryd.func50, Tryd.ntmps50
    go_wp2
    go_ret
    exact ⟨rfl, 0, rfl⟩
  · clear h
    cases hz : Fl.eq .f64 (Fl.can .f64 a) (Fl.can .f64 0)
    all_goals
      go_enter Tryd.func50, Tryd.ntmps50
      go_wp2
      go_ret
      first | exact ⟨by simp, _, rfl⟩ | exact ⟨by simp, 0, rfl⟩
end Go.Proofs.YtmlodheanckadaaDoor
