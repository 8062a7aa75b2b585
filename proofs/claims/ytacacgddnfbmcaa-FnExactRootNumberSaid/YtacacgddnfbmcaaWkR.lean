/-
  Walk of the law FnExactRootNumber: for every input it returns true and writes nothing. No condition.
-/
import Derived.Test.YtacacgddnfbmcaaWkSF
import Derived.Test.YtacacgddnfbmcaaBound
namespace Go.Proofs.Ytacacgddnfbmcaa
open Go.RowKit
set_option linter.unusedVariables false
namespace Fl
open Ieee
theorem root_over (x : Nat) (hx : x < 4294967296) : over (root (widen x)) = false := by
  rcases w32 x hx with h | ⟨s, h, hw⟩ | ⟨s, r, hr, h, hw⟩
  · have : widen x = qnan .f64 := by unfold widen; rw [if_pos h]
    rw [this]; decide +kernel
  · rw [hw]; cases s <;> decide +kernel
  · have hlt := wideRung_lt r hr
    rw [hw]
    obtain ⟨m, e, hrd, he, hN, h0⟩ := read_fin FloatKind.f64.format s (wideRung r) (by rw [c64_inf]; omega)
    rw [c64_least] at he
    cases s with
    | false =>
      obtain ⟨s', m', e', hrd', he', hl⟩ := num_log (num_word false (wideRung r) 128 (by omega) (by omega) (by rw [show ((128 : Int) + 1023).toNat = 1151 from rfl]; omega)) (by omega)
      rw [hrd] at hrd'
      injection hrd' with e1 e2 e3
      subst e2 e3
      have hm : m < 2 ^ 53 := by
        have := hrd
        rw [read_rung _ false (wideRung r) (by rw [c64_inf]; omega), c64_binade] at this
        split at this
        · injection this with _ e _; omega
        · injection this with _ e _; omega
      obtain ⟨_, _, _, hn⟩ := root_pos hrd he hl hm 66 (by omega) (by omega) (by omega)
      exact over_num hn (by omega) (by omega)
    | true =>
      by_cases hm : m = 0
      · subst hm
        unfold root Format.sqrt
        rw [hrd]
        simp only [Datum.root, if_true, Option.map_some, Option.getD_some]
        exact over_num (num_write true 0 e 0 (by omega) (by omega) (by unfold Vle; simp)) (by omega) (by omega)
      · unfold root Format.sqrt
        rw [hrd]
        simp only [Datum.root, if_neg hm, if_true, Option.map_none, Option.getD_none]
        decide +kernel
theorem root_num32 (w1 w2 w3 : World) (x : Nat) (hx : x < 4294967296) : can .f32 (narrowOut w1 (rootOut w2 (widenOut w3 x))) = narrow (root (widen (can .f32 x))) := by
  have h := root_over (can .f32 x) (can32_lt hx)
  have e : can .f64 (rootOut w2 (widenOut w3 x)) = root (widen (can .f32 x)) := by rw [can_rootOut, can_widenOut]
  rw [can_narrowOut _ _ (by rw [← over_can, e]; exact h), e]
end Fl

theorem walk_FnExactRootNumber (a0 : Nat) (w0 : (Lit.float .f32 a0).wf = true) (w : World) :
    Calls Try.prog 9 #[.float .f32 a0] w fun e w' => e = .returned (.bool true) ∧ Grown w w' := by
  have hx := Fl.wf32 w0
  have H := Lib.hid (fun w1 w2 w3 => Fl.root_num32 w1 w2 w3 a0 hx)
  go_enter Try.func9, Try.ntmps9
  go_wp2_with (first | (go_at_call 12; refine (sameF _ _ (by rw [Fl.can_widenOut, Fl.can_widenOut, H.out, H.out]) _).mono ?_; rintro e w' ⟨rfl, n, rfl⟩) | go_in)
  all_goals go_ret
  all_goals exact ⟨rfl, grown_drewN (Grown.refl _) _⟩
end Go.Proofs.Ytacacgddnfbmcaa
