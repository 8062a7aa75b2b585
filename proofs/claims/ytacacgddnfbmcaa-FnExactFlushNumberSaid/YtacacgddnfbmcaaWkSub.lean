/-
  Walk of impl.IsSubnormal: what it answers, for every float32. No condition.
-/
import Derived.Test.YtacacgddnfbmcaaMAbs
namespace Go.Proofs.Ytacacgddnfbmcaa
open Go.RowKit
set_option linter.unusedVariables false

theorem subI (x : Nat) (hx : x < 4294967296) (w : World) : Calls Try.prog 34 #[.float .f32 x] w fun e w' => e = .returned (.bool (Fl.subB x)) ∧ ∃ n, w' = w.drewN n := by
  have hz := Fl.eq32_zero x hx
  cases h0 : decide (x % 2147483648 = 0) with
  | true =>
    rw [h0] at hz
    go_enter Try.func34, Try.ntmps34
    go_wp2
    go_ret
    refine ⟨?_, 0, rfl⟩
    have e : Fl.subB x = false := by unfold Fl.subB; simp at h0; simp [h0]
    rw [e]; rfl
  | false =>
    rw [h0] at hz
    have HS := Lib.hid (fun v => Fl.sub_abs v x hx _ rfl)
    have hlt := Fl.widenOut_lt w x
    go_enter Try.func34, Try.ntmps34
    go_wp2_with (first | (go_at_call 46; refine (abs64 _ hlt _).mono ?_; rintro e w' ⟨rfl, rfl⟩) | go_in)
    go_ret
    refine ⟨?_, _, rfl⟩
    have e : Fl.subB x = Fl.lt .f64 (Fl.can .f64 (Fl.widenOut w x % 9223372036854775808)) (Fl.can .f64 4039728865751334912) := by rw [HS.out w]; unfold Fl.subB; simp at h0; simp [h0]
    rw [e]; rfl

end Go.Proofs.Ytacacgddnfbmcaa
