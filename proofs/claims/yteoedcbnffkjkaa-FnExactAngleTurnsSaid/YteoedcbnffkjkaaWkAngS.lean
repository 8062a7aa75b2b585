/-
  Walk of spec.l01AngleWide at two finite numbers, not both zero: what it answers.
-/
import Derived.Test.YteoedcbnffkjkaaWkAngI
import Derived.Test.YteoedcbnffkjkaaMAbs
import Derived.Test.YteoedcbnffkjkaaWkSF
import Derived.Deep.LoopGhost
namespace Go.Proofs.Yteoedcbnffkjkaa
open Go.RowKit
set_option linter.unusedVariables false
set_option linter.unusedSimpArgs false
attribute [local go_sem] can_lit_eight

set_option maxHeartbeats 1000000 in
theorem angS (y x : Nat) (ny : Fl.isN .f32 y = false) (nx : Fl.isN .f32 x = false) (fy : Fl.finB32 y = true) (fx : Fl.finB32 x = true) (hz : (Fl.eq .f32 x 0 && Fl.eq .f32 y 0) = false)
    (hx : x < 4294967296) (hy : y < 4294967296) (w : World) :
    Calls Try.prog 49 #[.float .f64 (Fl.widen y), .float .f64 (Fl.widen x)] w (RetF .f64 (Fl.angF (Fl.widen y % 9223372036854775808) (Fl.widen x % 9223372036854775808) (Fl.lt .f32 x 0) (Fl.lt .f32 y 0)) w) := by
  have cy := Fl.can_of .f32 y ny
  have cx := Fl.can_of .f32 x nx
  have wy := Fl.widen_lt y
  have wx := Fl.widen_lt x
  have ca : Fl.can .f64 (Fl.widen y % 9223372036854775808) = Fl.widen y % 9223372036854775808 := Fl.can_of _ _ (by rw [Fl.isN_abs, Fl.isN_widen, ny])
  have cb : Fl.can .f64 (Fl.widen x % 9223372036854775808) = Fl.widen x % 9223372036854775808 := Fl.can_of _ _ (by rw [Fl.isN_abs, Fl.isN_widen, nx])
  obtain ⟨zx1, zx2⟩ := Fl.zero_same x hx nx
  obtain ⟨zy1, zy2⟩ := Fl.zero_same y hy ny
  have fx' : Fl.finB64 (Fl.widen x) = true := by rw [Fl.fin64_widen x hx, fx]
  have fy' : Fl.finB64 (Fl.widen y) = true := by rw [Fl.fin64_widen y hy, fy]
  have hcase : Fl.eq .f32 x 0 = false ∨ (Fl.eq .f32 x 0 = true ∧ Fl.eq .f32 y 0 = false) := by
    cases h : Fl.eq .f32 x 0
    · exact Or.inl rfl
    · rw [h, Bool.true_and] at hz; exact Or.inr ⟨rfl, hz⟩
  clear hz
  cases hg : Fl.gt .f64 (Fl.widen y % 9223372036854775808) (Fl.widen x % 9223372036854775808)
  all_goals
    have HT0 := Lib.hid (show Fl.t0 (Fl.widen y % 9223372036854775808) (Fl.widen x % 9223372036854775808) = _ from by unfold Fl.t0; simp only [hg, Bool.false_eq_true, if_true, if_false]; rfl)
    have HA1 := Lib.hid (show Fl.ang1 (Fl.widen y % 9223372036854775808) (Fl.widen x % 9223372036854775808) = _ from by unfold Fl.ang1; simp only [hg, Bool.false_eq_true, if_true, if_false]; rfl)
    cases hxn : Fl.lt .f32 x 0
    all_goals
      cases hyn : Fl.lt .f32 y 0
      all_goals
        rcases hcase with e1 | ⟨e1, e2⟩
        all_goals
          go_enter Try.func49, Try.ntmps49
          go_wp2_with (first | (go_at_call 34; refine (abs64 _ (by assumption) _).mono ?_; rintro e w' ⟨rfl, rfl⟩) | go_in)
          go_loopg [8, 9] 3 (fun g t c wr => g ≤ 3 ∧ c = .int .i64 (3 - (g : Int)) ∧ ∃ T n, t = .float .f64 T ∧ Fl.can .f64 T = Fl.tA (Fl.t0 (Fl.widen y % 9223372036854775808) (Fl.widen x % 9223372036854775808)) (3 - g) ∧ wr = w.drewN n)
          case atStart => exact ⟨by omega, by rfl, _, _, rfl, by rw [HT0.out]; simp [Fl.can_out, ca, cb, Fl.tA], rfl⟩
          case round =>
            obtain ⟨hg3, rfl, T, n, rfl, hT, rfl⟩ := hrel
            have HT := Lib.hid hT
            clear hT
            by_cases hg1 : 1 ≤ gk
            · go_wp2
              go_roundg (gk - 1)
              case measure => omega
              case rel =>
                refine ⟨by omega, congrArg (Value.int .i64) (by omega), _, _, rfl, ?_, rfl⟩
                rw [show 3 - (gk - 1) = (3 - gk) + 1 by omega]
                simp [Fl.can_out, Fl.can_rootOut, HT.out, Fl.tA, Fl.can_lit_one]
            · obtain rfl : gk = 0 := by omega
              have HT3 : Hid (Fl.can .f64 T = Fl.tT (Fl.widen y % 9223372036854775808) (Fl.widen x % 9223372036854775808)) := HT.out
              clear HT hg3 hg1
              go_wp2
              go_loopg [11, 12] 8 (fun g p k wr => g ≤ 8 ∧ k = .int .i64 (2 * (g : Int) - 1) ∧ ∃ P n, p = .float .f64 P ∧ Fl.can .f64 P = Fl.polyA (Fl.F .mul .f64 (Fl.tT (Fl.widen y % 9223372036854775808) (Fl.widen x % 9223372036854775808)) (Fl.tT (Fl.widen y % 9223372036854775808) (Fl.widen x % 9223372036854775808))) (8 - g) ∧ wr = w.drewN n)
              case atStart => exact ⟨by omega, by rfl, _, _, rfl, Fl.can64_0, rfl⟩
              case round =>
                obtain ⟨hg8, rfl, P, n2, rfl, hP, rfl⟩ := hrel
                have HP := Lib.hid hP
                clear hP
                by_cases hg1 : 1 ≤ gk
                · have hk1 : 1 ≤ 2 * (gk : Int) - 1 := by omega
                  go_wp2
                  go_roundg (gk - 1)
                  case measure => omega
                  case rel =>
                    refine ⟨by omega, congrArg (Value.int .i64) (by omega), _, _, rfl, ?_, rfl⟩
                    rw [Fl.polyA_step _ gk hg1 hg8]
                    simp [Fl.can_out, HP.out, HT3.out, Fl.can_lit_one, Fl.odd, Fl.can_nearest]
                · obtain rfl : gk = 0 := by omega
                  go_wp2
                  go_ret
                  refine RetF.mk ?_
                  simp [Fl.can_out, Fl.can_neg, Fl.angF, Fl.ang2, HA1.out, Fl.ang0, HP.out, HT3.out, can_lit_eight, Fl.can_lit_turn, Fl.can_lit_quarter, Fl.can_lit_half]
end Go.Proofs.Yteoedcbnffkjkaa
