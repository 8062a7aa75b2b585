/-
  Walks of impl.sine and spec.l01SineWide: what they answer at a number less than 2 to the power of 52. No condition.
-/
import Derived.Test.YteoedcbnffkjkaaSineF
import Derived.Test.YteoedcbnffkjkaaMAbs
import Derived.Deep.LoopGhost
namespace Go.Proofs.Yteoedcbnffkjkaa
open Go.RowKit
set_option linter.unusedVariables false
set_option linter.unusedSimpArgs false

theorem fractionI (x : Nat) (hn : Fl.isN .f64 x = false) (hf : Fl.fits x = true) (w : World) : Calls Try.prog 38 #[.float .f64 x] w (RetF .f64 (Fl.fracF x) w) := by
  have hc := Fl.can_of .f64 x hn
  cases h : Fl.lt .f64 (Fl.F .sub .f64 x (FloatKind.f64.nearest (Fl.ti x))) 0
  all_goals
    have HF := Lib.hid (show Fl.fracF x = _ from by unfold Fl.fracF; rw [h])
    go_enter Try.func38, Try.ntmps38
    go_wp2
    go_ret
    refine RetF.mk ?_
    simp [Fl.can_out, hc, Fl.can_nearest, HF.out, Fl.can_lit_one]

/-- the square of what the sine is reckoned of -/
def sqF (f : Nat) : Nat := Fl.F .mul .f64 (Fl.zF f) (Fl.zF f)

theorem polyS_step (u g : Nat) (h0 : 1 ≤ g) (h : g ≤ 8) : Fl.polyS u (8 - (g - 1)) = Fl.F .sub .f64 4607182418800017408 (Fl.F .quo .f64 (Fl.F .mul .f64 u (Fl.polyS u (8 - g))) (Fl.dn g)) := by
  rw [show 8 - (g - 1) = (8 - g) + 1 by omega]
  show Fl.F .sub .f64 _ (Fl.F .quo .f64 _ (Fl.dn (8 - (8 - g)))) = _
  rw [show 8 - (8 - g) = g by omega]

theorem sineI (x : Nat) (hn : Fl.isN .f64 x = false) (hf : Fl.fits x = true) (w : World) : Calls Try.prog 35 #[.float .f64 x] w (RetF .f64 (Fl.sineF x) w) := by
  cases h1 : Fl.ge .f64 (Fl.fracF x) 4602678819172646912
  all_goals
    have HS := Lib.hid (show Fl.sineF x = _ from by unfold Fl.sineF; rw [h1])
    have HT := Lib.hid (show Fl.foldT (Fl.fracF x) = _ from by unfold Fl.foldT; rw [h1])
    cases h2 : Fl.gt .f64 (Fl.foldT (Fl.fracF x)) 4598175219545276416
    all_goals
      have HZ := Lib.hid (show Fl.zF (Fl.fracF x) = _ from by unfold Fl.zF Fl.foldQ; rw [h2, HT.out])
      rw [HT.out] at h2
      simp only [Bool.false_eq_true, if_true, if_false] at h2
      go_enter Try.func35, Try.ntmps35
      go_wp2_with (go_at_call 38; refine (fractionI _ hn hf _).mono ?_; rintro e w' ⟨r, n, rfl, hr, rfl⟩)
      go_loopg [7, 8] 8 (fun g p k wr => g ≤ 8 ∧ k = .float .f64 (Fl.fl g) ∧ ∃ P n, p = .float .f64 P ∧ Fl.can .f64 P = Fl.polyS (sqF (Fl.fracF x)) (8 - g) ∧ wr = w.drewN n)
      case atStart =>
        exact ⟨by omega, by rfl, _, _, rfl, Fl.can_lit_one, rfl⟩
      case round =>
        obtain ⟨hg, rfl, P, n', rfl, hP, rfl⟩ := hrel
        have HP := Lib.hid hP
        have HR := Lib.hid hr
        clear hP hr
        by_cases hg1 : 1 ≤ gk
        · obtain ⟨c1, c2, c3, c4, c5⟩ := Fl.cnt_facts gk hg1 hg
          have d1 := fun v : World => Fl.out_of (w := v) c1
          have d2 := fun v : World => Fl.out_of (w := v) c2
          have d3 := fun v : World => Fl.out_of (w := v) c3
          have d4 := fun v : World => Fl.out_of (w := v) c4
          have e1 := Fl.dr_of c1
          have e2 := Fl.dr_of c2
          have e3 := Fl.dr_of c3
          have e4 := Fl.dr_of c4
          clear c1 c2 c3 c4
          go_wp2
          go_roundg (gk - 1)
          case measure => omega
          case rel =>
            refine ⟨by omega, rfl, _, _, rfl, ?_, rfl⟩
            rw [polyS_step _ gk hg1 hg]
            simp [Fl.can_out, HP.out, HR.out, HZ.out, sqF, Fl.can_lit_one, Fl.can_lit_half, Fl.can_lit_turn, Fl.dn, Fl.can_nearest]
        · obtain rfl : gk = 0 := by omega
          have c5 := Fl.cnt_zero
          go_wp2
          go_ret
          refine RetF.mk ?_
          rw [HS.out]
          simp [Fl.can_out, Fl.can_neg, HP.out, HR.out, HZ.out, sqF, Fl.can_lit_half, Fl.can_lit_turn]

theorem wrap_dn (g : Nat) (h : g ≤ 8) : wrap64 (2 * (g : Int) * (2 * (g : Int) + 1)) = 2 * (g : Int) * (2 * (g : Int) + 1) := by
  have : ∀ g : Fin 9, wrap64 (2 * (g.val : Int) * (2 * (g.val : Int) + 1)) = 2 * (g.val : Int) * (2 * (g.val : Int) + 1) := by decide +kernel
  exact this ⟨g, by omega⟩

theorem sineS (x : Nat) (hn : Fl.isN .f64 x = false) (hf : Fl.fits x = true) (hfin : Fl.eq .f64 (Fl.F .sub .f64 x x) 0 = true) (hhi : Fl.ge .f64 x 4841369599423283200 = false) (hlo : Fl.le .f64 x 14064741636278059008 = false) (w : World) :
    Calls Try.prog 46 #[.float .f64 x] w (RetF .f64 (Fl.sineF x) w) := by
  have hc := Fl.can_of .f64 x hn
  cases h0 : Fl.lt .f64 (Fl.F .sub .f64 x (FloatKind.f64.nearest (Fl.ti x))) 0
  all_goals
    have HF := Lib.hid (show Fl.fracF x = _ from by unfold Fl.fracF; simp only [h0, Bool.false_eq_true, if_true, if_false]; rfl)
    cases h1 : Fl.ge .f64 (Fl.fracF x) 4602678819172646912
    all_goals
      have HS := Lib.hid (show Fl.sineF x = _ from by unfold Fl.sineF; rw [h1])
      have HT := Lib.hid (show Fl.foldT (Fl.fracF x) = _ from by unfold Fl.foldT; rw [h1])
      cases h2 : Fl.gt .f64 (Fl.foldT (Fl.fracF x)) 4598175219545276416
      all_goals
        have HZ := Lib.hid (show Fl.zF (Fl.fracF x) = _ from by unfold Fl.zF Fl.foldQ; rw [h2, HT.out])
        rw [HT.out] at h2
        rw [HF.out] at h1 h2
        simp only [Bool.false_eq_true, if_true, if_false] at h0 h1 h2
        go_enter Try.func46, Try.ntmps46
        go_wp2
        go_loopg [7, 8] 8 (fun g p k wr => g ≤ 8 ∧ k = .int .i64 g ∧ ∃ P n, p = .float .f64 P ∧ Fl.can .f64 P = Fl.polyS (sqF (Fl.fracF x)) (8 - g) ∧ wr = w.drewN n)
        case atStart => exact ⟨by omega, by rfl, _, _, rfl, Fl.can_lit_one, rfl⟩
        case round =>
          obtain ⟨hg, rfl, P, n', rfl, hP, rfl⟩ := hrel
          have HP := Lib.hid hP
          have HC := Lib.hid hc
          clear hP hc
          by_cases hg1 : 1 ≤ gk
          · have HW := Lib.hid (wrap_dn gk hg)
            go_wp2
            go_roundg (gk - 1)
            case measure => omega
            case rel =>
              refine ⟨by omega, by first | rfl | go_num, _, _, rfl, ?_, rfl⟩
              rw [polyS_step _ gk hg1 hg]
              simp [Fl.can_out, HP.out, HC.out, HZ.out, ← HF.out, sqF, Fl.can_lit_one, Fl.can_lit_half, Fl.can_lit_turn, Fl.dn, Fl.can_nearest, HW.out]
          · obtain rfl : gk = 0 := by omega
            go_wp2
            go_ret
            refine RetF.mk ?_
            rw [HS.out]
            simp [Fl.can_out, Fl.can_neg, HP.out, HC.out, HZ.out, ← HF.out, sqF, Fl.can_lit_half, Fl.can_lit_turn, Fl.can_lit_one, Fl.can_nearest]
end Go.Proofs.Yteoedcbnffkjkaa
