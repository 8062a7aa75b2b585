/-
  Walks of impl.naturalLog and spec.l01LogWide at a float64 that comes of a positive float32. No condition.
-/
import Derived.Test.YteoedcbnffkjkaaLogP
import Derived.Test.YteoedcbnffkjkaaMAbs
import Derived.Deep.LoopGhost
namespace Go.Proofs.Yteoedcbnffkjkaa
open Go.RowKit
set_option linter.unusedVariables false
set_option linter.unusedSimpArgs false

theorem can_lit_ln : Fl.can .f64 4604418534313441775 = 4604418534313441775 := by decide +kernel
theorem can_lit_th : Fl.can .f64 4609434218613702656 = 4609434218613702656 := by decide +kernel
theorem can_lit_tq : Fl.can .f64 4604930618986332160 = 4604930618986332160 := by decide +kernel
theorem can_pos (r : Nat) (h : r < 9218868437227405312) : Fl.can .f64 r = r := Fl.can_of _ _ (by rw [Fl.isN64]; exact decide_eq_false (by omega))
theorem ge_th (r : Nat) (h : r < 9218868437227405312) : Fl.ge .f64 r 4609434218613702656 = decide (4609434218613702656 ≤ r) := Fl.ge_pos .f64 _ _ (by rw [Fl.c64_inf]; omega) (by rw [Fl.c64_inf]; omega)
theorem lt_tq (r : Nat) (h : r < 9218868437227405312) : Fl.lt .f64 r 4604930618986332160 = decide (r < 4604930618986332160) := Fl.lt_pos .f64 _ _ (by rw [Fl.c64_inf]; omega) (by rw [Fl.c64_inf]; omega)
theorem can_lit_mx : Fl.can .f64 9218868437227405311 = 9218868437227405311 := by decide +kernel
attribute [local go_sem] can_lit_mx can_lit_ln can_lit_th can_lit_tq
theorem can_odd (g : Nat) : Fl.can .f64 (Fl.odd g) = Fl.odd g := Fl.can_nearest _ _

set_option maxHeartbeats 1000000 in
theorem logI (r0 : Nat) (h0 : 3936146074321813504 ≤ r0) (h1 : r0 < 5183643171103440896) (w : World) : Calls Try.prog 28 #[.float .f64 r0] w (RetF .f64 (Fl.logF r0) w) := by
  go_enter Try.func28, Try.ntmps28
  go_wp2
  go_loopg [0, 3] 2000 (fun g x e wr => ∃ (r : Nat) (j : Int), x = .float .f64 r ∧ e = .float .f64 (FloatKind.f64.nearest j) ∧ 0 ≤ j ∧ j ≤ 200 ∧ (r : Int) + j * 4503599627370496 = r0 ∧ 3936146074321813504 ≤ r ∧ r < 5183643171103440896 ∧ r / 4503599627370496 ≤ g ∧ w = wr)
  case atStart => exact ⟨r0, 0, rfl, by rfl, by omega, by omega, by omega, h0, h1, by omega, rfl⟩
  case round =>
    obtain ⟨r, j, rfl, rfl, hj0, hj1, hrj, hr0, hr1, hrg, rfl⟩ := hrel
    have HJ := Lib.hid hrj
    clear hrj
    have hcr := can_pos r (by omega)
    by_cases hb : 4609434218613702656 ≤ r
    · have hge : Fl.ge .f64 r 4609434218613702656 = true := by rw [ge_th r (by omega)]; exact decide_eq_true hb
      have d1 := fun v : World => Fl.out_of (w := v) (Fl.halve r (by omega) (by omega))
      have e1 := Fl.dr_of (Fl.halve r (by omega) (by omega))
      have hjl : j < 200 := by have := HJ.out; omega
      have d2 := fun v : World => Fl.out_of (w := v) (Fl.cnt_inc j (by omega) (by omega))
      have e2 := Fl.dr_of (Fl.cnt_inc j (by omega) (by omega))
      go_wp2
      go_roundg (gk - 1)
      case measure => omega
      case rel => exact ⟨r - 4503599627370496, j + 1, rfl, rfl, by omega, by omega, by have := HJ.out; omega, by omega, by omega, by omega, rfl⟩
    · have hge : Fl.ge .f64 r 4609434218613702656 = false := by rw [ge_th r (by omega)]; exact decide_eq_false hb
      have hb' : r < 4609434218613702656 := by omega
      clear hb hrg
      go_wp2
      go_loopg [0, 3] 2000 (fun g x e wr => ∃ (r : Nat) (i : Int), x = .float .f64 r ∧ e = .float .f64 (FloatKind.f64.nearest i) ∧ i ≤ 200 ∧ -250 ≤ i ∧ (r : Int) + i * 4503599627370496 = r0 ∧ 3936146074321813504 ≤ r ∧ r < 4609434218613702656 ∧ (4609434218613702656 - r) / 4503599627370496 ≤ g ∧ w = wr)
      case atStart => exact ⟨r, j, rfl, rfl, by omega, by omega, HJ.out, by omega, by omega, by omega, rfl⟩
      case round =>
        clear hcr hge HJ hb' hj0 hj1 hr0 hr1
        obtain ⟨r, i, rfl, rfl, hi1, hi0, hri, hr0, hr1, hrg, rfl⟩ := hrel
        have HJ := Lib.hid hri
        clear hri
        have hcr := can_pos r (by omega)
        by_cases hb : r < 4604930618986332160
        · have hlt : Fl.lt .f64 r 4604930618986332160 = true := by rw [lt_tq r (by omega)]; exact decide_eq_true hb
          have d1 := fun v : World => Fl.out_of (w := v) (Fl.double r (by omega) (by omega))
          have e1 := Fl.dr_of (Fl.double r (by omega) (by omega))
          have hjl : -250 < i := by have := HJ.out; omega
          have d2 := fun v : World => Fl.out_of (w := v) (Fl.cnt_dec i (by omega) (by omega))
          have e2 := Fl.dr_of (Fl.cnt_dec i (by omega) (by omega))
          go_wp2
          go_roundg (gk - 1)
          case measure => omega
          case rel => exact ⟨r + 4503599627370496, i - 1, rfl, rfl, by omega, by omega, by have := HJ.out; omega, by omega, by omega, by omega, rfl⟩
        · have hlt : Fl.lt .f64 r 4604930618986332160 = false := by rw [lt_tq r (by omega)]; exact decide_eq_false hb
          obtain ⟨hR, hQ⟩ := Fl.rL_of r0 r i (by omega) hr1 HJ.out
          have HL : Hid (Fl.logF r0 = Fl.logW r i) := by unfold Hid Fl.logF; rw [hR, hQ]
          clear hR hQ HJ hb hrg h0 h1 hr0 hr1 hi0 hi1
          have HC := Lib.hid hcr
          go_wp2
          go_loopg [6, 7] 13 (fun g p k wr => g ≤ 13 ∧ k = .float .f64 (Fl.odd g) ∧ ∃ P n, p = .float .f64 P ∧ Fl.can .f64 P = Fl.polyL 13 (Fl.uL r) (13 - g) ∧ wr = w.drewN n)
          case atStart => exact ⟨by omega, by rfl, _, _, rfl, Fl.can64_0, rfl⟩
          case round =>
            clear hcr hlt
            obtain ⟨hg, rfl, P, n, rfl, hP, rfl⟩ := hrel
            have HP := Lib.hid hP
            clear hP
            have hco := can_odd gk
            by_cases hg1 : 1 ≤ gk
            · obtain ⟨c1, c2⟩ := Fl.odd_facts gk hg1 hg
              have d1 := fun v : World => Fl.out_of (w := v) c1
              have e1 := Fl.dr_of c1
              clear c1
              go_wp2
              go_roundg (gk - 1)
              case measure => omega
              case rel =>
                refine ⟨by omega, rfl, _, _, rfl, ?_, rfl⟩
                rw [Fl.polyL_step 13 _ gk hg1 hg]
                simp [Fl.can_out, HP.out, HC.out, Fl.uL, Fl.sL, Fl.can_lit_one, hco]
            · obtain rfl : gk = 0 := by omega
              have c2 := Fl.odd_zero
              go_wp2
              go_ret
              refine RetF.mk ?_
              rw [HL.out]
              simp [Fl.can_out, HP.out, HC.out, Fl.uL, Fl.sL, Fl.logW, Fl.can_lit_one, Fl.can_lit_two, Fl.can_nearest, can_lit_ln]

set_option maxHeartbeats 1000000 in
theorem logS (r0 : Nat) (h0 : 3936146074321813504 ≤ r0) (h1 : r0 < 5183643171103440896) (w : World) : Calls Try.prog 43 #[.float .f64 r0] w (RetF .f64 (Fl.logF r0) w) := by
  have q1 : Fl.lt .f64 r0 0 = false := by rw [Fl.lt_pos .f64 _ _ (by rw [Fl.c64_inf]; omega) (by rw [Fl.c64_inf]; omega)]; exact decide_eq_false (by omega)
  have q2 : Fl.eq .f64 r0 0 = false := by rw [Fl.eq_pos .f64 _ _ (by rw [Fl.c64_inf]; omega) (by rw [Fl.c64_inf]; omega)]; exact decide_eq_false (by omega)
  have q3 : Fl.gt .f64 r0 9218868437227405311 = false := by rw [Fl.gt_pos .f64 _ _ (by rw [Fl.c64_inf]; omega) (by rw [Fl.c64_inf]; omega)]; exact decide_eq_false (by omega)
  have q4 := can_pos r0 (by omega)
  have q5 : Fl.isN .f64 r0 = false := by rw [Fl.isN64]; exact decide_eq_false (by omega)
  have q6 : Fl.eq .f64 r0 r0 = true := by rw [Fl.eq_self, q5]; rfl
  go_enter Try.func43, Try.ntmps43
  go_wp2
  go_loopg [0, 3] 2000 (fun g x e wr => ∃ (r : Nat) (j : Int), x = .float .f64 r ∧ e = .int .i64 j ∧ 0 ≤ j ∧ j ≤ 200 ∧ (r : Int) + j * 4503599627370496 = r0 ∧ 3936146074321813504 ≤ r ∧ r < 5183643171103440896 ∧ r / 4503599627370496 ≤ g ∧ w = wr)
  case atStart => exact ⟨r0, 0, rfl, by rfl, by omega, by omega, by omega, h0, h1, by omega, rfl⟩
  case round =>
    obtain ⟨r, j, rfl, rfl, hj0, hj1, hrj, hr0, hr1, hrg, rfl⟩ := hrel
    have HJ := Lib.hid hrj
    clear hrj
    have hcr := can_pos r (by omega)
    by_cases hb : 4609434218613702656 ≤ r
    · have hge : Fl.ge .f64 r 4609434218613702656 = true := by rw [ge_th r (by omega)]; exact decide_eq_true hb
      have d1 := fun v : World => Fl.out_of (w := v) (Fl.halve r (by omega) (by omega))
      have e1 := Fl.dr_of (Fl.halve r (by omega) (by omega))
      have hjl : j < 200 := by have := HJ.out; omega
      go_wp2
      go_roundg (gk - 1)
      case measure => omega
      case rel => exact ⟨r - 4503599627370496, j + 1, rfl, rfl, by omega, by omega, by have := HJ.out; omega, by omega, by omega, by omega, rfl⟩
    · have hge : Fl.ge .f64 r 4609434218613702656 = false := by rw [ge_th r (by omega)]; exact decide_eq_false hb
      have hb' : r < 4609434218613702656 := by omega
      clear hb hrg
      go_wp2
      go_loopg [0, 3] 2000 (fun g x e wr => ∃ (r : Nat) (i : Int), x = .float .f64 r ∧ e = .int .i64 i ∧ i ≤ 200 ∧ -250 ≤ i ∧ (r : Int) + i * 4503599627370496 = r0 ∧ 3936146074321813504 ≤ r ∧ r < 4609434218613702656 ∧ (4609434218613702656 - r) / 4503599627370496 ≤ g ∧ w = wr)
      case atStart => exact ⟨r, j, rfl, rfl, by omega, by omega, HJ.out, by omega, by omega, by omega, rfl⟩
      case round =>
        clear hcr hge HJ hb' hj0 hj1 hr0 hr1
        obtain ⟨r, i, rfl, rfl, hi1, hi0, hri, hr0, hr1, hrg, rfl⟩ := hrel
        have HJ := Lib.hid hri
        clear hri
        have hcr := can_pos r (by omega)
        by_cases hb : r < 4604930618986332160
        · have hlt : Fl.lt .f64 r 4604930618986332160 = true := by rw [lt_tq r (by omega)]; exact decide_eq_true hb
          have d1 := fun v : World => Fl.out_of (w := v) (Fl.double r (by omega) (by omega))
          have e1 := Fl.dr_of (Fl.double r (by omega) (by omega))
          have hjl : -250 < i := by have := HJ.out; omega
          go_wp2
          go_roundg (gk - 1)
          case measure => omega
          case rel => exact ⟨r + 4503599627370496, i - 1, rfl, rfl, by omega, by omega, by have := HJ.out; omega, by omega, by omega, by omega, rfl⟩
        · have hlt : Fl.lt .f64 r 4604930618986332160 = false := by rw [lt_tq r (by omega)]; exact decide_eq_false hb
          obtain ⟨hR, hQ⟩ := Fl.rL_of r0 r i (by omega) hr1 HJ.out
          have HL : Hid (Fl.logF r0 = Fl.logW r i) := by unfold Hid Fl.logF; rw [hR, hQ]
          clear hR hQ HJ hb hrg h0 h1 hr0 hr1 q1 q2 q3 q4 q5 q6
          have HC := Lib.hid hcr
          go_wp2
          go_loopg [6, 7] 13 (fun g p k wr => g ≤ 13 ∧ k = .int .i64 (2 * (g : Int) - 1) ∧ ∃ P n, p = .float .f64 P ∧ Fl.can .f64 P = Fl.polyL 13 (Fl.uL r) (13 - g) ∧ wr = w.drewN n)
          case atStart => exact ⟨by omega, by rfl, _, _, rfl, Fl.can64_0, rfl⟩
          case round =>
            clear hcr hlt
            obtain ⟨hg, rfl, P, n, rfl, hP, rfl⟩ := hrel
            have HP := Lib.hid hP
            clear hP
            by_cases hg1 : 1 ≤ gk
            · have hk1 : 1 ≤ 2 * (gk : Int) - 1 := by omega
              go_wp2
              go_roundg (gk - 1)
              case measure => omega
              case rel =>
                refine ⟨by omega, congrArg (Value.int .i64) (by omega), _, _, rfl, ?_, rfl⟩
                rw [Fl.polyL_step 13 _ gk hg1 hg]
                simp [Fl.can_out, HP.out, HC.out, Fl.uL, Fl.sL, Fl.can_lit_one, Fl.odd, Fl.can_nearest]
            · obtain rfl : gk = 0 := by omega
              go_wp2
              go_ret
              refine RetF.mk ?_
              rw [HL.out]
              simp [Fl.can_out, HP.out, HC.out, Fl.uL, Fl.sL, Fl.logW, Fl.can_lit_one, Fl.can_lit_two, Fl.can_nearest, can_lit_ln]

end Go.Proofs.Yteoedcbnffkjkaa
