/-
  Walk of the law FnExactSineTurns: for every input it returns true and writes nothing. No condition.
-/
import Derived.Test.YteoedcbnffkjkaaWkSin
import Derived.Test.YteoedcbnffkjkaaFin
import Derived.Test.YteoedcbnffkjkaaWkSF
namespace Go.Proofs.Yteoedcbnffkjkaa
open Go.RowKit
set_option linter.unusedVariables false
set_option linter.unusedSimpArgs false

/-- The sine of a float32 number of turns. -/
def sinT (x : Nat) : Nat :=
  if Fl.finB32 x = true then (if Fl.bigB (Fl.widen x) = true then 0 else Fl.narrow (Fl.sineF (Fl.widen x))) else Fl.qnan .f32

theorem over_sine {x : Nat} (h : Fl.Num x 52) : Fl.over (Fl.sineF x) = false := Fl.over_num (Fl.sineF_num h) (by omega) (by omega)
theorem can_sine {x : Nat} (h : Fl.Num x 52) : Fl.can .f64 (Fl.sineF x) = Fl.sineF x := Fl.can_num (Fl.sineF_num h)

theorem can_narrow_nan (w : World) (r : Nat) (h : Fl.isN .f64 r = true) : Fl.can .f32 (Fl.narrowOut w r) = Fl.qnan .f32 := by
  rw [Fl.can_narrowOut _ _ (Fl.over_nan h), Fl.can_nan h]; decide +kernel
theorem can_narrow_zero (w : World) : Fl.can .f32 (Fl.narrowOut w 0) = 0 := by
  rw [Fl.can_narrowOut _ _ (by decide +kernel)]; decide +kernel

theorem sinTI (x : Nat) (hx : x < 4294967296) (w : World) : Calls Try.prog 19 #[.float .f32 x] w (RetF .f32 (sinT x) w) := by
  cases hf : Fl.finB32 x with
  | false =>
    have HS : Hid (sinT x = Fl.qnan .f32) := by unfold Hid sinT; rw [hf]; rfl
    have hf' : Fl.finB32 (Fl.can .f32 x) = false := by rw [Fl.fin32_can, hf]
    have hN : Fl.isN .f64 9221120237041090561 = true := by decide +kernel
    go_enter Try.func19, Try.ntmps19
    go_wp2
    go_ret
    refine RetF.mk ?_
    rw [HS.out]
    exact can_narrow_nan _ _ hN
  | true =>
    have hf' : Fl.finB32 (Fl.can .f32 x) = true := by rw [Fl.fin32_can, hf]
    have hn := Fl.isN_fin32 hf
    have hlt := Fl.widen_lt x
    have hfw : Fl.finB64 (Fl.widen x) = true := by rw [Fl.fin64_widen x hx, hf]
    obtain ⟨b1, b2, b3⟩ := Fl.big_facts (Fl.widen x) hlt hfw
    have hca : Fl.can .f64 (Fl.widen x % 9223372036854775808) = Fl.widen x % 9223372036854775808 := Fl.can_of _ _ (by rw [Fl.isN_abs, Fl.isN_widen, hn])
    clear b1 b2
    cases hb : Fl.bigB (Fl.widen x) with
    | true =>
      have HS : Hid (sinT x = 0) := by unfold Hid sinT; rw [hf, hb]; rfl
      rw [hb] at b3
      go_enter Try.func19, Try.ntmps19
      go_wp2_with (first | (go_at_call 34; refine (abs64 _ hlt _).mono ?_; rintro e w' ⟨rfl, rfl⟩) | go_in)
      go_ret
      first | refine RetF.mk ?_ | refine RetF.mk0 ?_
      rw [HS.out]
      exact Fl.can32_0
    | false =>
      have HS : Hid (sinT x = Fl.narrow (Fl.sineF (Fl.widen x))) := by unfold Hid sinT; rw [hf, hb]; rfl
      rw [hb] at b3
      have hnum := Fl.num_small _ hlt hb
      have hfit := (Fl.fits_num hnum).1
      have hnw : Fl.isN .f64 (Fl.widen x) = false := by rw [Fl.isN_widen, hn]
      have HO := Lib.hid (over_sine hnum)
      clear hnum
      go_enter Try.func19, Try.ntmps19
      go_wp2_with (first | (go_at_call 34; refine (abs64 _ hlt _).mono ?_; rintro e w' ⟨rfl, rfl⟩) | (go_at_call 35; refine (sineI _ hnw hfit _).mono ?_; rintro e w' ⟨r, n, rfl, hr, rfl⟩; have HR := Lib.hid hr; clear hr) | go_in)
      go_ret
      rw [HS.out]
      refine RetF.mk ?_
      rw [Fl.can_narrowOut _ _ (by rw [← Fl.over_can, HR.out]; exact HO.out), HR.out]

theorem sinTS (x : Nat) (hx : x < 4294967296) (w : World) : Calls Try.prog 33 #[.float .f32 x] w (RetF .f32 (sinT x) w) := by
  cases hf : Fl.finB32 x with
  | false =>
    have HS : Hid (sinT x = Fl.qnan .f32) := by unfold Hid sinT; rw [hf]; rfl
    have hf' : Fl.finB64 (Fl.widen (Fl.can .f32 x)) = false := by rw [Fl.fin64_widen _ (Fl.can32_lt hx), Fl.fin32_can, hf]
    have hN : Fl.isN .f64 9221120237041090561 = true := by decide +kernel
    go_enter Try.func33, Try.ntmps33
    go_wp2
    go_ret
    refine RetF.mk ?_
    rw [HS.out]
    exact can_narrow_nan _ _ hN
  | true =>
    have hn := Fl.isN_fin32 hf
    have hlt := Fl.widen_lt x
    have hfw : Fl.finB64 (Fl.widen x) = true := by rw [Fl.fin64_widen x hx, hf]
    obtain ⟨b1, b2, b3⟩ := Fl.big_facts (Fl.widen x) hlt hfw
    clear b3
    cases hb : Fl.bigB (Fl.widen x) with
    | true =>
      have HS : Hid (sinT x = 0) := by unfold Hid sinT; rw [hf, hb]; rfl
      rw [hb] at b1 b2
      cases hs : decide (Fl.widen x < 9223372036854775808)
      all_goals
        have hs2 : decide (9223372036854775808 ≤ Fl.widen x) = !decide (Fl.widen x < 9223372036854775808) := by rw [← decide_not]; congr 1; exact propext ⟨fun h => by omega, fun h => by omega⟩
        rw [hs2] at b2
        rw [hs] at b1 b2
        simp only [Bool.not_true, Bool.not_false, Bool.and_true, Bool.true_and, Bool.false_and] at b1 b2
        clear hs2 hs
        go_enter Try.func33, Try.ntmps33
        go_wp2
        go_ret
        refine RetF.mk ?_
        rw [HS.out]
        exact can_narrow_zero _
    | false =>
      have HS : Hid (sinT x = Fl.narrow (Fl.sineF (Fl.widen x))) := by unfold Hid sinT; rw [hf, hb]; rfl
      rw [hb, Bool.and_false] at b1 b2
      have hnum := Fl.num_small _ hlt hb
      have hfit := (Fl.fits_num hnum).1
      have hnw : Fl.isN .f64 (Fl.widen x) = false := by rw [Fl.isN_widen, hn]
      have hfe : Fl.eq .f64 (Fl.F .sub .f64 (Fl.widen x) (Fl.widen x)) 0 = true := by rw [Fl.fin64, hfw]
      have HO := Lib.hid (over_sine hnum)
      clear hnum
      go_enter Try.func33, Try.ntmps33
      go_wp2_with (first | (go_at_call 46; refine (sineS _ hnw hfit hfe b1 b2 _).mono ?_; rintro e w' ⟨r, n, rfl, hr, rfl⟩; have HR := Lib.hid hr; clear hr) | go_in)
      go_ret
      rw [HS.out]
      refine RetF.mk ?_
      rw [Fl.can_narrowOut _ _ (by rw [← Fl.over_can, HR.out]; exact HO.out), HR.out]

theorem walk_FnExactSineTurns (a0 : Nat) (w0 : (Lit.float .f32 a0).wf = true) (w : World) :
    Calls Try.prog 6 #[.float .f32 a0] w fun e w' => e = .returned (.bool true) ∧ Grown w w' := by
  have hx := Fl.wf32 w0
  go_enter Try.func6, Try.ntmps6
  go_wp2_with (first | (go_at_call 33; refine (sinTS _ hx _).mono ?_; rintro e w' ⟨r1, n1, rfl, hr1, rfl⟩; have HR1 := Lib.hid hr1; clear hr1) | (go_at_call 19; refine (sinTI _ hx _).mono ?_; rintro e w' ⟨r2, n2, rfl, hr2, rfl⟩; have HR2 := Lib.hid hr2; clear hr2) | (go_at_call 15; refine (sameF _ _ (by rw [Fl.can_widenOut, Fl.can_widenOut, HR1.out, HR2.out]) _).mono ?_; rintro e w' ⟨rfl, n, rfl⟩) | go_in)
  all_goals go_ret
  all_goals exact ⟨rfl, grown_drewN (Grown.refl _) _⟩
end Go.Proofs.Yteoedcbnffkjkaa
