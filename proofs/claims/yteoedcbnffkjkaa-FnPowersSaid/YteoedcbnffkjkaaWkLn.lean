/-
  Walk of the law FnExactLogNumber: for every input it returns true and writes nothing. No condition.
-/
import Derived.Test.YteoedcbnffkjkaaWkLog
import Derived.Test.YteoedcbnffkjkaaZero32
import Derived.Test.YteoedcbnffkjkaaWkSF
namespace Go.Proofs.Yteoedcbnffkjkaa
open Go.RowKit
set_option linter.unusedVariables false
set_option linter.unusedSimpArgs false
attribute [local go_sem] can_lit_mx can_lit_ln can_lit_th can_lit_tq

theorem narrow_of_nan (w : World) (r : Nat) (h : Fl.isN .f64 r = true) : Fl.can .f32 (Fl.narrowOut w r) = Fl.qnan .f32 := by
  rw [Fl.can_narrowOut _ _ (Fl.over_nan h), Fl.can_nan h]; decide +kernel
theorem nan_lit : Fl.isN .f64 9221120237041090561 = true := by decide +kernel
theorem narrow_ninf (w : World) : Fl.can .f32 (Fl.narrowOut w 18442240474082181120) = 4286578688 := by
  rw [Fl.can_narrowOut _ _ (by decide +kernel)]; decide +kernel
theorem narrow_inf (w : World) : Fl.can .f32 (Fl.narrowOut w 9218868437227405312) = 2139095040 := by
  rw [Fl.can_narrowOut _ _ (by decide +kernel)]; decide +kernel
theorem logF_num (r0 : Nat) (h0 : 3936146074321813504 ≤ r0) (h1 : r0 < 5183643171103440896) : Fl.Num (Fl.logF r0) 45 := by
  unfold Fl.logF
  refine Fl.logW_num _ _ ?_ ?_ ?_ ?_
  · unfold Fl.rL; omega
  · unfold Fl.rL; omega
  · unfold Fl.qL Fl.rL; omega
  · unfold Fl.qL Fl.rL; omega
theorem logF_over (r0 : Nat) (h0 : 3936146074321813504 ≤ r0) (h1 : r0 < 5183643171103440896) : Fl.over (Fl.logF r0) = false := Fl.over_num (logF_num r0 h0 h1) (by omega) (by omega)

/-- The logarithm of a float32. -/
inductive LnT (x v : Nat) : Prop
  | nan (h : Fl.isN .f32 x = true) (hv : v = Fl.qnan .f32) : LnT x v
  | zero (s : Bool) (h : x = FloatKind.f32.format.word s 0) (hv : v = 4286578688) : LnT x v
  | neg (r : Nat) (h : x = FloatKind.f32.format.word true r) (h0 : r ≠ 0) (hr : r ≤ 2139095040) (hv : v = Fl.qnan .f32) : LnT x v
  | inf (h : x = 2139095040) (hv : v = 2139095040) : LnT x v
  | pos (h0 : x ≠ 0) (hr : x < 2139095040) (hv : v = Fl.narrow (Fl.logF (Fl.wideRung x))) : LnT x v
theorem lnT (x : Nat) (hx : x < 4294967296) : ∃ v, LnT x v := by
  rcases Fl.kind x hx with h | ⟨s, h⟩ | ⟨r, h, h0, hr⟩ | h | ⟨h0, hr⟩
  · exact ⟨_, .nan h rfl⟩
  · exact ⟨_, .zero s h rfl⟩
  · exact ⟨_, .neg r h h0 hr rfl⟩
  · exact ⟨_, .inf h rfl⟩
  · exact ⟨_, .pos h0 hr rfl⟩

set_option maxRecDepth 100000 in
theorem lnI (x v : Nat) (hx : x < 4294967296) (hv : LnT x v) (w : World) : Calls Try.prog 13 #[.float .f32 x] w (RetF .f32 v w) := by
  rcases hv with ⟨h, rfl⟩ | ⟨s, h, rfl⟩ | ⟨r, h, h0, hr, rfl⟩ | ⟨h, rfl⟩ | ⟨h0, hr, hv⟩
  · have q1 : Fl.eq .f32 (Fl.can .f32 x) 0 = false := Fl.eq_nan_left (by rw [Fl.isN_can]; exact h)
    have q2 : Fl.lt .f32 (Fl.can .f32 x) 0 = false := Fl.lt_nan_left (by rw [Fl.isN_can]; exact h)
    go_enter Try.func13, Try.ntmps13
    go_wp2
    go_ret
    exact RetF.mk (narrow_of_nan _ _ nan_lit)
  · obtain ⟨f1, f2, f3⟩ := Fl.word_facts .f32 s 0 (by omega)
    have hn : Fl.isN .f32 x = false := by rw [h]; exact Fl.isN_word .f32 s 0 (by omega)
    rw [← h] at f1 f2
    have q0 := Fl.can_of .f32 x hn
    have q1 : Fl.eq .f32 (Fl.can .f32 x) 0 = true := by rw [q0]; exact f1
    clear f1 f2 f3 h q0
    go_enter Try.func13, Try.ntmps13
    go_wp2
    go_ret
    exact RetF.mk (narrow_ninf _)
  · obtain ⟨f1, f2, f3⟩ := Fl.word_facts .f32 true r (by rw [Fl.c32_inf]; exact hr)
    have hn : Fl.isN .f32 x = false := by rw [h]; exact Fl.isN_word .f32 true r (by rw [Fl.c32_inf]; exact hr)
    rw [← h] at f1 f2
    have q0 := Fl.can_of .f32 x hn
    have q1 : Fl.eq .f32 (Fl.can .f32 x) 0 = false := by rw [q0, f1]; exact decide_eq_false h0
    have q2 : Fl.lt .f32 (Fl.can .f32 x) 0 = true := by rw [q0, f2]; simp [h0]
    clear f1 f2 f3 h q0
    go_enter Try.func13, Try.ntmps13
    go_wp2
    go_ret
    exact RetF.mk (narrow_of_nan _ _ nan_lit)
  · subst h
    have q1 : Fl.eq .f32 (Fl.can .f32 2139095040) 0 = false := by decide +kernel
    have q2 : Fl.lt .f32 (Fl.can .f32 2139095040) 0 = false := by decide +kernel
    have q3 : Fl.isN .f32 2139095040 = false := by decide +kernel
    have q4 : Fl.finB32 (Fl.can .f32 2139095040) = false := by decide +kernel
    go_enter Try.func13, Try.ntmps13
    go_wp2
    go_ret
    first | exact RetF.mk (by decide +kernel) | exact RetF.mk0 (by decide +kernel)
  · have HV := Lib.hid hv
    clear hv
    have f1 : Fl.eq .f32 x 0 = decide (x = 0) := by have := (Fl.word_facts .f32 false x (by rw [Fl.c32_inf]; omega)).1; exact this
    have f2 : Fl.lt .f32 x 0 = (false && decide (x ≠ 0)) := by have := (Fl.word_facts .f32 false x (by rw [Fl.c32_inf]; omega)).2.1; exact this
    obtain ⟨R, hR, hR1, hR2, hR3⟩ := Fl.widen_word false x (by omega)
    rw [Fl.word64, if_neg (by decide), hR3 hr] at hR
    have hR : Fl.widen x = Fl.wideRung x := hR
    have hn : Fl.isN .f32 x = false := Fl.isN_word .f32 false x (by rw [Fl.c32_inf]; omega)
    have q0 := Fl.can_of .f32 x hn
    have q1 : Fl.eq .f32 (Fl.can .f32 x) 0 = false := by rw [q0, f1]; exact decide_eq_false h0
    have q2 : Fl.lt .f32 (Fl.can .f32 x) 0 = false := by rw [q0, f2]; rfl
    have q4 : Fl.finB32 (Fl.can .f32 x) = true := by rw [q0]; unfold Fl.finB32; exact decide_eq_true (by omega)
    have l0 := Fl.wideRung_lo x h0 hr
    have l1 := Fl.wideRung_lt x hr
    have HO := Lib.hid (logF_over (Fl.wideRung x) l0 l1)
    clear f1 f2 hR1 hR2 hR3 q0
    go_enter Try.func13, Try.ntmps13
    go_wp2_with (first | (go_at_call 28; refine (logI _ l0 l1 _).mono ?_; rintro e w' ⟨r, n, rfl, hr', rfl⟩; have HR := Lib.hid hr'; clear hr') | go_in)
    go_ret
    refine RetF.mk ?_
    rw [HV.out, Fl.can_narrowOut _ _ (by rw [← Fl.over_can, HR.out]; exact HO.out), HR.out]

set_option maxRecDepth 100000 in
theorem lnS (x v : Nat) (hx : x < 4294967296) (hv : LnT x v) (w : World) : Calls Try.prog 29 #[.float .f32 x] w (RetF .f32 v w) := by
  rcases hv with ⟨h, rfl⟩ | ⟨s, h, rfl⟩ | ⟨r, h, h0, hr, rfl⟩ | ⟨h, rfl⟩ | ⟨h0, hr, hv⟩
  · have q0 : Fl.eq .f64 (Fl.widen (Fl.can .f32 x)) (Fl.widen (Fl.can .f32 x)) = false := Fl.eq_nan_left (by rw [Fl.isN_widen, Fl.isN_can]; exact h)
    go_enter Try.func29, Try.ntmps29
    go_wp2
    go_ret
    exact RetF.mk (narrow_of_nan _ _ nan_lit)
  · obtain ⟨R, hR, hR1, hR2, hR3⟩ := Fl.widen_word s 0 (by omega)
    have hn : Fl.isN .f32 x = false := by rw [h]; exact Fl.isN_word .f32 s 0 (by omega)
    rw [← h, hR2.2 rfl] at hR
    obtain ⟨f1, f2, f3⟩ := Fl.word_facts .f64 s 0 (by omega)
    rw [← hR] at f1 f2
    have q0 := Fl.can_of .f32 x hn
    have q2 : Fl.lt .f64 (Fl.widen x) 0 = false := by rw [f2]; simp
    have q1 : Fl.eq .f64 (Fl.widen x) 0 = true := f1
    have q6 : Fl.eq .f64 (Fl.widen x) (Fl.widen x) = true := by rw [Fl.eq_self, Fl.isN_widen, hn]; rfl
    clear f1 f2 f3 h hR hR1 hR2 hR3
    go_enter Try.func29, Try.ntmps29
    go_wp2
    go_ret
    exact RetF.mk (narrow_ninf _)
  · obtain ⟨R, hR, hR1, hR2, hR3⟩ := Fl.widen_word true r hr
    have hn : Fl.isN .f32 x = false := by rw [h]; exact Fl.isN_word .f32 true r (by rw [Fl.c32_inf]; exact hr)
    rw [← h] at hR
    obtain ⟨f1, f2, f3⟩ := Fl.word_facts .f64 true R (by rw [Fl.c64_inf]; exact hR1)
    rw [← hR] at f1 f2
    have hR0 : R ≠ 0 := fun e => h0 (hR2.1 e)
    have q0 := Fl.can_of .f32 x hn
    have q2 : Fl.lt .f64 (Fl.widen x) 0 = true := by rw [f2]; simp [hR0]
    have q6 : Fl.eq .f64 (Fl.widen x) (Fl.widen x) = true := by rw [Fl.eq_self, Fl.isN_widen, hn]; rfl
    clear f1 f2 f3 h hR hR1 hR2 hR3
    go_enter Try.func29, Try.ntmps29
    go_wp2
    go_ret
    exact RetF.mk (narrow_of_nan _ _ nan_lit)
  · subst h
    have q3 : Fl.isN .f32 2139095040 = false := by decide +kernel
    have q4 : Fl.widen 2139095040 = 9218868437227405312 := by decide +kernel
    have q5 : Fl.can .f64 9218868437227405312 = 9218868437227405312 := by decide +kernel
    have q1 : Fl.eq .f64 9218868437227405312 0 = false := by decide +kernel
    have q2 : Fl.lt .f64 9218868437227405312 0 = false := by decide +kernel
    have q6 : Fl.eq .f64 9218868437227405312 9218868437227405312 = true := by decide +kernel
    have q7 : Fl.gt .f64 9218868437227405312 9218868437227405311 = true := by decide +kernel
    have q8 : Fl.can .f32 2139095040 = 2139095040 := by decide +kernel
    have q9 : Fl.isN .f64 9218868437227405312 = false := by decide +kernel
    go_enter Try.func29, Try.ntmps29
    go_wp2
    go_ret
    exact RetF.mk (narrow_inf _)
  · have HV := Lib.hid hv
    clear hv
    obtain ⟨R, hR, hR1, hR2, hR3⟩ := Fl.widen_word false x (by omega)
    rw [Fl.word64, if_neg (by decide), hR3 hr] at hR
    have hR : Fl.widen x = Fl.wideRung x := hR
    have hn : Fl.isN .f32 x = false := Fl.isN_word .f32 false x (by rw [Fl.c32_inf]; omega)
    have l0 := Fl.wideRung_lo x h0 hr
    have l1 := Fl.wideRung_lt x hr
    have HO := Lib.hid (logF_over (Fl.wideRung x) l0 l1)
    clear hR1 hR2 hR3
    go_enter Try.func29, Try.ntmps29
    go_wp2_with (first | (go_at_call 43; refine (logS _ l0 l1 _).mono ?_; rintro e w' ⟨r, n, rfl, hr', rfl⟩; have HR := Lib.hid hr'; clear hr') | go_in)
    go_ret
    refine RetF.mk ?_
    rw [HV.out, Fl.can_narrowOut _ _ (by rw [← Fl.over_can, HR.out]; exact HO.out), HR.out]

theorem walk_FnExactLogNumber (a0 : Nat) (w0 : (Lit.float .f32 a0).wf = true) (w : World) :
    Calls Try.prog 4 #[.float .f32 a0] w fun e w' => e = .returned (.bool true) ∧ Grown w w' := by
  have hx := Fl.wf32 w0
  obtain ⟨v, hv⟩ := lnT a0 hx
  go_enter Try.func4, Try.ntmps4
  go_wp2_with (first | (go_at_call 29; refine (lnS _ _ hx hv _).mono ?_; rintro e w' ⟨r1, n1, rfl, hr1, rfl⟩; have HR1 := Lib.hid hr1; clear hr1) | (go_at_call 13; refine (lnI _ _ hx hv _).mono ?_; rintro e w' ⟨r2, n2, rfl, hr2, rfl⟩; have HR2 := Lib.hid hr2; clear hr2) | (go_at_call 15; refine (sameF _ _ (by rw [Fl.can_widenOut, Fl.can_widenOut, HR1.out, HR2.out]) _).mono ?_; rintro e w' ⟨rfl, n, rfl⟩) | go_in)
  all_goals go_ret
  all_goals exact ⟨rfl, grown_drewN (Grown.refl _) _⟩
end Go.Proofs.Yteoedcbnffkjkaa
