/-
  Walk of the law FnExactAngleTurns: for every input it returns true and writes nothing. No condition.
-/
import Derived.Test.YteoedcbnffkjkaaWkAngS
namespace Go.Proofs.Yteoedcbnffkjkaa
open Go.RowKit
set_option linter.unusedVariables false
set_option linter.unusedSimpArgs false

theorem ang_over (y x : Nat) (hy : y < 4294967296) (hx : x < 4294967296) (fy : Fl.finB32 y = true) (fx : Fl.finB32 x = true) (hz : (Fl.eq .f32 x 0 && Fl.eq .f32 y 0) = false) :
    Fl.over (Fl.angF (Fl.widen y % 9223372036854775808) (Fl.widen x % 9223372036854775808) (Fl.lt .f32 x 0) (Fl.lt .f32 y 0)) = false := by
  have key : ∀ z : Nat, z < 4294967296 → Fl.finB32 z = true → Fl.widen z % 9223372036854775808 < 9218868437227405312 ∧ (Fl.eq .f32 z 0 = false → Fl.widen z % 9223372036854775808 ≠ 0) := by
    intro z hz hf
    have h1 : Fl.finB64 (Fl.widen z) = true := by rw [Fl.fin64_widen z hz, hf]
    unfold Fl.finB64 at h1
    refine ⟨of_decide_eq_true h1, fun he e => ?_⟩
    obtain ⟨s, r, hr, rfl⟩ := Fl.word_split FloatKind.f32.format z (by rw [Fl.c32_sign]; omega)
    rw [Fl.c32_sign] at hr
    have hr' : r < 2139095040 := by
      unfold Fl.finB32 at hf
      have := of_decide_eq_true hf
      rw [Fl.word32] at this
      cases s <;> simp at this <;> omega
    rw [(Fl.word_facts .f32 s r (by rw [Fl.c32_inf]; omega)).1] at he
    have hr0 := of_decide_eq_false he
    obtain ⟨R, hR, hR1, hR2, _⟩ := Fl.widen_word s r (by omega)
    rw [hR, Fl.word64] at e
    have : R ≠ 0 := fun h => hr0 (hR2.1 h)
    cases s <;> simp at e <;> omega
  obtain ⟨a1, a2⟩ := key y hy fy
  obtain ⟨b1, b2⟩ := key x hx fx
  refine Fl.over_num (Fl.angF_num _ _ _ _ a1 b1 ?_) (by omega) (by omega)
  cases he : Fl.eq .f32 x 0
  · exact Or.inr (b2 he)
  · rw [he, Bool.true_and] at hz; exact Or.inl (a2 hz)

/-- The angle of a point. -/
inductive AngT (y x v : Nat) : Prop
  | no (h : Fl.finB32 x = false ∨ Fl.finB32 y = false) (hv : v = Fl.qnan .f32) : AngT y x v
  | zero (fy : Fl.finB32 y = true) (fx : Fl.finB32 x = true) (ex : Fl.eq .f32 x 0 = true) (ey : Fl.eq .f32 y 0 = true) (hv : v = 0) : AngT y x v
  | some (fy : Fl.finB32 y = true) (fx : Fl.finB32 x = true) (hz : (Fl.eq .f32 x 0 && Fl.eq .f32 y 0) = false)
      (hv : v = Fl.narrow (Fl.angF (Fl.widen y % 9223372036854775808) (Fl.widen x % 9223372036854775808) (Fl.lt .f32 x 0) (Fl.lt .f32 y 0))) : AngT y x v
theorem angT (y x : Nat) : ∃ v, AngT y x v := by
  cases fx : Fl.finB32 x
  · exact ⟨_, .no (Or.inl fx) rfl⟩
  · cases fy : Fl.finB32 y
    · exact ⟨_, .no (Or.inr fy) rfl⟩
    · cases hz : (Fl.eq .f32 x 0 && Fl.eq .f32 y 0)
      · exact ⟨_, .some fy fx hz rfl⟩
      · rw [Bool.and_eq_true] at hz; exact ⟨_, .zero fy fx hz.1 hz.2 rfl⟩

theorem narrow_of_nanA (w : World) (r : Nat) (h : Fl.isN .f64 r = true) : Fl.can .f32 (Fl.narrowOut w r) = Fl.qnan .f32 := by
  rw [Fl.can_narrowOut _ _ (Fl.over_nan h), Fl.can_nan h]; decide +kernel
theorem nan_litA : Fl.isN .f64 9221120237041090561 = true := by decide +kernel

set_option maxRecDepth 100000 in
theorem angTI (y x v : Nat) (hy : y < 4294967296) (hx : x < 4294967296) (hv : AngT y x v) (w : World) : Calls Try.prog 24 #[.float .f32 y, .float .f32 x] w (RetF .f32 v w) := by
  rcases hv with ⟨h, hv⟩ | ⟨fy, fx, ex, ey, hv⟩ | ⟨fy, fx, hz, hv⟩
  · subst hv
    have qx := Fl.fin32_can x
    have qy := Fl.fin32_can y
    cases fx : Fl.finB32 x
    · rw [fx] at qx
      clear h qy
      go_enter Try.func24, Try.ntmps24
      go_wp2
      go_ret
      exact RetF.mk (narrow_of_nanA _ _ nan_litA)
    · have fy := h.resolve_left (by rw [fx]; decide)
      rw [fx] at qx
      rw [fy] at qy
      clear h
      go_enter Try.func24, Try.ntmps24
      go_wp2
      go_ret
      exact RetF.mk (narrow_of_nanA _ _ nan_litA)
  · subst hv
    have cx := Fl.can_of .f32 x (Fl.isN_fin32 fx)
    have cy := Fl.can_of .f32 y (Fl.isN_fin32 fy)
    go_enter Try.func24, Try.ntmps24
    go_wp2
    go_ret
    first | exact RetF.mk Fl.can32_0 | exact RetF.mk0 Fl.can32_0
  · rw [hv]
    exact angI y x (Fl.isN_fin32 fy) (Fl.isN_fin32 fx) fy fx hz (ang_over y x hy hx fy fx hz) w

set_option maxRecDepth 100000 in
theorem angTS (y x v : Nat) (hy : y < 4294967296) (hx : x < 4294967296) (hv : AngT y x v) (w : World) : Calls Try.prog 39 #[.float .f32 y, .float .f32 x] w (RetF .f32 v w) := by
  rcases hv with ⟨h, hv⟩ | ⟨fy, fx, ex, ey, hv⟩ | ⟨fy, fx, hz, hv⟩
  · subst hv
    have qx : Fl.finB64 (Fl.widen (Fl.can .f32 x)) = Fl.finB32 x := by rw [Fl.fin64_widen _ (Fl.can32_lt hx), Fl.fin32_can]
    have qy : Fl.finB64 (Fl.widen (Fl.can .f32 y)) = Fl.finB32 y := by rw [Fl.fin64_widen _ (Fl.can32_lt hy), Fl.fin32_can]
    have qx' : Fl.finB64 (Fl.widen x) = Fl.finB32 x := Fl.fin64_widen _ hx
    have qy' : Fl.finB64 (Fl.widen y) = Fl.finB32 y := Fl.fin64_widen _ hy
    cases nx : Fl.isN .f32 x
    all_goals
      cases ny : Fl.isN .f32 y
      all_goals
        cases fy : Fl.finB32 y
        · rw [fy] at qy qy'
          clear h qx qx'
          go_enter Try.func39, Try.ntmps39
          go_wp2
          go_ret
          exact RetF.mk (narrow_of_nanA _ _ nan_litA)
        · have fx := h.resolve_right (by rw [fy]; decide)
          rw [fx] at qx qx'
          rw [fy] at qy qy'
          clear h
          go_enter Try.func39, Try.ntmps39
          go_wp2
          go_ret
          exact RetF.mk (narrow_of_nanA _ _ nan_litA)
  · subst hv
    have nx := Fl.isN_fin32 fx
    have ny := Fl.isN_fin32 fy
    have zx2 : Fl.eq .f64 (Fl.widen x) 0 = true := by rw [(Fl.zero_same x hx nx).2, ex]
    have zy2 : Fl.eq .f64 (Fl.widen y) 0 = true := by rw [(Fl.zero_same y hy ny).2, ey]
    have fx' : Fl.finB64 (Fl.widen x) = true := by rw [Fl.fin64_widen x hx, fx]
    have fy' : Fl.finB64 (Fl.widen y) = true := by rw [Fl.fin64_widen y hy, fy]
    have cx := Fl.can_of .f32 x nx
    have cy := Fl.can_of .f32 y ny
    go_enter Try.func39, Try.ntmps39
    go_wp2
    go_ret
    exact RetF.mk (by rw [narrow_final _ _ 0 Fl.can64_0 (by decide +kernel)]; decide +kernel)
  · have HV := Lib.hid hv
    clear hv
    have nx := Fl.isN_fin32 fx
    have ny := Fl.isN_fin32 fy
    have HO := Lib.hid (ang_over y x hy hx fy fx hz)
    go_enter Try.func39, Try.ntmps39
    go_wp2_with (first | (go_at_call 49; refine (angS y x ny nx fy fx hz hx hy _).mono ?_; rintro e w' ⟨r, n, rfl, hr, rfl⟩; have HR := Lib.hid hr; clear hr) | go_in)
    go_ret
    exact RetF.mk (by rw [HV.out]; exact narrow_final _ _ _ HR.out HO.out)

theorem walk_FnExactAngleTurns (a0 : Nat) (w0 : (Lit.float .f32 a0).wf = true) (a1 : Nat) (w1 : (Lit.float .f32 a1).wf = true) (w : World) :
    Calls Try.prog 8 #[.float .f32 a0, .float .f32 a1] w fun e w' => e = .returned (.bool true) ∧ Grown w w' := by
  have hy := Fl.wf32 w0
  have hx := Fl.wf32 w1
  obtain ⟨v, hv⟩ := angT a0 a1
  go_enter Try.func8, Try.ntmps8
  go_wp2_with (first | (go_at_call 39; refine (angTS _ _ _ hy hx hv _).mono ?_; rintro e w' ⟨r1, n1, rfl, hr1, rfl⟩; have HR1 := Lib.hid hr1; clear hr1) | (go_at_call 24; refine (angTI _ _ _ hy hx hv _).mono ?_; rintro e w' ⟨r2, n2, rfl, hr2, rfl⟩; have HR2 := Lib.hid hr2; clear hr2) | (go_at_call 15; refine (sameF _ _ (by rw [Fl.can_widenOut, Fl.can_widenOut, HR1.out, HR2.out]) _).mono ?_; rintro e w' ⟨rfl, n, rfl⟩) | go_in)
  all_goals go_ret
  all_goals exact ⟨rfl, grown_drewN (Grown.refl _) _⟩
end Go.Proofs.Yteoedcbnffkjkaa
