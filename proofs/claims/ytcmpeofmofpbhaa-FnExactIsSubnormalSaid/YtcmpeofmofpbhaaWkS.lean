/-
  Walks of the laws FnExactIsSubnormal and FnExactSameNumber: for every input each returns true and writes nothing. No condition.
-/
import Derived.Test.YtcmpeofmofpbhaaWkSub
import Derived.Test.YtcmpeofmofpbhaaWkBits
import Derived.Test.YtcmpeofmofpbhaaMSign
namespace Go.Proofs.Ytcmpeofmofpbhaa
open Go.RowKit
set_option linter.unusedVariables false

theorem subS (x : Nat) (hx : x < 4294967296) (w : World) : Calls Try.prog 20 #[.float .f32 x] w fun e w' => e = .returned (.bool (Fl.subB x)) ∧ w = w' := by
  have hz := Fl.eq32_zero x hx
  have hm := Fl.i64_and_nat (Fl.can .f32 x) 2139095040 (by have := Fl.can32_lt hx; omega) (by decide)
  have hm' : bits .and .i64 (Fl.can .f32 x : Int) 2139095040 = ((Fl.can .f32 x &&& 2139095040 : Nat) : Int) := hm
  clear hm
  have HS : Hid ((((Fl.can .f32 x &&& 2139095040 : Nat) : Int) == 0) = decide (x % 2147483648 < 8388608)) := Fl.sub_mask x hx
  cases h0 : decide (x % 2147483648 = 0) with
  | true =>
    rw [h0] at hz
    go_enter Try.func20, Try.ntmps20
    go_wp2
    go_ret
    refine ⟨?_, rfl⟩
    have e : Fl.subB x = false := by unfold Fl.subB; simp at h0; simp [h0]
    rw [e]; rfl
  | false =>
    rw [h0] at hz
    have HE : Hid (Fl.subB x = decide (x % 2147483648 < 8388608)) := by unfold Hid Fl.subB; simp at h0; simp [h0]
    clear h0
    go_enter Try.func20, Try.ntmps20
    go_wp2_with (first | (go_at_call 28; refine (bitsS _ hx _).mono ?_; rintro e w' ⟨rfl, rfl⟩) | go_in)
    go_ret
    exact ⟨by rw [HE.out, ← HS.out]; rfl, rfl⟩

theorem walk_FnExactIsSubnormal (a0 : Nat) (w0 : (Lit.float .f32 a0).wf = true) (w : World) :
    Calls Try.prog 8 #[.float .f32 a0] w fun e w' => e = .returned (.bool true) ∧ Grown w w' := by
  have hx := Fl.wf32 w0
  go_enter Try.func8, Try.ntmps8
  go_wp2_with (first | (go_at_call 20; refine (subS _ hx _).mono ?_; rintro e w' ⟨rfl, rfl⟩) | (go_at_call 21; refine (subI _ hx _).mono ?_; rintro e w' ⟨rfl, n, rfl⟩))
  all_goals go_ret
  all_goals exact ⟨rfl, grown_drewN (Grown.refl _) _⟩

/-- Two float32 are the same. -/
def sameB (x y : Nat) : Bool := decide (Fl.can .f32 x = Fl.can .f32 y)


theorem sign_widen (x : Nat) (hx : x < 4294967296) (hn : Fl.isN .f32 x = false) : decide (9223372036854775808 ≤ Fl.widen x) = decide (2147483648 ≤ x) := by
  rcases Fl.w32 x hx with h | ⟨s, h, hw⟩ | ⟨s, r, hr, h, hw⟩
  · rw [hn] at h; cases h
  · rw [hw, h, Fl.word64, Fl.word32]; cases s <;> rfl
  · have := Fl.wideRung_lt r hr
    rw [hw, h, Fl.word64, Fl.word32]; cases s <;> simp <;> omega

theorem eq_sign (a b : Nat) (ha : a < 4294967296) (hb : b < 4294967296) (na : Fl.isN .f32 a = false) (nb : Fl.isN .f32 b = false) :
    (Fl.eq .f32 a b && (decide (2147483648 ≤ a) == decide (2147483648 ≤ b))) = decide (a = b) := by
  obtain ⟨s, r, hr, rfl⟩ := Fl.word_split FloatKind.f32.format a (by rw [Fl.c32_sign]; omega)
  obtain ⟨t, q, hq, rfl⟩ := Fl.word_split FloatKind.f32.format b (by rw [Fl.c32_sign]; omega)
  rw [Fl.c32_sign] at hr hq
  have hr' : r ≤ 2139095040 := by
    rw [Fl.isN32, Fl.word32] at na; have := of_decide_eq_false na; cases s <;> simp at this <;> omega
  have hq' : q ≤ 2139095040 := by
    rw [Fl.isN32, Fl.word32] at nb; have := of_decide_eq_false nb; cases t <;> simp at this <;> omega
  by_cases hst : s = t
  · subst hst
    rw [Fl.eq_words .f32 s r q (by rw [Fl.c32_inf]; exact hr') (by rw [Fl.c32_inf]; exact hq'), Fl.word32, Fl.word32]
    cases s <;> simp <;> by_cases e : r = q <;> simp [e] <;> omega
  · rw [Fl.word32, Fl.word32]
    have hs : ∀ (s : Bool) (r : Nat), r ≤ 2139095040 → decide (2147483648 ≤ (if s = true then 2147483648 + r else r)) = s := by
      intro s r h; cases s <;> simp <;> omega
    rw [hs s r hr', hs t q hq']
    have hb : (s == t) = false := by simpa using hst
    rw [hb, Bool.and_false]
    symm
    refine decide_eq_false fun e => hst ?_
    have := hs s r hr'
    rw [e, hs t q hq'] at this
    exact this.symm

theorem sameB_num (a b : Nat) (na : Fl.isN .f32 a = false) (nb : Fl.isN .f32 b = false) : sameB a b = decide (a = b) := by
  unfold sameB; rw [Fl.can_of _ _ na, Fl.can_of _ _ nb]
theorem sameB_nan (a b : Nat) (h : Fl.isN .f32 a = true ∨ Fl.isN .f32 b = true) : sameB a b = (Fl.isN .f32 a && Fl.isN .f32 b) := by
  unfold sameB
  cases ha : Fl.isN .f32 a <;> cases hb : Fl.isN .f32 b
  · rw [ha, hb] at h; simp at h
  · rw [Fl.can_of _ _ ha, Fl.can_nan hb]; simp; intro e; subst e; rw [Fl.isN_qnan] at ha; cases ha
  · rw [Fl.can_of _ _ hb, Fl.can_nan ha]; simp; intro e; subst e; rw [Fl.isN_qnan] at hb; cases hb
  · rw [Fl.can_nan ha, Fl.can_nan hb]; simp

theorem sameS (x y : Nat) (hx : x < 4294967296) (hy : y < 4294967296) (w : World) : Calls Try.prog 22 #[.float .f32 x, .float .f32 y] w fun e w' => e = .returned (.bool (sameB x y)) ∧ w = w' := by
  have HE : Hid (sameB x y = ((Fl.can .f32 x : Int) == (Fl.can .f32 y : Int))) := by
    unfold sameB Hid
    show decide _ = decide _
    congr 1; exact propext ⟨fun h => by omega, fun h => by omega⟩
  go_enter Try.func22, Try.ntmps22
  go_wp2_with (first | (go_at_call 28; refine (bitsS _ (by assumption) _).mono ?_; rintro e w' ⟨rfl, rfl⟩) | go_in)
  go_ret
  exact ⟨by rw [HE.out]; rfl, rfl⟩

theorem sameI (x y : Nat) (hx : x < 4294967296) (hy : y < 4294967296) (w : World) : Calls Try.prog 23 #[.float .f32 x, .float .f32 y] w fun e w' => e = .returned (.bool (sameB x y)) ∧ ∃ n, w' = w.drewN n := by
  cases nx : Fl.isN .f32 x with
  | true =>
    have HB := Lib.hid (sameB_nan x y (Or.inl nx))
    cases ny : Fl.isN .f32 y
    all_goals
      go_enter Try.func23, Try.ntmps23
      go_wp2
      go_ret
      exact ⟨by rw [HB.out, nx, ny]; rfl, 0, rfl⟩
  | false =>
    cases ny : Fl.isN .f32 y with
    | true =>
      have HB := Lib.hid (sameB_nan x y (Or.inr ny))
      go_enter Try.func23, Try.ntmps23
      go_wp2
      go_ret
      exact ⟨by rw [HB.out, nx, ny]; rfl, 0, rfl⟩
    | false =>
      have HB : Hid (sameB x y = (Fl.eq .f32 (Fl.can .f32 x) (Fl.can .f32 y) && (decide (9223372036854775808 ≤ Fl.widen x) == decide (9223372036854775808 ≤ Fl.widen y)))) := by
        unfold Hid
        rw [sameB_num x y nx ny, ← eq_sign x y hx hy nx ny, sign_widen x hx nx, sign_widen y hy ny, Fl.eq_can]
      have wx := Fl.widen_lt x
      have wy := Fl.widen_lt y
      cases he : Fl.eq .f32 (Fl.can .f32 x) (Fl.can .f32 y) with
      | false =>
        go_enter Try.func23, Try.ntmps23
        go_wp2
        go_ret
        exact ⟨by rw [HB.out, he]; rfl, 0, rfl⟩
      | true =>
        go_enter Try.func23, Try.ntmps23
        go_wp2_with (first | (go_at_call 32; refine (signbit _ (by assumption) _).mono ?_; rintro e w' ⟨rfl, rfl⟩) | go_in)
        go_ret
        exact ⟨by rw [HB.out, he]; rfl, 0, rfl⟩

theorem walk_FnExactSameNumber (a0 : Nat) (w0 : (Lit.float .f32 a0).wf = true) (a1 : Nat) (w1 : (Lit.float .f32 a1).wf = true) (w : World) :
    Calls Try.prog 9 #[.float .f32 a0, .float .f32 a1] w fun e w' => e = .returned (.bool true) ∧ Grown w w' := by
  have hx := Fl.wf32 w0
  have hy := Fl.wf32 w1
  go_enter Try.func9, Try.ntmps9
  go_wp2_with (first | (go_at_call 22; refine (sameS _ _ hx hy _).mono ?_; rintro e w' ⟨rfl, rfl⟩) | (go_at_call 23; refine (sameI _ _ hx hy _).mono ?_; rintro e w' ⟨rfl, n, rfl⟩))
  all_goals go_ret
  all_goals exact ⟨rfl, grown_drewN (Grown.refl _) _⟩
end Go.Proofs.Ytcmpeofmofpbhaa
