/-
  Walk of the law FnExactFlushNumber: for every input it returns true and writes nothing. No condition.
-/
import Derived.Test.YtacacgddnfbmcaaWkSF
import Derived.Test.YtacacgddnfbmcaaWkSub
import Derived.Test.YtacacgddnfbmcaaWkBits
namespace Go.Proofs.Ytacacgddnfbmcaa
open Go.RowKit
set_option linter.unusedVariables false
/-- What a number is flushed to. -/
def flushN (x : Nat) : Nat := if x % 2147483648 < 8388608 then (x / 2147483648) * 2147483648 else x

theorem flushS (x : Nat) (hx : x < 4294967296) (w : World) : Calls Try.prog 33 #[.float .f32 x] w fun e w' => e = .returned (.float .f32 (flushN x)) ∧ w = w' := by
  have hc := Fl.can32_lt hx
  have hm : bits .and .i64 (Fl.can .f32 x : Int) 2139095040 = ((Fl.can .f32 x &&& 2139095040 : Nat) : Int) := Fl.i64_and_nat (Fl.can .f32 x) 2139095040 (by omega) (by decide)
  have hg : bits .and .i64 (Fl.can .f32 x : Int) 2147483648 = ((Fl.can .f32 x &&& 2147483648 : Nat) : Int) := Fl.i64_and_nat (Fl.can .f32 x) 2147483648 (by omega) (by decide)
  have hs := Fl.sub_mask x hx
  cases h : decide (x % 2147483648 < 8388608) with
  | true =>
    rw [h] at hs
    have h' := of_decide_eq_true h
    have hn : Fl.isN .f32 x = false := by rw [Fl.isN32]; simp; omega
    have hs' : (((Fl.can .f32 x &&& 2139095040 : Nat) : Int) == 0) = true := hs
    have H2 : Hid ((Fl.can .f32 x &&& 2147483648) = (x / 2147483648) * 2147483648) := by unfold Hid; rw [Fl.can_of _ _ hn]; exact Fl.and_sign32 x hx
    have H3 : Hid (flushN x = (Fl.can .f32 x &&& 2147483648)) := by unfold Hid flushN; rw [if_pos h', H2.out]
    have hb : (Fl.can .f32 x &&& 2147483648) < 4294967296 := by rw [H2.out]; omega
    clear hs h h' hn
    go_enter Try.func33, Try.ntmps33
    go_wp2_with (first | (go_at_call 45; refine (bitsS _ (by assumption) _).mono ?_; rintro e w' ⟨rfl, rfl⟩) | go_in)
    go_ret
    exact ⟨by rw [H3.out]; rfl, rfl⟩
  | false =>
    rw [h] at hs
    have h' := of_decide_eq_false h
    have hs' : (((Fl.can .f32 x &&& 2139095040 : Nat) : Int) == 0) = false := hs
    have H3 : Hid (flushN x = x) := by unfold Hid flushN; rw [if_neg h']
    clear hs h h'
    go_enter Try.func33, Try.ntmps33
    go_wp2_with (first | (go_at_call 45; refine (bitsS _ (by assumption) _).mono ?_; rintro e w' ⟨rfl, rfl⟩) | go_in)
    go_ret
    exact ⟨by rw [H3.out]; rfl, rfl⟩
theorem copysign0 (x : Nat) (hx : x < 18446744073709551616) (w : World) : Calls Try.prog 35 #[.float .f64 0, .float .f64 x] w fun e w' => e = .returned (.float .f64 ((x / 9223372036854775808) * 9223372036854775808)) ∧ w = w' := by
  have h1 : bits BinOp.andNot IntKind.u64 0 9223372036854775808 = 0 := by decide +kernel
  have h2 : bits BinOp.and IntKind.u64 (x : Int) 9223372036854775808 = ((x &&& 9223372036854775808 : Nat) : Int) := u64_and_nat x 9223372036854775808 hx (by decide)
  have hb : (x &&& 9223372036854775808) < 18446744073709551616 := by rw [Fl.and_sign64 x hx]; omega
  have h3 : bits BinOp.or IntKind.u64 0 ((x &&& 9223372036854775808 : Nat) : Int) = ((x &&& 9223372036854775808 : Nat) : Int) := by
    have := u64_or_nat 0 (x &&& 9223372036854775808) (by decide) hb
    rw [Nat.zero_or] at this
    exact this
  have H := Lib.hid (Fl.and_sign64 x hx)
  go_enter Try.func35, Try.ntmps35
  go_wp2
  go_ret
  exact ⟨by rw [← H.out]; rfl, rfl⟩

theorem sign_cases (w : World) (x : Nat) (hx : x < 4294967296) (hn : Fl.isN .f32 x = false) : (Fl.widen x / 9223372036854775808) * 9223372036854775808 = (x / 2147483648) * 9223372036854775808 ∧ x / 2147483648 ≤ 1 := by
  rcases Fl.w32 x hx with h | ⟨s, h, hw⟩ | ⟨s, r, hr, h, hw⟩
  · rw [hn] at h; cases h
  · rw [hw, h, Fl.word64, Fl.word32]; cases s <;> simp
  · have := Fl.wideRung_lt r hr
    rw [hw, h, Fl.word64, Fl.word32]; cases s <;> simp <;> omega

theorem narrow_lit (w : World) (y r : Nat) (h1 : Fl.isN .f64 y = false) (h2 : Fl.over y = false) (h3 : FloatKind.f32.format.write (FloatKind.f64.format.read y) = r) : Fl.narrowOut w y = r ∧ Fl.narrowDr y = 0 := by
  unfold Fl.narrowOut Fl.narrowDr
  rw [h1, h2]
  exact ⟨h3, rfl⟩
theorem narrow_zero (w : World) (b : Nat) (hb : b ≤ 1) : Fl.narrowOut w (b * 9223372036854775808) = b * 2147483648 ∧ Fl.narrowDr (b * 9223372036854775808) = 0 := by
  rcases (by omega : b = 0 ∨ b = 1) with rfl | rfl
  · rw [Nat.zero_mul]
    exact narrow_lit w 0 0 (by decide +kernel) (by decide +kernel) (by decide +kernel)
  · simp only [Nat.one_mul]
    exact narrow_lit w 9223372036854775808 2147483648 (by decide +kernel) (by decide +kernel) (by decide +kernel)

theorem flush_sub (x : Nat) (h : Fl.subB x = true) : flushN x = (x / 2147483648) * 2147483648 ∧ Fl.isN .f32 x = false := by
  unfold Fl.subB at h
  simp at h
  refine ⟨by unfold flushN; rw [if_pos h.2], by rw [Fl.isN32]; simp; omega⟩
theorem flush_not (x : Nat) (hx : x < 4294967296) (h : Fl.subB x = false) : flushN x = x := by
  unfold Fl.subB at h
  simp at h
  unfold flushN
  split
  · rename_i hl
    have : x % 2147483648 = 0 := by
      by_cases h0 : x % 2147483648 = 0
      · exact h0
      · have := h h0; omega
    omega
  · rfl

theorem flushI (x : Nat) (hx : x < 4294967296) (w : World) : Calls Try.prog 14 #[.float .f32 x] w fun e w' => e = .returned (.float .f32 (flushN x)) ∧ ∃ n, w' = w.drewN n := by
  cases h : Fl.subB x with
  | true =>
    obtain ⟨h1, hn⟩ := flush_sub x h
    obtain ⟨h2, h3⟩ := sign_cases w x hx hn
    have hlt := Fl.widen_lt x
    have H1 := Lib.hid h1
    clear h1
    have H4 := Lib.hid (fun v => narrow_zero v (x / 2147483648) h3)
    go_enter Try.func14, Try.ntmps14
    go_wp2_with (first | (go_at_call 34; refine (subI _ hx _).mono ?_; rintro e w' ⟨rfl, n, rfl⟩) | (go_at_call 35; refine (copysign0 _ (by assumption) _).mono ?_; rintro e w' ⟨rfl, rfl⟩) | go_in)
    go_ret
    exact ⟨by rw [H1.out, ← (H4.out _).1]; rfl, _, rfl⟩
  | false =>
    have H1 := Lib.hid (flush_not x hx h)
    go_enter Try.func14, Try.ntmps14
    go_wp2_with (first | (go_at_call 34; refine (subI _ hx _).mono ?_; rintro e w' ⟨rfl, n, rfl⟩) | go_in)
    go_ret
    exact ⟨by rw [H1.out]; rfl, _, rfl⟩

theorem walk_FnExactFlushNumber (a0 : Nat) (w0 : (Lit.float .f32 a0).wf = true) (w : World) :
    Calls Try.prog 4 #[.float .f32 a0] w fun e w' => e = .returned (.bool true) ∧ Grown w w' := by
  have hx := Fl.wf32 w0
  go_enter Try.func4, Try.ntmps4
  go_wp2_with (first | (go_at_call 33; refine (flushS _ hx _).mono ?_; rintro e w' ⟨rfl, rfl⟩) | (go_at_call 14; refine (flushI _ hx _).mono ?_; rintro e w' ⟨rfl, n, rfl⟩) | (go_at_call 12; refine (sameF _ _ (by rw [Fl.can_widenOut, Fl.can_widenOut]) _).mono ?_; rintro e w' ⟨rfl, n, rfl⟩) | go_in)
  all_goals go_ret
  all_goals exact ⟨rfl, grown_drewN (Grown.refl _) _⟩
end Go.Proofs.Ytacacgddnfbmcaa
