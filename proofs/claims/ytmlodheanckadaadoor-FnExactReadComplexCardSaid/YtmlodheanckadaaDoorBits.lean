/-
  Masks of a word, in plain numbers. No condition.
-/
import Derived.Test.YtmlodheanckadaaDoorExtW
namespace Go.Proofs.YtmlodheanckadaaDoor
open Go.RowKit
set_option linter.unusedVariables false
namespace Fl
theorem abs_bits (x : Nat) (hx : x < 18446744073709551616) : bits BinOp.andNot IntKind.u64 (x : Int) 9223372036854775808 = ((x % 9223372036854775808 : Nat) : Int) := by
  rw [show (9223372036854775808 : Int) = ((9223372036854775808 : Nat) : Int) from rfl, u64_andNot_nat x 9223372036854775808 hx (by decide)]
  rw [show (18446744073709551615 - 9223372036854775808 : Nat) = 2 ^ 63 - 1 from rfl, Nat.and_two_pow_sub_one_eq_mod]
theorem sign_wrap (x : Nat) (hx : x < 18446744073709551616) : decide (wrap64 (x : Int) < 0) = decide (9223372036854775808 ≤ x) := by
  congr 1
  unfold wrap64
  exact propext ⟨fun h => by omega, fun h => by omega⟩
theorem and_exp (x : Nat) : x &&& 2139095040 = (x / 8388608 % 256) * 8388608 := by
  have h1 : (x &&& 2139095040) / 2 ^ 23 = x / 2 ^ 23 % 256 := by
    rw [Nat.and_div_two_pow]
    exact Nat.and_two_pow_sub_one_eq_mod (x / 2 ^ 23) 8
  have h2 : (x &&& 2139095040) % 2 ^ 23 = 0 := by
    rw [Nat.and_mod_two_pow]
    exact Nat.and_zero _
  omega
theorem and_sign32 (x : Nat) (hx : x < 4294967296) : x &&& 2147483648 = (x / 2147483648) * 2147483648 := by
  have h1 : (x &&& 2147483648) / 2 ^ 31 = x / 2 ^ 31 % 2 := by
    rw [Nat.and_div_two_pow]
    exact Nat.and_two_pow_sub_one_eq_mod (x / 2 ^ 31) 1
  have h2 : (x &&& 2147483648) % 2 ^ 31 = 0 := by
    rw [Nat.and_mod_two_pow]
    exact Nat.and_zero _
  omega
theorem and_sign64 (x : Nat) (hx : x < 18446744073709551616) : x &&& 9223372036854775808 = (x / 9223372036854775808) * 9223372036854775808 := by
  have h1 : (x &&& 9223372036854775808) / 2 ^ 63 = x / 2 ^ 63 % 2 := by
    rw [Nat.and_div_two_pow]
    exact Nat.and_two_pow_sub_one_eq_mod (x / 2 ^ 63) 1
  have h2 : (x &&& 9223372036854775808) % 2 ^ 63 = 0 := by
    rw [Nat.and_mod_two_pow]
    exact Nat.and_zero _
  omega
theorem i64_and_nat (a b : Nat) (ha : a < 9223372036854775808) (hb : b < 9223372036854775808) : bits .and .i64 (a : Int) (b : Int) = ((a &&& b : Nat) : Int) := by
  have hx : a &&& b < 2 ^ 63 := Nat.and_lt_two_pow _ (by omega)
  show IntKind.i64.wrap ((BitVec.ofInt 64 (a : Int) &&& BitVec.ofInt 64 (b : Int)).toNat : Int) = _
  rw [BitVec.toNat_and, ofInt_u64 a (by omega), ofInt_u64 b (by omega)]
  exact IntWalk.i64_in _ (by omega)
theorem isN_rung (k : FloatKind) (x : Nat) : isN k x = decide (k.format.infRung < x % k.format.signWeight) := by
  have hb := binade_le k
  unfold isN Ieee.Format.read
  simp only
  generalize x % k.format.signWeight = r
  by_cases h1 : r < k.format.binade
  · rw [if_pos h1]; simp [Ieee.Datum.isNaN]; omega
  · rw [if_neg h1]
    by_cases h2 : r < k.format.infRung
    · rw [if_pos h2]; simp [Ieee.Datum.isNaN]; omega
    · rw [if_neg h2]
      by_cases h3 : r = k.format.infRung
      · rw [if_pos h3]; simp [Ieee.Datum.isNaN]; omega
      · rw [if_neg h3]; simp [Ieee.Datum.isNaN]; omega
theorem isN32 (x : Nat) : isN .f32 x = decide (2139095040 < x % 2147483648) := by rw [isN_rung, c32_inf, c32_sign]
theorem isN64 (x : Nat) : isN .f64 x = decide (9218868437227405312 < x % 9223372036854775808) := by rw [isN_rung, c64_inf, c64_sign]
theorem isN_abs (x : Nat) : isN .f64 (x % 9223372036854775808) = isN .f64 x := by rw [isN64, isN64, Nat.mod_mod]
theorem lt_nan_left {k : FloatKind} {x y : Nat} (h : isN k x = true) : lt k x y = false := by unfold lt; rw [order_nan_left h]; rfl
theorem gt_nan_left {k : FloatKind} {x y : Nat} (h : isN k x = true) : gt k x y = false := by unfold gt; rw [order_nan_left h]; rfl
theorem eq_nan_left {k : FloatKind} {x y : Nat} (h : isN k x = true) : eq k x y = false := by unfold eq; rw [order_nan_left h]; rfl
theorem some_lt (u v : Nat) : (some (compare (u : Int) (v : Int)) == some Ordering.lt) = decide (u < v) := by
  rcases Nat.lt_trichotomy u v with h | h | h
  · rw [cmp_lt (Int.ofNat_lt.2 h)]; simp [h]
  · subst h; rw [compare_self_int]; simp
  · rw [cmp_gt (Int.ofNat_lt.2 h)]; simp; omega
theorem some_gt (u v : Nat) : (some (compare (u : Int) (v : Int)) == some Ordering.gt) = decide (v < u) := by
  rcases Nat.lt_trichotomy u v with h | h | h
  · rw [cmp_lt (Int.ofNat_lt.2 h)]; simp; omega
  · subst h; rw [compare_self_int]; simp
  · rw [cmp_gt (Int.ofNat_lt.2 h)]; simp [h]
theorem some_eq (u v : Nat) : (some (compare (u : Int) (v : Int)) == some Ordering.eq) = decide (u = v) := by
  rcases Nat.lt_trichotomy u v with h | h | h
  · rw [cmp_lt (Int.ofNat_lt.2 h)]; simp; omega
  · subst h; rw [compare_self_int]; simp
  · rw [cmp_gt (Int.ofNat_lt.2 h)]; simp; omega
theorem lt_pos (k : FloatKind) (a b : Nat) (ha : a ≤ k.format.infRung) (hb : b ≤ k.format.infRung) : lt k a b = decide (a < b) := by
  unfold lt; rw [order_pos k a b ha hb, some_lt]
theorem gt_pos (k : FloatKind) (a b : Nat) (ha : a ≤ k.format.infRung) (hb : b ≤ k.format.infRung) : gt k a b = decide (b < a) := by
  unfold gt; rw [order_pos k a b ha hb, some_gt]
theorem eq_pos (k : FloatKind) (a b : Nat) (ha : a ≤ k.format.infRung) (hb : b ≤ k.format.infRung) : eq k a b = decide (a = b) := by
  unfold eq; rw [order_pos k a b ha hb, some_eq]
theorem word32 (s : Bool) (r : Nat) : FloatKind.f32.format.word s r = if s then 2147483648 + r else r := by unfold Ieee.Format.word; rw [c32_sign]
theorem word64 (s : Bool) (r : Nat) : FloatKind.f64.format.word s r = if s then 9223372036854775808 + r else r := by unfold Ieee.Format.word; rw [c64_sign]
theorem can32_0 : can .f32 0 = 0 := by decide +kernel
theorem can64_0 : can .f64 0 = 0 := by decide +kernel
/-- 'x == 0' of a float32. -/
theorem eq32_zero (x : Nat) (hx : x < 4294967296) : eq .f32 (can .f32 x) (can .f32 0) = decide (x % 2147483648 = 0) := by
  rw [eq_can]
  rcases w32 x hx with h | ⟨s, h, hw⟩ | ⟨s, r, hr, h, hw⟩
  · rw [eq_nan_left h]
    rw [isN32] at h
    have := of_decide_eq_true h
    simp; omega
  · unfold eq
    rw [h, ← c32_inf, order_zero .f32 s _ (Nat.le_refl _), c32_inf, word32]
    cases s <;> simp
  · unfold eq
    rw [h, order_zero .f32 s r (by rw [c32_inf]; omega), word32]
    by_cases h0 : r = 0
    · subst h0; cases s <;> simp
    · cases s <;> simp [h0] <;> omega
/-- A float32 is subnormal. -/
def subB (x : Nat) : Bool := decide (x % 2147483648 ≠ 0) && decide (x % 2147483648 < 8388608)
theorem sub_mask (x : Nat) (hx : x < 4294967296) : decide (((can .f32 x &&& 2139095040 : Nat) : Int) = 0) = decide (x % 2147483648 < 8388608) := by
  rw [and_exp]
  unfold can
  cases h : isN .f32 x with
  | true =>
    rw [isN32] at h
    have := of_decide_eq_true h
    rw [if_pos rfl]
    simp [qnan]; omega
  | false =>
    rw [if_neg (by decide)]
    congr 1
    exact propext ⟨fun h => by omega, fun h => by omega⟩
theorem sub_abs (w : World) (x : Nat) (hx : x < 4294967296) (lit : Nat) (hl : lit = 4039728865751334912) : lt .f64 (can .f64 (widenOut w x % 9223372036854775808)) (can .f64 lit) = decide (x % 2147483648 < 8388608) := by
  rw [lt_can]
  rcases w32 x hx with h | ⟨s, h, hw⟩ | ⟨s, r, hr, h, hw⟩
  · rw [lt_nan_left (by rw [isN_abs, isN_widenOut]; exact h)]
    rw [isN32] at h
    have := of_decide_eq_true h
    simp; omega
  · have hn : isN .f32 x = false := by rw [h, ← c32_inf]; exact isN_word .f32 s _ (Nat.le_refl _)
    rw [widenOut_of w x hn, hw, word64, h, word32, hl]
    have e1 : (if s = true then 9223372036854775808 + 9218868437227405312 else 9218868437227405312) % 9223372036854775808 = 9218868437227405312 := by cases s <;> rfl
    have e2 : (if s = true then 2147483648 + 2139095040 else 2139095040) % 2147483648 = 2139095040 := by cases s <;> rfl
    rw [e1, e2, lt_pos .f64 _ _ (by rw [c64_inf]; omega) (by rw [c64_inf]; omega)]
    rfl
  · have hn : isN .f32 x = false := by rw [h]; exact isN_word .f32 s _ (by rw [c32_inf]; omega)
    have hlt := wideRung_lt r hr
    rw [widenOut_of w x hn, hw, word64, h, word32, hl]
    have e1 : (if s = true then 9223372036854775808 + wideRung r else wideRung r) % 9223372036854775808 = wideRung r := by cases s <;> simp <;> omega
    have e2 : (if s = true then 2147483648 + r else r) % 2147483648 = r := by cases s <;> simp <;> omega
    rw [e1, e2, lt_pos .f64 _ _ (by rw [c64_inf]; omega) (by rw [c64_inf]; omega)]
    congr 1
    by_cases h0 : r = 0
    · subst h0; rw [wideRung_zero]; simp
    · by_cases h1 : r < 8388608
      · have := wideRung_sub r h0 h1
        exact propext ⟨fun _ => h1, fun _ => this.2⟩
      · have := wideRung_norm r (by omega) hr
        exact propext ⟨fun _ => by omega, fun _ => by omega⟩
end Fl
end Go.Proofs.YtmlodheanckadaaDoor
