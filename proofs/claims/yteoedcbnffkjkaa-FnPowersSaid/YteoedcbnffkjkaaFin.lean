/-
  'x - x == 0' says that a number is finite; a float64 against 2 to the power of 52. No condition.
-/
import Derived.Test.YteoedcbnffkjkaaSineF
namespace Go.Proofs.Yteoedcbnffkjkaa
open Go.RowKit
set_option linter.unusedVariables false
namespace Fl
open Ieee
theorem signed_not (s : Bool) (m k : Nat) : signed s m k + signed (!s) m k = 0 := by
  unfold signed; cases s <;> simp <;> omega
theorem F_sub_self (k : FloatKind) (c : Nat) : F .sub k c c = if c % k.format.signWeight < k.format.infRung then 0 else qnan k := by
  have hs : 0 < k.format.signWeight := Nat.two_pow_pos _
  have hb := binade_le k
  unfold F raw
  simp only [Format.sub]
  by_cases h : c % k.format.signWeight < k.format.infRung
  · rw [if_pos h]
    have hr : ∃ s m e, k.format.read c = .number s m e := by
      unfold Format.read
      simp only
      split
      · exact ⟨_, _, _, rfl⟩
      · exact ⟨_, _, _, rfl⟩
    obtain ⟨s, m, e, hr⟩ := hr
    rw [hr]
    simp only [Datum.opposite, Datum.sum, Option.map_some, Option.getD_some, signed_not, if_true]
    have e1 : (s && !s) = false := by cases s <;> rfl
    rw [e1, write_num]
    unfold rung Format.word
    simp
  · rw [if_neg h]
    have hr : k.format.read c = .infinity (c / k.format.signWeight % 2 == 1) ∨ (k.format.read c).isNaN = true := by
      unfold Format.read
      simp only
      rw [if_neg (by omega), if_neg h]
      split
      · exact Or.inl rfl
      · exact Or.inr rfl
    rcases hr with hr | hr
    · rw [hr]
      generalize (c / k.format.signWeight % 2 == 1) = s
      have : (Datum.infinity s).sum (Datum.infinity s).opposite = none := by cases s <;> rfl
      rw [this]; rfl
    · rw [sum_nan_left _ _ hr]; rfl
/-- Is it finite? -/
def finB32 (x : Nat) : Bool := decide (x % 2147483648 < 2139095040)
def finB64 (x : Nat) : Bool := decide (x % 9223372036854775808 < 9218868437227405312)
theorem fin32 (c : Nat) : eq .f32 (F .sub .f32 c c) 0 = finB32 c := by
  rw [F_sub_self, c32_sign, c32_inf]
  unfold finB32
  split
  · rename_i h; rw [decide_eq_true h]; decide +kernel
  · rename_i h; rw [decide_eq_false h]; decide +kernel
theorem fin64 (c : Nat) : eq .f64 (F .sub .f64 c c) 0 = finB64 c := by
  rw [F_sub_self, c64_sign, c64_inf]
  unfold finB64
  split
  · rename_i h; rw [decide_eq_true h]; decide +kernel
  · rename_i h; rw [decide_eq_false h]; decide +kernel
theorem fin32_nan {x : Nat} (h : isN .f32 x = true) : finB32 (can .f32 x) = false ∧ finB32 x = false := by
  rw [can_nan h]
  rw [isN32] at h
  have := of_decide_eq_true h
  exact ⟨by decide +kernel, by unfold finB32; exact decide_eq_false (by omega)⟩
theorem fin32_can (x : Nat) : finB32 (can .f32 x) = finB32 x := by
  cases h : isN .f32 x with
  | true => rw [(fin32_nan h).1, (fin32_nan h).2]
  | false => rw [can_of _ _ h]
theorem isN_fin32 {x : Nat} (h : finB32 x = true) : isN .f32 x = false := by
  rw [isN32]; unfold finB32 at h; have := of_decide_eq_true h; exact decide_eq_false (by omega)
theorem isN_fin64 {x : Nat} (h : finB64 x = true) : isN .f64 x = false := by
  rw [isN64]; unfold finB64 at h; have := of_decide_eq_true h; exact decide_eq_false (by omega)

/-- A word with a sign is less than one without, where this is not zero. -/
theorem order_tf (k : FloatKind) (a b : Nat) (ha : a ≤ k.format.infRung) (hb : b ≤ k.format.infRung) (h0 : b ≠ 0) : k.format.order (k.format.word true a) b = some .lt := by
  have eb : b = k.format.word false b := rfl
  unfold Format.order
  by_cases hia : a = k.format.infRung
  · have ra : k.format.read (k.format.word true a) = .infinity true := by rw [hia]; exact read_inf k true
    by_cases hib : b = k.format.infRung
    · have rb : k.format.read b = .infinity false := by rw [eb, hib]; exact read_inf k false
      rw [ra, rb]; rfl
    · obtain ⟨m, e, hr, he, hN, hz⟩ := read_fin k.format false b (by omega)
      have rb : k.format.read b = .number false m e := by rw [eb]; exact hr
      rw [ra, rb]; rfl
  · obtain ⟨m, e, hr, he, hN, hz⟩ := read_fin k.format true a (by omega)
    by_cases hib : b = k.format.infRung
    · have rb : k.format.read b = .infinity false := by rw [eb, hib]; exact read_inf k false
      rw [hr, rb]; rfl
    · obtain ⟨m', e', hr', he', hN', hz'⟩ := read_fin k.format false b (by omega)
      have rb : k.format.read b = .number false m' e' := by rw [eb]; exact hr'
      rw [hr, rb]
      simp only [Datum.order, signed, Bool.false_eq_true, if_false, if_true]
      congr 1
      have hm : 0 < m' := by have := mt hz'.1 h0; omega
      have : 0 < m' <<< (e' - min e e').toNat := by rw [Nat.shiftLeft_eq]; exact Nat.mul_pos hm (Nat.two_pow_pos _)
      generalize m' <<< (e' - min e e').toNat = u at *
      generalize m <<< (e - min e e').toNat = v at *
      exact cmp_lt (by omega)
theorem order_ft (k : FloatKind) (a b : Nat) (ha : a ≤ k.format.infRung) (hb : b ≤ k.format.infRung) (h0 : b ≠ 0) : k.format.order a (k.format.word true b) = some .gt := by
  have ea : a = k.format.word false a := rfl
  unfold Format.order
  by_cases hib : b = k.format.infRung
  · have rb : k.format.read (k.format.word true b) = .infinity true := by rw [hib]; exact read_inf k true
    by_cases hia : a = k.format.infRung
    · have ra : k.format.read a = .infinity false := by rw [ea, hia]; exact read_inf k false
      rw [ra, rb]; rfl
    · obtain ⟨m, e, hr, he, hN, hz⟩ := read_fin k.format false a (by omega)
      have ra : k.format.read a = .number false m e := by rw [ea]; exact hr
      rw [ra, rb]; rfl
  · obtain ⟨m', e', hr', he', hN', hz'⟩ := read_fin k.format true b (by omega)
    by_cases hia : a = k.format.infRung
    · have ra : k.format.read a = .infinity false := by rw [ea, hia]; exact read_inf k false
      rw [ra, hr']; rfl
    · obtain ⟨m, e, hr, he, hN, hz⟩ := read_fin k.format false a (by omega)
      have ra : k.format.read a = .number false m e := by rw [ea]; exact hr
      rw [ra, hr']
      simp only [Datum.order, signed, Bool.false_eq_true, if_false, if_true]
      congr 1
      have hm : 0 < m' := by have := mt hz'.1 h0; omega
      have : 0 < m' <<< (e' - min e e').toNat := by rw [Nat.shiftLeft_eq]; exact Nat.mul_pos hm (Nat.two_pow_pos _)
      generalize m' <<< (e' - min e e').toNat = u at *
      generalize m <<< (e - min e e').toNat = v at *
      exact cmp_gt (by omega)

/-- 'x >= 2 ^ 52', 'x <= - 2 ^ 52' of a finite float64, by its rung. -/
def bigB (x : Nat) : Bool := decide (4841369599423283200 ≤ x % 9223372036854775808)
theorem ge_pos (k : FloatKind) (a b : Nat) (ha : a ≤ k.format.infRung) (hb : b ≤ k.format.infRung) : ge k a b = decide (b ≤ a) := by
  unfold ge; rw [gt_pos k a b ha hb, eq_pos k a b ha hb]
  rw [Bool.eq_iff_iff]
  simp only [Bool.or_eq_true, decide_eq_true_eq]
  omega
theorem big_facts (x : Nat) (hx : x < 18446744073709551616) (hf : finB64 x = true) :
    ge .f64 x 4841369599423283200 = (decide (x < 9223372036854775808) && bigB x) ∧ le .f64 x 14064741636278059008 = (decide (9223372036854775808 ≤ x) && bigB x) ∧ ge .f64 (x % 9223372036854775808) 4841369599423283200 = bigB x := by
  unfold finB64 at hf
  have hf' := of_decide_eq_true hf
  unfold bigB
  have hI : FloatKind.f64.format.infRung = 9218868437227405312 := c64_inf
  have e2 : (14064741636278059008 : Nat) = FloatKind.f64.format.word true 4841369599423283200 := by rw [word64]; rfl
  refine ⟨?_, ?_, ?_⟩
  · by_cases hs : x < 9223372036854775808
    · rw [ge_pos .f64 _ _ (by rw [hI]; omega) (by rw [hI]; omega), decide_eq_true hs, Bool.true_and, Nat.mod_eq_of_lt hs]
    · have e1 : x = FloatKind.f64.format.word true (x % 9223372036854775808) := by rw [word64, if_pos rfl]; omega
      rw [decide_eq_false hs, Bool.false_and]
      unfold ge gt eq
      rw [e1, order_tf .f64 _ _ (by rw [hI]; omega) (by rw [hI]; omega) (by omega)]; rfl
  · by_cases hs : x < 9223372036854775808
    · have : ¬ 9223372036854775808 ≤ x := by omega
      rw [decide_eq_false this, Bool.false_and, e2]
      unfold le lt eq
      rw [order_ft .f64 _ _ (by rw [hI]; omega) (by rw [hI]; omega) (by omega)]; rfl
    · have e1 : x = FloatKind.f64.format.word true (x % 9223372036854775808) := by rw [word64, if_pos rfl]; omega
      have : 9223372036854775808 ≤ x := by omega
      rw [decide_eq_true this, Bool.true_and, e2]
      unfold le lt eq
      conv => lhs; rw [e1]
      rw [order_neg .f64 _ _ (by rw [hI]; omega) (by rw [hI]; omega), some_lt, some_eq]
      generalize x % 9223372036854775808 = r
      rw [Bool.eq_iff_iff]
      simp only [Bool.or_eq_true, decide_eq_true_eq]
      omega
  · exact ge_pos .f64 _ _ (by rw [hI]; omega) (by rw [hI]; omega)
theorem num_small (x : Nat) (hx : x < 18446744073709551616) (h : bigB x = false) : Num x 52 := by
  unfold bigB at h
  have := of_decide_eq_false h
  obtain ⟨s, r, hr, rfl⟩ := word_split FloatKind.f64.format x (by rw [c64_sign]; omega)
  rw [c64_sign] at hr
  refine num_word s r 52 (by omega) (by omega) ?_
  rw [word64] at this
  rw [show ((52 : Int) + 1023).toNat = 1075 from rfl]
  cases s <;> simp at this <;> omega
theorem fin64_widen (x : Nat) (hx : x < 4294967296) : finB64 (widen x) = finB32 x := by
  rcases w32 x hx with h | ⟨s, h, hw⟩ | ⟨s, r, hr, h, hw⟩
  · have : widen x = qnan .f64 := by unfold widen; rw [if_pos h]
    rw [this, (fin32_nan h).2]; decide +kernel
  · rw [hw, h, word64, word32]; cases s <;> rfl
  · have := wideRung_lt r hr
    rw [hw, h, word64, word32]
    unfold finB64 finB32
    cases s <;> simp <;> omega
end Fl
attribute [go_sem] Fl.can_widen Fl.fin32 Fl.fin64
end Go.Proofs.Yteoedcbnffkjkaa
