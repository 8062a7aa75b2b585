/-
  The sine of a number of turns as a plain function of float64 words, and that it is finite. No condition.
-/
import Derived.Test.YteoedcbnffkjkaaSineP
namespace Go.Proofs.Yteoedcbnffkjkaa
open Go.RowKit
set_option linter.unusedVariables false
namespace Fl
open Ieee
/-- a whole number as a float64 -/
def fl (n : Nat) : Nat := FloatKind.f64.nearest (n : Int)
/-- 2 m (2 m + 1) -/
def dn (m : Nat) : Nat := FloatKind.f64.nearest (2 * (m : Int) * (2 * (m : Int) + 1))

def polyS (u : Nat) : Nat → Nat
  | 0 => 4607182418800017408
  | j + 1 => F .sub .f64 4607182418800017408 (F .quo .f64 (F .mul .f64 u (polyS u j)) (dn (8 - j)))
def fracF (x : Nat) : Nat :=
  if lt .f64 (F .sub .f64 x (FloatKind.f64.nearest (ti x))) 0 then F .add .f64 (F .sub .f64 x (FloatKind.f64.nearest (ti x))) 4607182418800017408 else F .sub .f64 x (FloatKind.f64.nearest (ti x))
/-- what is left of the turns: from -0.25 .. -/
def foldT (f : Nat) : Nat := if ge .f64 f 4602678819172646912 then F .sub .f64 f 4602678819172646912 else f
def foldQ (f : Nat) : Nat := if gt .f64 f 4598175219545276416 then F .sub .f64 4602678819172646912 f else f
def zF (f : Nat) : Nat := F .mul .f64 (foldQ (foldT f)) 4618760256179416344
def sineF (x : Nat) : Nat :=
  if ge .f64 (fracF x) 4602678819172646912 then neg .f64 (F .mul .f64 (zF (fracF x)) (polyS (F .mul .f64 (zF (fracF x)) (zF (fracF x))) 8))
  else F .mul .f64 (zF (fracF x)) (polyS (F .mul .f64 (zF (fracF x)) (zF (fracF x))) 8)

theorem can_lit_one : can .f64 4607182418800017408 = 4607182418800017408 := by decide +kernel
theorem can_lit_two : can .f64 4611686018427387904 = 4611686018427387904 := by decide +kernel
theorem can_lit_half : can .f64 4602678819172646912 = 4602678819172646912 := by decide +kernel
theorem can_lit_quarter : can .f64 4598175219545276416 = 4598175219545276416 := by decide +kernel
theorem can_lit_turn : can .f64 4618760256179416344 = 4618760256179416344 := by decide +kernel
theorem can_lit_big : can .f64 4841369599423283200 = 4841369599423283200 := by decide +kernel
theorem can_lit_nbig : can .f64 14064741636278059008 = 14064741636278059008 := by decide +kernel
theorem can_nearest (k : FloatKind) (n : Int) : can k (k.nearest n) = k.nearest n := can_of _ _ (show (k.format.read (k.format.write (.number (decide (n < 0)) n.natAbs 0))).isNaN = false from write_notNaN _ _ rfl)

/-- what the loop's counter does, as a float64 -/
theorem cnt_facts (m : Nat) (h0 : 1 ≤ m) (h : m ≤ 8) :
    raw .mul .f64 4611686018427387904 (fl m) = some (fl (2 * m)) ∧ raw .add .f64 (fl (2 * m)) 4607182418800017408 = some (fl (2 * m + 1)) ∧
    raw .mul .f64 (fl (2 * m)) (fl (2 * m + 1)) = some (dn m) ∧ raw .sub .f64 (fl m) 4607182418800017408 = some (fl (m - 1)) ∧
    ge .f64 (can .f64 (fl m)) 4607182418800017408 = true := by
  have : ∀ m : Fin 9, 1 ≤ m.val → (raw .mul .f64 4611686018427387904 (fl m) = some (fl (2 * m)) ∧ raw .add .f64 (fl (2 * m)) 4607182418800017408 = some (fl (2 * m + 1)) ∧
    raw .mul .f64 (fl (2 * m)) (fl (2 * m + 1)) = some (dn m) ∧ raw .sub .f64 (fl m) 4607182418800017408 = some (fl (m - 1)) ∧
    ge .f64 (can .f64 (fl m)) 4607182418800017408 = true) := by decide +kernel
  exact this ⟨m, by omega⟩ h0
theorem cnt_zero : ge .f64 (can .f64 (fl 0)) 4607182418800017408 = false := by decide +kernel
theorem dn_lo (m : Nat) (h0 : 1 ≤ m) (h : m ≤ 8) : Lo (dn m) 2 := by
  have : ∀ m : Fin 9, 1 ≤ m.val → (match FloatKind.f64.format.read (dn m) with | .number t n j => decide (-1074 ≤ j) && decide (n ≠ 0) && decide (2 ≤ j + n.log2) | _ => false) = true := by decide +kernel
  have := this ⟨m, by omega⟩ h0
  simp only at this
  unfold Lo
  split at this
  · rename_i t n j hr
    simp only [Bool.and_eq_true, decide_eq_true_eq] at this
    exact ⟨t, n, j, hr, this.1.1, this.1.2, this.2⟩
  · cases this

/-- a literal, at most 2 to the power of A -/
theorem num_lit (x : Nat) (A : Int) (h : (match FloatKind.f64.format.read x with | .number s m e => decide (-1074 ≤ e) && decide (m ≠ 0) && decide (e + m.log2 < A) | _ => false) = true) (hA : -1000 ≤ A) : Num x A := by
  unfold Num
  split at h
  · rename_i s m e hr
    simp only [Bool.and_eq_true, decide_eq_true_eq] at h
    refine ⟨s, m, e, hr, h.1.1, ?_⟩
    calc m * 2 ^ (e + 1074).toNat ≤ 2 ^ (m.log2 + 1) * 2 ^ (e + 1074).toNat := Nat.mul_le_mul_right _ (Nat.le_of_lt (log2_hi h.1.2))
      _ = 2 ^ (m.log2 + 1 + (e + 1074).toNat) := (Nat.pow_add _ _ _).symm
      _ ≤ 2 ^ (A + 1074).toNat := Nat.pow_le_pow_right (by omega) (by omega)
  · cases h

theorem num_one : Num 4607182418800017408 0 := by
  have hr : FloatKind.f64.format.read 4607182418800017408 = .number false 4503599627370496 (-52) := by decide +kernel
  refine ⟨false, 4503599627370496, -52, hr, by omega, ?_⟩
  have e1 : ((-52 : Int) + 1074).toNat = off - 52 := by have := off_eq; omega
  have e2 : ((0 : Int) + 1074).toNat = 52 + (off - 52) := by have := off_eq; omega
  rw [e1, e2, Nat.pow_add]
  exact Nat.mul_le_mul_right _ (by decide)

theorem polyS_num (u : Nat) (hu : Num u 12) : ∀ j : Nat, j ≤ 8 → Num (polyS u j) (1 + 12 * j) := by
  intro j
  induction j with
  | zero => intro _; exact num_lit 4607182418800017408 1 (by decide +kernel) (by omega)
  | succ j ih =>
    intro hj
    have h1 := num_mul (13 + 12 * j) hu (ih (by omega)) ⟨by omega, by omega, by omega⟩ (by omega) (by omega)
    have h2 := num_quo (12 + 12 * j) h1 (by omega) (dn_lo (8 - j) (by omega) (by omega)) (by omega) (by omega) (by omega)
    have h3 := num_sub (1 + 12 * (j + 1 : Nat)) (num_lit 4607182418800017408 1 (by decide +kernel) (by omega)) h2 ⟨by omega, by omega, by omega, by omega⟩
    exact h3

theorem fracF_num {x : Nat} (h : Num x 52) : Num (fracF x) 1 := by
  have hf := frac_num h
  unfold fracF
  split
  · exact (num_add 1 hf num_one ⟨by omega, by omega, by omega, by omega⟩)
  · exact hf.mono (by omega)

theorem zF_num {f : Nat} (h : Num f 1) : Num (zF f) 6 := by
  have hh : Num 4602678819172646912 0 := num_lit _ _ (by decide +kernel) (by omega)
  have h1 : Num (foldT f) 2 := by
    unfold foldT
    split
    · exact num_sub 2 h hh ⟨by omega, by omega, by omega, by omega⟩
    · exact h.mono (by omega)
  have h2 : Num (foldQ (foldT f)) 3 := by
    unfold foldQ
    split
    · exact num_sub 3 hh h1 ⟨by omega, by omega, by omega, by omega⟩
    · exact h1.mono (by omega)
  exact num_mul 6 h2 (num_lit 4618760256179416344 3 (by decide +kernel) (by omega)) ⟨by omega, by omega, by omega⟩ (by omega) (by omega)

theorem sineF_num {x : Nat} (h : Num x 52) : Num (sineF x) 120 := by
  have hf := fracF_num h
  have hz := zF_num hf
  have hu := num_mul 12 hz hz ⟨by omega, by omega, by omega⟩ (by omega) (by omega)
  have hp := polyS_num _ hu 8 (by omega)
  have hr := num_mul 120 hz hp ⟨by omega, by omega, by omega⟩ (by omega) (by omega)
  unfold sineF
  split
  · exact num_neg hr
  · exact hr
end Fl
attribute [go_sem] Fl.can_lit_one Fl.can_lit_two Fl.can_lit_half Fl.can_lit_quarter Fl.can_lit_turn Fl.can_lit_big Fl.can_lit_nbig Fl.can_nearest Fl.can_neg Fl.can64_0 Fl.can32_0
end Go.Proofs.Yteoedcbnffkjkaa
