/-
  The angle of a point as a plain function of float64 words, and that it is finite. No condition.
-/
import Derived.Test.YteoedcbnffkjkaaLogP
import Derived.Test.YteoedcbnffkjkaaZero32
namespace Go.Proofs.Yteoedcbnffkjkaa
open Go.RowKit
set_option linter.unusedVariables false
namespace Fl
open Ieee
theorem zero_same (x : Nat) (hx : x < 4294967296) (hn : isN .f32 x = false) : lt .f64 (widen x) 0 = lt .f32 x 0 ∧ eq .f64 (widen x) 0 = eq .f32 x 0 := by
  obtain ⟨s, r, hr, rfl⟩ := word_split FloatKind.f32.format x (by rw [c32_sign]; omega)
  rw [c32_sign] at hr
  have hr' : r ≤ 2139095040 := by
    rw [isN32, word32] at hn; have := of_decide_eq_false hn; cases s <;> simp at this <;> omega
  obtain ⟨R, hR, hR1, hR2, _⟩ := widen_word s r hr'
  have f := word_facts .f32 s r (by rw [c32_inf]; exact hr')
  have g := word_facts .f64 s R (by rw [c64_inf]; exact hR1)
  rw [hR, f.1, f.2.1, g.1, g.2.1]
  by_cases h0 : r = 0
  · rw [hR2.2 h0, h0]; exact ⟨rfl, rfl⟩
  · have : R ≠ 0 := fun e => h0 (hR2.1 e)
    simp [h0, this]

def tA (t : Nat) : Nat → Nat
  | 0 => t
  | j + 1 => F .quo .f64 (tA t j) (F .add .f64 4607182418800017408 (root (F .add .f64 4607182418800017408 (F .mul .f64 (tA t j) (tA t j)))))
def polyA (u : Nat) : Nat → Nat
  | 0 => 0
  | j + 1 => F .sub .f64 (F .quo .f64 4607182418800017408 (odd (8 - j))) (F .mul .f64 u (polyA u j))
theorem polyA_step (u g : Nat) (h0 : 1 ≤ g) (h : g ≤ 8) : polyA u (8 - (g - 1)) = F .sub .f64 (F .quo .f64 4607182418800017408 (odd g)) (F .mul .f64 u (polyA u (8 - g))) := by
  rw [show 8 - (g - 1) = (8 - g) + 1 by omega]
  show F .sub .f64 (F .quo .f64 _ (odd (8 - (8 - g)))) _ = _
  rw [show 8 - (8 - g) = g by omega]
def t0 (a b : Nat) : Nat := if gt .f64 a b = true then F .quo .f64 b a else F .quo .f64 a b
def tT (a b : Nat) : Nat := tA (t0 a b) 3
def ang0 (a b : Nat) : Nat := F .quo .f64 (F .mul .f64 4620693217682128896 (F .mul .f64 (tT a b) (polyA (F .mul .f64 (tT a b) (tT a b)) 8))) 4618760256179416344
def ang1 (a b : Nat) : Nat := if gt .f64 a b = true then F .sub .f64 4598175219545276416 (ang0 a b) else ang0 a b
def ang2 (a b : Nat) (xn : Bool) : Nat := if xn = true then F .sub .f64 4602678819172646912 (ang1 a b) else ang1 a b
def angF (a b : Nat) (xn yn : Bool) : Nat := if yn = true then neg .f64 (ang2 a b xn) else ang2 a b xn

/-- A finite number without a sign. -/
def Pos (x : Nat) (A : Int) : Prop := ∃ m e, FloatKind.f64.format.read x = .number false m e ∧ -1074 ≤ e ∧ m * 2 ^ (e + 1074).toNat ≤ 2 ^ (A + 1074).toNat
theorem Pos.num {x : Nat} {A : Int} (h : Pos x A) : Num x A := by obtain ⟨m, e, h1, h2, h3⟩ := h; exact ⟨false, m, e, h1, h2, h3⟩
theorem pos_write {m : Nat} {e A : Int} (h : Num (FloatKind.f64.format.write (.number false m e)) A) : Pos (FloatKind.f64.format.write (.number false m e)) A := by
  obtain ⟨s, m', e', h1, h2, h3⟩ := h
  refine ⟨m', e', ?_, h2, h3⟩
  have hs : s = false := by
    rw [write_num] at h1
    have hl := rung_inf FloatKind.f64.format m e
    rw [c64_inf] at hl
    have hsg := word_sign FloatKind.f64.format false (rung FloatKind.f64.format m e) (by rw [c64_sign]; omega)
    unfold Format.read at h1
    simp only [hsg] at h1
    split at h1
    · injection h1 with e1 _ _; exact e1.symm
    · split at h1
      · injection h1 with e1 _ _; exact e1.symm
      · split at h1 <;> cases h1
  rw [hs] at h1; exact h1
theorem read_mant {x : Nat} {s : Bool} {m : Nat} {e : Int} (h : FloatKind.f64.format.read x = .number s m e) : m < 2 ^ 53 := by
  unfold Format.read at h
  simp only [c64_sign, c64_binade, c64_inf] at h
  split at h
  · injection h with _ e1 _; omega
  · split at h
    · injection h with _ e1 _; omega
    · split at h <;> cases h
theorem log_of {m : Nat} {e A : Int} (he : -1074 ≤ e) (hA : -1074 ≤ A) (h : m * 2 ^ (e + 1074).toNat ≤ 2 ^ (A + 1074).toNat) : m ≠ 0 → e + m.log2 ≤ A := by
  intro hm
  have h4 : 2 ^ (m.log2 + (e + 1074).toNat) ≤ 2 ^ (A + 1074).toNat := by
    rw [Nat.pow_add]
    exact Nat.le_trans (Nat.mul_le_mul_right _ (log2_lo hm)) h
  have := (Nat.pow_le_pow_iff_right (by omega : 1 < 2)).1 h4
  omega
theorem pos_sq {t : Nat} {A : Int} (C : Int) (h : Num t A) (hC : A + A ≤ C ∧ -1022 ≤ C ∧ C ≤ 1023) (hA : -1074 ≤ A) : Pos (F .mul .f64 t t) C := by
  have hn := num_mul C h h hC hA hA
  obtain ⟨s, m, i, h1, hi, hm⟩ := h
  have e : F .mul .f64 t t = FloatKind.f64.format.write (.number false (m * m) (i + i)) := by
    unfold F raw
    simp only [Format.mul, h1, Datum.product, Option.map_some, Option.getD_some]
    have : (s ^^ s) = false := by cases s <;> rfl
    rw [this]
  rw [e] at hn ⊢
  exact pos_write hn
theorem pos_one_add {y : Nat} {A : Int} (C : Int) (h : Pos y A) (hC : A < C ∧ 0 < C ∧ C ≤ 1023) : Pos (F .add .f64 4607182418800017408 y) C := by
  have hn := num_add C num_one h.num ⟨by omega, by omega, by omega, by omega⟩
  obtain ⟨n, j, h1, hj, hm⟩ := h
  have e : ∃ m' e', F .add .f64 4607182418800017408 y = FloatKind.f64.format.write (.number false m' e') := by
    unfold F raw
    simp only [Format.add, h1, read_one, Datum.sum, Option.map_some, Option.getD_some]
    have h0 : decide (signed false 4503599627370496 (-52 - min (-52) j).toNat + signed false n (j - min (-52) j).toNat < 0) = false := by
      unfold signed; simp only [Bool.false_eq_true, if_false]
      generalize 4503599627370496 <<< (-52 - min (-52) j).toNat = u
      generalize n <<< (j - min (-52) j).toNat = v
      exact decide_eq_false (by omega)
    by_cases hz : signed false 4503599627370496 (-52 - min (-52) j).toNat + signed false n (j - min (-52) j).toNat = 0
    · rw [if_pos hz]; exact ⟨_, _, rfl⟩
    · rw [if_neg hz, h0]; exact ⟨_, _, rfl⟩
  obtain ⟨m', e', e⟩ := e
  rw [e] at hn ⊢
  exact pos_write hn
theorem pos_root {y : Nat} {A : Int} (K : Int) (h : Pos y A) (hK : A + 3 ≤ 2 * K) (hA : 0 ≤ A) (hK1 : K ≤ 1023) : Pos (root y) K := by
  obtain ⟨n, j, h1, hj, hm⟩ := h
  obtain ⟨m', e', e, hn⟩ := root_pos h1 hj (log_of hj (by omega) hm) (read_mant h1) K hK hA hK1
  rw [e] at hn ⊢
  exact pos_write hn
theorem tA_num {t : Nat} (h : Num t 1) : ∀ j : Nat, j ≤ 3 → Num (tA t j) (1 + j) := by
  intro j
  induction j with
  | zero => intro _; exact h
  | succ j ih =>
    intro hj
    have hi := ih (by omega)
    have h1 := pos_sq 8 hi ⟨by omega, by omega, by omega⟩ (by omega)
    have h2 := pos_one_add 9 h1 ⟨by omega, by omega, by omega⟩
    have h3 := pos_root 6 h2 (by omega) (by omega) (by omega)
    obtain ⟨n, i, hr, hi', hm⟩ := h3
    have h4 := (add_one_lo hr hi' (⟨false, n, i, hr, hi', hm⟩ : Num _ 6) (by omega) (by omega)).2
    exact num_quo (1 + (j + 1 : Nat)) hi (by omega) h4 (by omega) (by omega) (by omega)
theorem polyA_num (u : Nat) (hu : Num u 8) : ∀ j : Nat, j ≤ 8 → Num (polyA u j) (9 * j) := by
  intro j
  induction j with
  | zero => intro _; exact num_zero.mono (by omega)
  | succ j ih =>
    intro hj
    have h1 := num_mul (8 + 9 * j) hu (ih (by omega)) ⟨by omega, by omega, by omega⟩ (by omega) (by omega)
    have h2 := num_quo 1 num_one (by omega) (odd_lo (8 - j) (by omega) (by omega)) (by omega) (by omega) (by omega)
    exact num_sub (9 * (j + 1 : Nat)) h2 h1 ⟨by omega, by omega, by omega, by omega⟩
/-- The quotient of a word without a sign and one that is not less. -/
theorem num_ratio (a b : Nat) (hab : a ≤ b) (hb : b < 9218868437227405312) (h0 : b ≠ 0) : Num (F .quo .f64 a b) 1 := by
  obtain ⟨m, i, hr, hi, hN, hz⟩ := read_fin FloatKind.f64.format false a (by rw [c64_inf]; omega)
  obtain ⟨n, j, hr', hj, hN', hz'⟩ := read_fin FloatKind.f64.format false b (by rw [c64_inf]; omega)
  rw [c64_least] at hi hN hj hN'
  have ra : FloatKind.f64.format.read a = .number false m i := hr
  have rb : FloatKind.f64.format.read b = .number false n j := hr'
  have hn : n ≠ 0 := fun e => h0 (hz'.1 e)
  have hle := N_le FloatKind.f64.format hab
  rw [← hN, ← hN'] at hle
  have hlog : m ≠ 0 → (i + m.log2) - (j + n.log2) + 1 ≤ 1 := by
    intro hm
    have h1 : 2 ^ (m.log2 + (i - -1074).toNat) < 2 ^ (n.log2 + 1 + (j - -1074).toNat) := by
      calc 2 ^ (m.log2 + (i - -1074).toNat) = 2 ^ m.log2 * 2 ^ (i - -1074).toNat := Nat.pow_add _ _ _
        _ ≤ m * 2 ^ (i - -1074).toNat := Nat.mul_le_mul_right _ (log2_lo hm)
        _ ≤ n * 2 ^ (j - -1074).toNat := hle
        _ < 2 ^ (n.log2 + 1) * 2 ^ (j - -1074).toNat := Nat.mul_lt_mul_of_pos_right (log2_hi hn) (Nat.two_pow_pos _)
        _ = 2 ^ (n.log2 + 1 + (j - -1074).toNat) := (Nat.pow_add _ _ _).symm
    have := (Nat.pow_lt_pow_iff_right (by omega : 1 < 2)).1 h1
    omega
  obtain ⟨d, h3, h4⟩ := num_quot false false m n i j 1 hn hi hj hlog (by omega) (by omega) (read_place b rb)
  unfold F raw
  simp only [Format.div, ra, rb, c64_frac, h3, Option.map_some, Option.getD_some]
  exact h4
theorem t0_num (a b : Nat) (ha : a < 9218868437227405312) (hb : b < 9218868437227405312) (h0 : a ≠ 0 ∨ b ≠ 0) : Num (t0 a b) 1 := by
  unfold t0
  rw [gt_pos .f64 a b (by rw [c64_inf]; omega) (by rw [c64_inf]; omega)]
  by_cases h : b < a
  · rw [decide_eq_true h, if_pos rfl]; exact num_ratio b a (by omega) ha (by omega)
  · rw [decide_eq_false h, if_neg (by decide)]; exact num_ratio a b (by omega) hb (by omega)
theorem lo_turn : Lo 4618760256179416344 2 := ⟨false, 7074237752028440, -50, by decide +kernel, by omega, by omega, by decide +kernel⟩
theorem angF_num (a b : Nat) (xn yn : Bool) (ha : a < 9218868437227405312) (hb : b < 9218868437227405312) (h0 : a ≠ 0 ∨ b ≠ 0) : Num (angF a b xn yn) 100 := by
  have ht := tA_num (t0_num a b ha hb h0) 3 (by omega)
  have hu := num_mul 8 ht ht ⟨by omega, by omega, by omega⟩ (by omega) (by omega)
  have hp := polyA_num _ hu 8 (by omega)
  have h1 := num_mul 80 ht hp ⟨by omega, by omega, by omega⟩ (by omega) (by omega)
  have h2 := num_mul 90 (num_lit 4620693217682128896 4 (by decide +kernel) (by omega)) h1 ⟨by omega, by omega, by omega⟩ (by omega) (by omega)
  have h3 : Num (ang0 a b) 90 := num_quo 90 h2 (by omega) lo_turn (by omega) (by omega) (by omega)
  have h4 : Num (ang1 a b) 91 := by
    unfold ang1
    split
    · exact num_sub 91 (num_lit 4598175219545276416 0 (by decide +kernel) (by omega)) h3 ⟨by omega, by omega, by omega, by omega⟩
    · exact h3.mono (by omega)
  have h5 : Num (ang2 a b xn) 92 := by
    unfold ang2
    split
    · exact num_sub 92 (num_lit 4602678819172646912 0 (by decide +kernel) (by omega)) h4 ⟨by omega, by omega, by omega, by omega⟩
    · exact h4.mono (by omega)
  unfold angF
  split
  · exact (num_neg h5).mono (by omega)
  · exact h5.mono (by omega)
end Fl
end Go.Proofs.Yteoedcbnffkjkaa
