/-
  The logarithm as a plain function of float64 words: halving and doubling, the series, and that it is finite. No condition.
-/
import Derived.Test.YteoedcbnffkjkaaFin
namespace Go.Proofs.Yteoedcbnffkjkaa
open Go.RowKit
set_option linter.unusedVariables false
namespace Fl
open Ieee
theorem read_norm (r : Nat) (h1 : 4503599627370496 ≤ r) (h2 : r < 9218868437227405312) : FloatKind.f64.format.read r = .number false (4503599627370496 + r % 4503599627370496) (-1074 + (r / 4503599627370496 - 1 : Nat)) := by
  have := read_rung FloatKind.f64.format false r (by rw [c64_inf]; exact h2)
  rw [c64_binade, c64_least, if_neg (by omega)] at this
  exact this
theorem read_two : FloatKind.f64.format.read 4611686018427387904 = .number false 4503599627370496 (-51) := by decide +kernel
theorem read_one : FloatKind.f64.format.read 4607182418800017408 = .number false 4503599627370496 (-52) := by decide +kernel

theorem halve_arith (r m : Nat) (h1 : 9007199254740992 ≤ r) (h2 : r < 9218868437227405312) (hm : 4503599627370496 + r % 4503599627370496 = m) : min ((r / 4503599627370496 - 2) * 4503599627370496 + m) 9218868437227405312 = r - 4503599627370496 := by omega
theorem quot_two (m : Nat) (i : Int) (h1 : 4503599627370496 ≤ m) (h2 : m < 9007199254740992) : (Datum.number false m i).quotient 54 (.number false 4503599627370496 (-51)) = some (.number false (8 * m) (i - 4)) := by
  have hml : m.log2 = 52 := log2_of (by omega) (by omega)
  have hnl : (4503599627370496 : Nat).log2 = 52 := by decide +kernel
  unfold Datum.quotient
  simp only [hml, hnl]
  rw [if_neg (by omega)]
  have e1 : m <<< (54 + 52 - 52) = 4503599627370496 * (4 * m) := by rw [Nat.shiftLeft_eq]; omega
  rw [e1, Nat.mul_div_cancel_left _ (by omega), Nat.mul_mod_right]
  refine congrArg some ?_
  have e2 : 2 * (4 * m) + ((0 : Nat) != 0).toNat = 8 * m := by rw [show ((0 : Nat) != 0).toNat = 0 from rfl]; omega
  rw [e2]
  have e3 : i - -51 - ((54 + 52 - 52 : Nat) : Int) - 1 = i - 4 := by omega
  rw [e3]
  rfl
theorem rung_eight (m : Nat) (i : Int) (h1 : 4503599627370496 ≤ m) (h2 : m < 9007199254740992) (hi : -1073 ≤ i) : rung FloatKind.f64.format (8 * m) (i - 4) = min ((i + 1073).toNat * 4503599627370496 + m) 9218868437227405312 := by
  have hr := rung_exact FloatKind.f64.format (8 * m) (i - 4) m (i - 1) ⟨by rw [c64_least]; omega, by rw [c64_binade]; omega, Or.inl (by rw [c64_binade]; omega)⟩ (by
    rw [show (i - 4 - (i - 1)).toNat = 0 by omega, show (i - 1 - (i - 4)).toNat = 3 by omega]
    omega)
  rw [hr]
  unfold rungOf
  rw [c64_least, c64_binade, c64_inf]
  have e3 : (i - 1 - -1074).toNat = (i + 1073).toNat := by omega
  rw [e3]
theorem halve (r : Nat) (h1 : 9007199254740992 ≤ r) (h2 : r < 9218868437227405312) : raw .quo .f64 r 4611686018427387904 = some (r - 4503599627370496) := by
  unfold raw Format.div
  have hq := quot_two (4503599627370496 + r % 4503599627370496) (-1074 + (r / 4503599627370496 - 1 : Nat)) (by omega) (by omega)
  have hg := rung_eight (4503599627370496 + r % 4503599627370496) (-1074 + (r / 4503599627370496 - 1 : Nat)) (by omega) (by omega) (by omega)
  rw [read_norm r (by omega) h2, read_two]
  simp only [c64_frac, hq, Option.map_some]
  rw [write_num, hg, word64, if_neg (by decide)]
  have e : (-1074 + ((r / 4503599627370496 - 1 : Nat) : Int) + 1073).toNat = r / 4503599627370496 - 2 := by omega
  rw [e, halve_arith r _ h1 h2 rfl]

theorem double (r : Nat) (h1 : 4503599627370496 ≤ r) (h2 : r + 4503599627370496 < 9218868437227405312) : raw .mul .f64 r 4611686018427387904 = some (r + 4503599627370496) := by
  unfold raw Format.mul
  rw [read_norm r h1 (by omega), read_two]
  generalize hm : 4503599627370496 + r % 4503599627370496 = m
  generalize hi : (-1074 : Int) + (r / 4503599627370496 - 1 : Nat) = i
  simp only [Datum.product, Option.map_some]
  rw [write_num]
  have hr := rung_exact FloatKind.f64.format (m * 4503599627370496) (i + -51) m (i + 1) ⟨by rw [c64_least]; omega, by rw [c64_binade]; omega, Or.inl (by rw [c64_binade]; omega)⟩ (by
    rw [show (i + -51 - (i + 1)).toNat = 0 by omega, show (i + 1 - (i + -51)).toNat = 52 by omega]; omega)
  rw [hr]
  unfold rungOf
  rw [c64_least, c64_binade, c64_inf]
  have e3 : (i + 1 - -1074).toNat = r / 4503599627370496 := by omega
  rw [e3]
  have e4 : (false ^^ false) = false := rfl
  rw [e4, word64, if_neg (by decide)]
  refine congrArg some ?_
  omega

theorem cnt_inc (j : Int) (h1 : -300 ≤ j) (h2 : j < 300) : raw .add .f64 (FloatKind.f64.nearest j) 4607182418800017408 = some (FloatKind.f64.nearest (j + 1)) := by
  have : ∀ i : Fin 600, raw .add .f64 (FloatKind.f64.nearest ((i.val : Int) - 300)) 4607182418800017408 = some (FloatKind.f64.nearest ((i.val : Int) - 300 + 1)) := by decide +kernel
  have := this ⟨(j + 300).toNat, by omega⟩
  have e : (((j + 300).toNat : Nat) : Int) - 300 = j := by omega
  simp only [e] at this
  exact this
theorem cnt_dec (j : Int) (h1 : -300 ≤ j) (h2 : j < 300) : raw .sub .f64 (FloatKind.f64.nearest j) 4607182418800017408 = some (FloatKind.f64.nearest (j - 1)) := by
  have : ∀ i : Fin 600, raw .sub .f64 (FloatKind.f64.nearest ((i.val : Int) - 300)) 4607182418800017408 = some (FloatKind.f64.nearest ((i.val : Int) - 300 - 1)) := by decide +kernel
  have := this ⟨(j + 300).toNat, by omega⟩
  have e : (((j + 300).toNat : Nat) : Int) - 300 = j := by omega
  simp only [e] at this
  exact this

/-- what stays of the rung, and how often it was halved -/
def rL (r0 : Nat) : Nat := 4604930618986332160 + (r0 + 9007199254740992000 - 4604930618986332160) % 4503599627370496
def qL (r0 : Nat) : Int := ((r0 : Int) - rL r0) / 4503599627370496
theorem rL_of (r0 r : Nat) (i : Int) (h1 : 4604930618986332160 ≤ r) (h2 : r < 4609434218613702656) (h3 : (r : Int) + i * 4503599627370496 = r0) : rL r0 = r ∧ qL r0 = i := by
  have e : rL r0 = r := by unfold rL; omega
  refine ⟨e, ?_⟩
  unfold qL
  rw [e]; omega

/-- the odd numbers from 25 down, at g more rounds to come -/
def odd (g : Nat) : Nat := FloatKind.f64.nearest (2 * (g : Int) - 1)
theorem odd_facts (g : Nat) (h0 : 1 ≤ g) (h : g ≤ 13) : raw .sub .f64 (odd g) 4611686018427387904 = some (odd (g - 1)) ∧ ge .f64 (odd g) 4607182418800017408 = true := by
  have : ∀ g : Fin 14, 1 ≤ g.val → (raw .sub .f64 (odd g) 4611686018427387904 = some (odd (g - 1)) ∧ ge .f64 (odd g) 4607182418800017408 = true) := by decide +kernel
  exact this ⟨g, by omega⟩ h0
theorem odd_zero : ge .f64 (odd 0) 4607182418800017408 = false := by decide +kernel

def polyL (n : Nat) (u : Nat) : Nat → Nat
  | 0 => 0
  | j + 1 => F .add .f64 (F .quo .f64 4607182418800017408 (odd (n - j))) (F .mul .f64 u (polyL n u j))
theorem polyL_step (n u g : Nat) (h0 : 1 ≤ g) (h : g ≤ n) : polyL n u (n - (g - 1)) = F .add .f64 (F .quo .f64 4607182418800017408 (odd g)) (F .mul .f64 u (polyL n u (n - g))) := by
  rw [show n - (g - 1) = (n - g) + 1 by omega]
  show F .add .f64 (F .quo .f64 _ (odd (n - (n - g)))) _ = _
  rw [show n - (n - g) = g by omega]

/-- (x - 1) / (x + 1) -/
def sL (x : Nat) : Nat := F .quo .f64 (F .sub .f64 x 4607182418800017408) (F .add .f64 x 4607182418800017408)
def uL (x : Nat) : Nat := F .mul .f64 (sL x) (sL x)
def logW (x : Nat) (q : Int) : Nat := F .add .f64 (F .mul .f64 4611686018427387904 (F .mul .f64 (sL x) (polyL 13 (uL x) 13))) (F .mul .f64 (FloatKind.f64.nearest q) 4604418534313441775)
def logF (r0 : Nat) : Nat := logW (rL r0) (qL r0)

theorem odd_lo (g : Nat) (h0 : 1 ≤ g) (h : g ≤ 13) : Lo (odd g) 0 := by
  have : ∀ m : Fin 14, 1 ≤ m.val → (match FloatKind.f64.format.read (odd m) with | .number t n j => decide (-1074 ≤ j) && decide (n ≠ 0) && decide (0 ≤ j + n.log2) | _ => false) = true := by decide +kernel
  have := this ⟨g, by omega⟩ h0
  simp only at this
  unfold Lo
  split at this
  · rename_i t n j hr
    simp only [Bool.and_eq_true, decide_eq_true_eq] at this
    exact ⟨t, n, j, hr, this.1.1, this.1.2, this.2⟩
  · cases this
theorem num_nearest (q : Int) (h1 : -300 ≤ q) (h2 : q < 300) : Num (FloatKind.f64.nearest q) 9 := by
  have : ∀ i : Fin 600, (match FloatKind.f64.format.read (FloatKind.f64.nearest ((i.val : Int) - 300)) with | .number s m e => decide (-1074 ≤ e) && (decide (m = 0) || decide (e + m.log2 < 9)) | _ => false) = true := by decide +kernel
  have := this ⟨(q + 300).toNat, by omega⟩
  have e : (((q + 300).toNat : Nat) : Int) - 300 = q := by omega
  simp only [e] at this
  unfold Num
  split at this
  · rename_i s m e hr
    simp only [Bool.and_eq_true, Bool.or_eq_true, decide_eq_true_eq] at this
    refine ⟨s, m, e, hr, this.1, ?_⟩
    rcases this.2 with h0 | h0
    · rw [h0, Nat.zero_mul]; exact Nat.zero_le _
    · by_cases hm : m = 0
      · rw [hm, Nat.zero_mul]; exact Nat.zero_le _
      · calc m * 2 ^ (e + 1074).toNat ≤ 2 ^ (m.log2 + 1) * 2 ^ (e + 1074).toNat := Nat.mul_le_mul_right _ (Nat.le_of_lt (log2_hi hm))
          _ = 2 ^ (m.log2 + 1 + (e + 1074).toNat) := (Nat.pow_add _ _ _).symm
          _ ≤ 2 ^ ((9 : Int) + 1074).toNat := Nat.pow_le_pow_right (by omega) (by omega)
  · cases this

/-- The difference of a number from 0 to 2 and 1. -/
theorem num_sub_one (x : Nat) (h1 : 4503599627370496 ≤ x) (h2 : x ≤ 4611686018427387904) : Num (F .sub .f64 x 4607182418800017408) 0 := by
  have hx := num_word false x 1 (by omega) (by omega) (by rw [show ((1 : Int) + 1023).toNat = 1024 from rfl]; omega)
  rw [word64, if_neg (by decide)] at hx
  have hr := read_norm x h1 (by omega)
  obtain ⟨s, m, e, h3, h4, h5⟩ := hx
  rw [hr] at h3
  injection h3 with e1 e2 e3
  unfold F raw
  simp only [Format.sub, hr, read_one, Datum.opposite, Datum.sum, Option.map_some, Option.getD_some]
  rw [e2, e3]
  refine num_write _ _ _ 0 (by omega) (by omega) (vle_of _ _ _ 1074 (by omega) (by omega) ?_ 52)
  have ho : (-52 : Int) + 1074 = ((off - 52 : Nat) : Int) := by have := off_eq; omega
  have h6 : m * 2 ^ (e - min e (-52)).toNat * 2 ^ (min e (-52) + 1074).toNat = m * 2 ^ (e + 1074).toNat := by rw [Nat.mul_assoc, ← Nat.pow_add]; congr 2; omega
  have h7 : 4503599627370496 * 2 ^ (-52 - min e (-52)).toNat * 2 ^ (min e (-52) + 1074).toNat = 2 ^ off := by
    rw [show (4503599627370496 : Nat) = 2 ^ 52 from rfl, ← Nat.pow_add, ← Nat.pow_add]; congr 1; have := off_eq; omega
  have h8 : m * 2 ^ (e + 1074).toNat ≤ 2 * 2 ^ off := by
    refine Nat.le_trans h5 (Nat.le_of_eq ?_)
    rw [← Nat.pow_succ', show ((1 : Int) + 1074).toNat = off + 1 by have := off_eq; omega]
  rw [show ((0 : Int) + 1074).toNat = off by have := off_eq; omega]
  have h9 : signed (!false) 4503599627370496 (-52 - min e (-52)).toNat = -((4503599627370496 * 2 ^ (-52 - min e (-52)).toNat : Nat) : Int) := by
    unfold signed; rw [Nat.shiftLeft_eq]; rfl
  have h10 : signed false m (e - min e (-52)).toNat = ((m * 2 ^ (e - min e (-52)).toNat : Nat) : Int) := by
    unfold signed; rw [Nat.shiftLeft_eq]; rfl
  rw [h9, h10]
  generalize m * 2 ^ (e - min e (-52)).toNat = u at *
  generalize 4503599627370496 * 2 ^ (-52 - min e (-52)).toNat = v at *
  generalize 2 ^ (min e (-52) + 1074).toNat = g at *
  generalize 2 ^ off = G at *
  have hk : ((u : Int) + -(v : Int)).natAbs ≤ max (u - v) (v - u) := by omega
  refine Nat.le_trans (Nat.mul_le_mul_right g hk) ?_
  have ha : (u - v) * g ≤ G := by rw [Nat.sub_mul, h6, h7]; omega
  have hb : (v - u) * g ≤ G := by rw [Nat.sub_mul, h7]; omega
  rcases Nat.le_total (u - v) (v - u) with hle | hle
  · rw [Nat.max_eq_right hle]; exact hb
  · rw [Nat.max_eq_left hle]; exact ha

/-- The sum of a number that is not less than zero and 1 is at least 1. -/
theorem add_one_lo {y n : Nat} {j A : Int} (hr : FloatKind.f64.format.read y = .number false n j) (hj : -1074 ≤ j) (hy : Num y A) (hA : 0 ≤ A) (hA2 : A < 1000) :
    Lo (F .add .f64 y 4607182418800017408) 0 ∧ Lo (F .add .f64 4607182418800017408 y) 0 := by
  have key : ∀ d : Datum, d = .number false (n * 2 ^ (j - min j (-52)).toNat + 4503599627370496 * 2 ^ (-52 - min j (-52)).toNat) (min j (-52)) → Num (FloatKind.f64.format.write d) (A + 1) → Lo (FloatKind.f64.format.write d) 0 := by
    intro d hd hnum
    have hle := le_rung FloatKind.f64.format (n * 2 ^ (j - min j (-52)).toNat + 4503599627370496 * 2 ^ (-52 - min j (-52)).toNat) (min j (-52)) 4503599627370496 (-52) ⟨by rw [c64_least]; omega, by rw [c64_binade]; omega, Or.inl (by rw [c64_binade]; omega)⟩ (by
      unfold Vle
      rw [show (min j (-52) - -52).toNat = 0 by omega, Nat.pow_zero, Nat.mul_one]
      omega)
    have hw := write_num FloatKind.f64.format false (n * 2 ^ (j - min j (-52)).toNat + 4503599627370496 * 2 ^ (-52 - min j (-52)).toNat) (min j (-52))
    rw [← hd] at hw
    have hinf := rung_inf FloatKind.f64.format (n * 2 ^ (j - min j (-52)).toNat + 4503599627370496 * 2 ^ (-52 - min j (-52)).toNat) (min j (-52))
    generalize rung FloatKind.f64.format (n * 2 ^ (j - min j (-52)).toNat + 4503599627370496 * 2 ^ (-52 - min j (-52)).toNat) (min j (-52)) = r at *
    rw [c64_inf] at hle hinf
    have e1 : rungOf FloatKind.f64.format 4503599627370496 (-52) = 4607182418800017408 := by decide +kernel
    rw [e1] at hle
    rw [word64, if_neg (by decide)] at hw
    have hr1 : 4607182418800017408 ≤ r := by omega
    have hr2 : r < 9218868437227405312 := by
      rcases Nat.lt_or_ge r 9218868437227405312 with h | h
      · exact h
      · exfalso
        have e2 : r = 9218868437227405312 := by omega
        obtain ⟨s, m, e, h3, _⟩ := hnum
        rw [hw, e2] at h3
        have := read_inf .f64 false
        rw [c64_inf, word64, if_neg (by decide)] at this
        rw [this] at h3
        cases h3
    rw [hw]
    refine ⟨false, _, _, read_norm r (by omega) hr2, by omega, by omega, ?_⟩
    have : (4503599627370496 + r % 4503599627370496).log2 = 52 := log2_of (by omega) (by omega)
    rw [this]
    omega
  have hs : ∀ k l : Nat, signed false n k + signed false 4503599627370496 l = ((n * 2 ^ k + 4503599627370496 * 2 ^ l : Nat) : Int) := by
    intro k l; unfold signed; simp only [Bool.false_eq_true, if_false, Nat.shiftLeft_eq]; omega
  have hpos : ∀ k l : Nat, n * 2 ^ k + 4503599627370496 * 2 ^ l ≠ 0 := by
    intro k l
    have : 0 < 4503599627370496 * 2 ^ l := Nat.mul_pos (by decide) (Nat.two_pow_pos _)
    omega
  constructor
  · have hn := num_add (A + 1) hy num_one ⟨by omega, by omega, by omega, by omega⟩
    unfold F raw at *
    simp only [Format.add, hr, read_one, Datum.sum, Option.map_some, Option.getD_some] at *
    refine key _ ?_ hn
    rw [hs]
    congr 1
    rw [if_neg (by have := hpos (j - min j (-52)).toNat (-52 - min j (-52)).toNat; omega)]
    exact decide_eq_false (by omega)
  · have hn := num_add (A + 1) num_one hy ⟨by omega, by omega, by omega, by omega⟩
    unfold F raw at *
    simp only [Format.add, hr, read_one, Datum.sum, Option.map_some, Option.getD_some] at *
    have e1 : min (-52 : Int) j = min j (-52) := by omega
    rw [e1] at hn ⊢
    refine key _ ?_ hn
    rw [Int.add_comm (signed false 4503599627370496 _), hs]
    congr 1
    rw [if_neg (by have := hpos (j - min j (-52)).toNat (-52 - min j (-52)).toNat; omega)]
    exact decide_eq_false (by omega)

theorem num_zero : Num 0 0 := ⟨false, 0, -1074, by decide +kernel, by omega, by rw [Nat.zero_mul]; exact Nat.zero_le _⟩

theorem polyL_num (n u : Nat) (hn : n ≤ 13) (hu : Num u 2) : ∀ j : Nat, j ≤ n → Num (polyL n u j) (3 * j) := by
  intro j
  induction j with
  | zero => intro _; exact num_zero.mono (by omega)
  | succ j ih =>
    intro hj
    have h1 := num_mul (2 + 3 * j) hu (ih (by omega)) ⟨by omega, by omega, by omega⟩ (by omega) (by omega)
    have h2 := num_quo 1 num_one (by omega) (odd_lo (n - j) (by omega) (by omega)) (by omega) (by omega) (by omega)
    exact num_add (3 * (j + 1 : Nat)) h2 h1 ⟨by omega, by omega, by omega, by omega⟩

theorem logW_num (x : Nat) (q : Int) (h1 : 4604930618986332160 ≤ x) (h2 : x < 4609434218613702656) (hq1 : -300 ≤ q) (hq2 : q < 300) : Num (logW x q) 45 := by
  have hx := num_word false x 1 (by omega) (by omega) (by rw [show ((1 : Int) + 1023).toNat = 1024 from rfl]; omega)
  rw [word64, if_neg (by decide)] at hx
  have hs1 := num_sub_one x (by omega) (by omega)
  have hs2 := (add_one_lo (read_norm x (by omega) (by omega)) (by omega) hx (by omega) (by omega)).1
  have hs := num_quo 1 hs1 (by omega) hs2 (by omega) (by omega) (by omega)
  have hu := num_mul 2 hs hs ⟨by omega, by omega, by omega⟩ (by omega) (by omega)
  have hp := polyL_num 13 _ (by omega) hu 13 (by omega)
  have h3 := num_mul 40 hs hp ⟨by omega, by omega, by omega⟩ (by omega) (by omega)
  have h4 := num_mul 42 (num_lit 4611686018427387904 2 (by decide +kernel) (by omega)) h3 ⟨by omega, by omega, by omega⟩ (by omega) (by omega)
  have h5 := num_mul 9 (num_nearest q hq1 hq2) (num_lit 4604418534313441775 0 (by decide +kernel) (by omega)) ⟨by omega, by omega, by omega⟩ (by omega) (by omega)
  exact num_add 45 h4 h5 ⟨by omega, by omega, by omega, by omega⟩
end Fl
end Go.Proofs.Yteoedcbnffkjkaa
