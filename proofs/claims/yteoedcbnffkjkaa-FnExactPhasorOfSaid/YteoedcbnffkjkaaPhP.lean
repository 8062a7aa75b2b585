/-
  The point of the unit circle at some turns, as a plain function of float64 words: the quarters are counted off in at most four rounds. No condition.
-/
import Derived.Test.YteoedcbnffkjkaaLogP
namespace Go.Proofs.Yteoedcbnffkjkaa
open Go.RowKit
set_option linter.unusedVariables false
namespace Fl
open Ieee
/-- the words of 0, 1/4, 1/2, 3/4 and 1 -/
def L : Nat → Nat
  | 0 => 0
  | 1 => 4598175219545276416
  | 2 => 4602678819172646912
  | 3 => 4604930618986332160
  | _ => 4607182418800017408
theorem read_quarter : FloatKind.f64.format.read 4598175219545276416 = .number false 4503599627370496 (-54) := by decide +kernel

theorem rung_quarters (T k : Nat) (hk : k ≤ 3) (hT : T ≤ k * 4503599627370496) : rung FloatKind.f64.format T (-54) ≤ L k := by
  rcases (by omega : k = 0 ∨ k = 1 ∨ k = 2 ∨ k = 3) with rfl | rfl | rfl | rfl
  · have : T = 0 := by omega
    subst this
    unfold rung; simp
  · have := rung_le FloatKind.f64.format T (-54) 4503599627370496 (-54) ⟨by rw [c64_least]; omega, by rw [c64_binade]; omega, Or.inl (by rw [c64_binade]; omega)⟩ (by
      unfold Vle; rw [show ((-54 : Int) - -54).toNat = 0 from rfl]; omega)
    have e : rungOf FloatKind.f64.format 4503599627370496 (-54) = 4598175219545276416 := by decide +kernel
    rw [e] at this; exact this
  · have := rung_le FloatKind.f64.format T (-54) 4503599627370496 (-53) ⟨by rw [c64_least]; omega, by rw [c64_binade]; omega, Or.inl (by rw [c64_binade]; omega)⟩ (by
      unfold Vle; rw [show ((-54 : Int) - -53).toNat = 0 from rfl, show ((-53 : Int) - -54).toNat = 1 from rfl]; omega)
    have e : rungOf FloatKind.f64.format 4503599627370496 (-53) = 4602678819172646912 := by decide +kernel
    rw [e] at this; exact this
  · have := rung_le FloatKind.f64.format T (-54) 6755399441055744 (-53) ⟨by rw [c64_least]; omega, by rw [c64_binade]; omega, Or.inl (by rw [c64_binade]; omega)⟩ (by
      unfold Vle; rw [show ((-54 : Int) - -53).toNat = 0 from rfl, show ((-53 : Int) - -54).toNat = 1 from rfl]; omega)
    have e : rungOf FloatKind.f64.format 6755399441055744 (-53) = 4604930618986332160 := by decide +kernel
    rw [e] at this; exact this

theorem sub_tail (T : Nat) (a : Int) (h : a = T) : (Datum.number (if a = 0 then false && true else decide (a < 0)) a.natAbs (-54)) = .number false T (-54) := by
  subst h
  congr 1
  by_cases h0 : (T : Int) = 0
  · rw [if_pos h0]; rfl
  · rw [if_neg h0]; exact decide_eq_false (by omega)

/-- A quarter is taken away. -/
theorem sub_quarter (r k : Nat) (hk : 1 ≤ k) (hk4 : k ≤ 4) (h1 : 4598175219545276416 ≤ r) (h2 : r ≤ L k) : ∃ r', raw .sub .f64 r 4598175219545276416 = some r' ∧ r' ≤ L (k - 1) := by
  have hL : L k ≤ 4607182418800017408 := by
    rcases (by omega : k = 1 ∨ k = 2 ∨ k = 3 ∨ k = 4) with rfl | rfl | rfl | rfl <;> decide
  have hr := read_norm r (by omega) (by omega)
  -- the number in units of 2 ^ -54
  have hT : ∃ T : Nat, T + 4503599627370496 = (4503599627370496 + r % 4503599627370496) * 2 ^ ((-1074 : Int) + (r / 4503599627370496 - 1 : Nat) - min ((-1074 : Int) + (r / 4503599627370496 - 1 : Nat)) (-54)).toNat ∧ T ≤ (k - 1) * 4503599627370496 ∧ min ((-1074 : Int) + (r / 4503599627370496 - 1 : Nat)) (-54) = -54 := by
    have hq : r / 4503599627370496 = 1021 ∨ r / 4503599627370496 = 1022 ∨ r / 4503599627370496 = 1023 := by omega
    have hk' : r ≤ 4598175219545276416 + (k - 1) * 9007199254740992 := by
      rcases (by omega : k = 1 ∨ k = 2 ∨ k = 3 ∨ k = 4) with rfl | rfl | rfl | rfl <;> simp only [L] at h2 <;> omega
    rcases hq with hq | hq | hq
    · rw [hq]
      rw [show (((-1074 : Int) + ((1021 - 1 : Nat) : Int) - min (-1074 + ((1021 - 1 : Nat) : Int)) (-54))).toNat = 0 from rfl, Nat.pow_zero, Nat.mul_one]
      refine ⟨r % 4503599627370496, by omega, ?_, rfl⟩
      rcases (by omega : k = 1 ∨ k = 2 ∨ k = 3 ∨ k = 4) with rfl | rfl | rfl | rfl <;> simp only [L] at h2 <;> omega
    · rw [hq]
      rw [show (((-1074 : Int) + ((1022 - 1 : Nat) : Int) - min (-1074 + ((1022 - 1 : Nat) : Int)) (-54))).toNat = 1 from rfl]
      refine ⟨4503599627370496 + 2 * (r % 4503599627370496), by omega, ?_, rfl⟩
      rcases (by omega : k = 1 ∨ k = 2 ∨ k = 3 ∨ k = 4) with rfl | rfl | rfl | rfl <;> simp only [L] at h2 <;> omega
    · rw [hq]
      rw [show (((-1074 : Int) + ((1023 - 1 : Nat) : Int) - min (-1074 + ((1023 - 1 : Nat) : Int)) (-54))).toNat = 2 from rfl]
      refine ⟨3 * 4503599627370496 + 4 * (r % 4503599627370496), by omega, ?_, rfl⟩
      rcases (by omega : k = 1 ∨ k = 2 ∨ k = 3 ∨ k = 4) with rfl | rfl | rfl | rfl <;> simp only [L] at h2 <;> omega
  obtain ⟨T, hT1, hT2, hT3⟩ := hT
  unfold raw Format.sub
  rw [hr, read_quarter]
  simp only [Datum.opposite, Datum.sum, Bool.not_false]
  generalize (-1074 : Int) + (r / 4503599627370496 - 1 : Nat) = e at *
  generalize 4503599627370496 + r % 4503599627370496 = m at *
  rw [hT3] at hT1 ⊢
  have ha : signed false m (e - -54).toNat + signed true 4503599627370496 (-54 - -54).toNat = (T : Int) := by
    unfold signed
    simp only [Bool.false_eq_true, if_false, if_true, Nat.shiftLeft_eq]
    rw [← hT1, show ((-54 : Int) - -54).toNat = 0 from rfl]
    omega
  rw [sub_tail T _ ha]
  refine ⟨_, rfl, ?_⟩
  rw [write_num, word64, if_neg (by decide)]
  exact rung_quarters T (k - 1) (by omega) hT2

/-- The rounds that count quarters off. -/
def phI : Nat → Nat → Nat → Nat × Nat
  | 0, f, q => (f, q)
  | n + 1, f, q => if ge .f64 f 4598175219545276416 = true then phI n (F .sub .f64 f 4598175219545276416) (q + 1) else (f, q)
theorem phI_stop (n f q : Nat) (h : ge .f64 f 4598175219545276416 = false) : phI n f q = (f, q) := by
  cases n with
  | zero => rfl
  | succ n => unfold phI; rw [if_neg (by rw [h]; decide)]
theorem ge_quarter (r : Nat) (h : r ≤ 4607182418800017408) : ge .f64 r 4598175219545276416 = decide (4598175219545276416 ≤ r) := ge_pos .f64 _ _ (by rw [c64_inf]; omega) (by rw [c64_inf]; omega)
theorem ge_nzero : ge .f64 9223372036854775808 4598175219545276416 = false := by decide +kernel
theorem L_le (k : Nat) : L k ≤ 4607182418800017408 := by
  match k with
  | 0 => decide
  | 1 => decide
  | 2 => decide
  | 3 => decide
  | k + 4 => exact Nat.le_refl _

/-- The rung of a number that is at most 2 to the power of A. -/
theorem rung_of_num {x : Nat} {A : Int} (hx : x < 18446744073709551616) (h : Num x A) (hA : -1022 ≤ A) : x % 9223372036854775808 ≤ (A + 1023).toNat * 4503599627370496 := by
  obtain ⟨s, m, e, h1, h2, h3⟩ := h
  obtain ⟨t, r, hr, rfl⟩ := word_split FloatKind.f64.format x (by rw [c64_sign]; omega)
  have hm := word_mod FloatKind.f64.format t r hr
  rw [c64_sign] at hm hr
  rw [hm]
  have hf : r < 9218868437227405312 := by
    rcases Nat.lt_trichotomy r 9218868437227405312 with h | h | h
    · exact h
    · exfalso; have := read_inf .f64 t; rw [c64_inf, ← h, h1] at this; cases this
    · exfalso
      have := read_nanRung .f64 t r (by rw [c64_inf]; exact h) (by rw [c64_sign]; exact hr)
      unfold isN at this; rw [h1] at this; cases this
  obtain ⟨m', e', hrd, he, hN, _⟩ := read_fin FloatKind.f64.format t r (by rw [c64_inf]; exact hf)
  rw [h1] at hrd
  injection hrd with _ e2 e3
  subst e2 e3
  rw [c64_least] at hN
  have e1 : (e - -1074).toNat = (e + 1074).toNat := by omega
  rw [e1] at hN
  rw [hN] at h3
  rcases Nat.lt_or_ge ((A + 1023).toNat * 4503599627370496) r with hlt | hge
  · exfalso
    have := N_mono FloatKind.f64.format _ _ hlt
    rw [N_pow _ (by omega)] at this
    have e4 : (A + 1074).toNat = (A + 1023).toNat + 51 := by omega
    rw [e4] at h3
    omega
  · exact hge
theorem write64_lt (d : Datum) : FloatKind.f64.format.write d < 18446744073709551616 := FloatKind.f64.format.write_lt d
theorem raw64_lt {op : BinOp} {x y r : Nat} (h : raw op .f64 x y = some r) : r < 18446744073709551616 := by
  unfold raw at h
  split at h
  all_goals first | (obtain ⟨d, _, rfl⟩ := Option.map_eq_some_iff.1 h; exact write64_lt d) | cases h
theorem F64_lt (op : BinOp) (x y : Nat) : F op .f64 x y < 18446744073709551616 := by
  unfold F
  cases h : raw op .f64 x y with
  | none => decide
  | some r => exact raw64_lt h

theorem word_facts64 (s : Bool) (r : Nat) (hr : r ≤ 9218868437227405312) : eq .f64 (FloatKind.f64.format.word s r) 0 = decide (r = 0) ∧ lt .f64 (FloatKind.f64.format.word s r) 0 = (s && decide (r ≠ 0)) := by
  unfold eq lt
  rw [order_zero .f64 s r (by rw [c64_inf]; exact hr)]
  by_cases h0 : r = 0
  · rw [if_pos h0]; cases s <;> simp [h0] <;> decide
  · rw [if_neg h0]; cases s <;> simp [h0] <;> decide

/-- A number's places behind the point: a word from 0 to 1, or the zero with a sign. -/
theorem fracF_word {x : Nat} (h : Num x 52) : fracF x ≤ 4607182418800017408 ∨ fracF x = 9223372036854775808 := by
  have hf := frac_num h
  have hlt := F64_lt .sub x (FloatKind.f64.nearest (ti x))
  have hr := rung_of_num hlt hf (by omega)
  rw [show ((0 : Int) + 1023).toNat = 1023 from rfl] at hr
  unfold fracF
  generalize F .sub .f64 x (FloatKind.f64.nearest (ti x)) = f at *
  obtain ⟨s, r, hrs, rfl⟩ := word_split FloatKind.f64.format f (by rw [c64_sign]; omega)
  have hm := word_mod FloatKind.f64.format s r hrs
  rw [c64_sign] at hm
  rw [hm] at hr
  rw [(word_facts64 s r (by omega)).2]
  cases s with
  | false =>
    rw [word64]
    simp only [Bool.false_and, Bool.false_eq_true, if_false]
    exact Or.inl (by omega)
  | true =>
    by_cases h0 : r = 0
    · subst h0
      right
      rw [word64]; simp
    · left
      rw [if_pos (by simp [h0])]
      -- -m 2 ^ e + 1, where m 2 ^ e is at most 1
      obtain ⟨m, e, hrd, he, hN, hz⟩ := read_fin FloatKind.f64.format true r (by rw [c64_inf]; omega)
      obtain ⟨s', m', e', h1, h2, h3⟩ := hf
      rw [hrd] at h1
      injection h1 with _ e2 e3
      subst e2 e3
      unfold F raw
      simp only [Format.add, hrd, read_one, Datum.sum, Option.map_some, Option.getD_some]
      have h6 : m * 2 ^ (e - min e (-52)).toNat * 2 ^ (min e (-52) + 1074).toNat = m * 2 ^ (e + 1074).toNat := by rw [Nat.mul_assoc, ← Nat.pow_add]; congr 2; omega
      have h7 : 4503599627370496 * 2 ^ (-52 - min e (-52)).toNat * 2 ^ (min e (-52) + 1074).toNat = 2 ^ off := by
        rw [show (4503599627370496 : Nat) = 2 ^ 52 from rfl, ← Nat.pow_add, ← Nat.pow_add]; congr 1; have := off_eq; omega
      rw [show ((0 : Int) + 1074).toNat = off by have := off_eq; omega] at h3
      have h8 : m * 2 ^ (e - min e (-52)).toNat ≤ 4503599627370496 * 2 ^ (-52 - min e (-52)).toNat := by
        refine Nat.le_of_mul_le_mul_right ?_ (Nat.two_pow_pos (min e (-52) + 1074).toNat)
        rw [h6, h7]; exact h3
      have h9 : signed true m (e - min e (-52)).toNat + signed false 4503599627370496 (-52 - min e (-52)).toNat = ((4503599627370496 * 2 ^ (-52 - min e (-52)).toNat - m * 2 ^ (e - min e (-52)).toNat : Nat) : Int) := by
        unfold signed
        simp only [Bool.false_eq_true, if_false, if_true, Nat.shiftLeft_eq]
        generalize m * 2 ^ (e - min e (-52)).toNat = u at *
        generalize 4503599627370496 * 2 ^ (-52 - min e (-52)).toNat = v at *
        omega
      rw [h9]
      have hv : Vle (4503599627370496 * 2 ^ (-52 - min e (-52)).toNat - m * 2 ^ (e - min e (-52)).toNat) (min e (-52)) 4503599627370496 (-52) := by
        unfold Vle
        rw [show (min e (-52) - -52).toNat = 0 by omega, Nat.pow_zero, Nat.mul_one]
        exact Nat.sub_le _ _
      generalize 4503599627370496 * 2 ^ (-52 - min e (-52)).toNat - m * 2 ^ (e - min e (-52)).toNat = T at *
      have hs : (if (T : Int) = 0 then true && false else decide ((T : Int) < 0)) = false := by
        split
        · rfl
        · exact decide_eq_false (by omega)
      rw [hs, Int.natAbs_natCast, write_num, word64, if_neg (by decide)]
      have hle := rung_le FloatKind.f64.format T (min e (-52)) 4503599627370496 (-52) ⟨by rw [c64_least]; omega, by rw [c64_binade]; omega, Or.inl (by rw [c64_binade]; omega)⟩ hv
      have e1 : rungOf FloatKind.f64.format 4503599627370496 (-52) = 4607182418800017408 := by decide +kernel
      rw [e1] at hle; exact hle
end Fl
end Go.Proofs.Yteoedcbnffkjkaa
