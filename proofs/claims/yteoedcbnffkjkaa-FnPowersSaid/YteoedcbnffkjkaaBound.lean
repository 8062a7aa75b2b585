/-
  Bounds by powers of two on float64 numbers, carried through '+', '-', '*', '/' and the root. No condition.
-/
import Derived.Test.YteoedcbnffkjkaaBits
namespace Go.Proofs.Yteoedcbnffkjkaa
namespace Fl
set_option linter.unusedVariables false
open Ieee

/-- 'T * 2 ^ b ≤ 2 ^ C', said with an offset that makes all places whole. -/
theorem vle_of (T : Nat) (b C O : Int) (h1 : 0 ≤ b + O) (h2 : 0 ≤ C + O) (h : T * 2 ^ (b + O).toNat ≤ 2 ^ (C + O).toNat) (K : Nat) : Vle T b (2 ^ K) (C - K) := by
  unfold Vle
  rw [← Nat.pow_add]
  rcases Int.le_total b (C - K) with hle | hle
  · have e1 : (b - (C - K)).toNat = 0 := by omega
    rw [e1, Nat.pow_zero, Nat.mul_one]
    have e2 : (C + O).toNat = K + (C - K - b).toNat + (b + O).toNat := by omega
    rw [e2, Nat.pow_add _ _ (b + O).toNat] at h
    exact Nat.le_of_mul_le_mul_right h (Nat.two_pow_pos _)
  · have e1 : (C - K - b).toNat = 0 := by omega
    rw [e1, Nat.add_zero]
    by_cases hbig : 0 ≤ C - K + O
    · have e2 : (b + O).toNat = (b - (C - K)).toNat + (C - K + O).toNat := by omega
      have e3 : (C + O).toNat = K + (C - K + O).toNat := by omega
      rw [e2, e3, Nat.pow_add, Nat.pow_add, ← Nat.mul_assoc] at h
      exact Nat.le_of_mul_le_mul_right h (Nat.two_pow_pos _)
    · have e2 : (b - (C - K)).toNat = (b + O).toNat + (K - (C + O)).toNat := by omega
      have e3 : K = (C + O).toNat + (K - (C + O)).toNat := by omega
      rw [e2, Nat.pow_add, ← Nat.mul_assoc]
      calc T * 2 ^ (b + O).toNat * 2 ^ (K - (C + O)).toNat ≤ 2 ^ (C + O).toNat * 2 ^ (K - (C + O)).toNat := Nat.mul_le_mul_right _ h
        _ = 2 ^ K := by rw [← Nat.pow_add, ← e3]

/-- A finite float64, at most 2 to the power of A. -/
def Num (x : Nat) (A : Int) : Prop := ∃ s m e, FloatKind.f64.format.read x = .number s m e ∧ -1074 ≤ e ∧ m * 2 ^ (e + 1074).toNat ≤ 2 ^ (A + 1074).toNat

theorem Num.mono {x : Nat} {A B : Int} (h : Num x A) (hab : A ≤ B) : Num x B := by
  obtain ⟨s, m, e, h1, h2, h3⟩ := h
  exact ⟨s, m, e, h1, h2, Nat.le_trans h3 (Nat.pow_le_pow_right (by omega) (by omega))⟩

theorem N_pow (K : Nat) (h : 1 ≤ K) : N FloatKind.f64.format (K * 4503599627370496) = 2 ^ (K + 51) := by
  unfold N
  rw [c64_binade, if_neg (by omega), Nat.mul_mod_left, Nat.mul_div_cancel _ (by decide)]
  rw [Nat.add_zero, show 4503599627370496 = 2 ^ 52 from rfl, ← Nat.pow_add]
  congr 1; omega

theorem N_le (f : Format) {a b : Nat} (h : a ≤ b) : N f a ≤ N f b := by
  rcases Nat.lt_or_eq_of_le h with h | h
  · exact Nat.le_of_lt (N_mono f a b h)
  · rw [h]; exact Nat.le_refl _

/-- A word of a rung at most that of 2 to the power of A. -/
theorem num_word (s : Bool) (r : Nat) (A : Int) (hA : -1022 ≤ A) (hA2 : A ≤ 1023) (h : r ≤ (A + 1023).toNat * 4503599627370496) : Num (FloatKind.f64.format.word s r) A := by
  have hr : r < 9218868437227405312 := by
    have : (A + 1023).toNat ≤ 2046 := by omega
    have := Nat.mul_le_mul_right 4503599627370496 this
    omega
  obtain ⟨m, e, hrd, he, hN, h0⟩ := read_fin FloatKind.f64.format s r (by rw [c64_inf]; exact hr)
  rw [c64_least] at he hN
  refine ⟨s, m, e, hrd, he, ?_⟩
  have e1 : (e - -1074).toNat = (e + 1074).toNat := by omega
  rw [e1] at hN
  rw [hN]
  have := N_le FloatKind.f64.format h
  rw [N_pow _ (by omega)] at this
  have e2 : (A + 1074).toNat = (A + 1023).toNat + 51 := by omega
  rw [e2]; exact this

theorem num_write (s : Bool) (m : Nat) (e A : Int) (hA : -1022 ≤ A) (hA2 : A ≤ 1023) (h : Vle m e (2 ^ 52) (A - (52 : Nat))) : Num (FloatKind.f64.format.write (.number s m e)) A := by
  rw [write_num]
  refine num_word s _ A hA hA2 ?_
  have := rung_le FloatKind.f64.format m e (2 ^ 52) (A - (52 : Nat)) ⟨by rw [c64_least]; omega, by rw [c64_binade]; decide, Or.inl (by rw [c64_binade]; decide)⟩ h
  unfold rungOf at this
  rw [c64_least, c64_binade] at this
  have e1 : (A - (52 : Nat) - -1074).toNat = (A + 1023).toNat - 1 := by omega
  rw [e1, Nat.sub_mul] at this
  have e2 : 1 ≤ (A + 1023).toNat := by omega
  omega

theorem isN_num {x : Nat} {A : Int} (h : Num x A) : isN .f64 x = false := by
  obtain ⟨s, m, e, h1, _⟩ := h
  unfold isN; rw [h1]; rfl
theorem can_num {x : Nat} {A : Int} (h : Num x A) : can .f64 x = x := can_of _ _ (isN_num h)

theorem signed_abs (s : Bool) (m k : Nat) : (signed s m k).natAbs = m * 2 ^ k := by
  unfold signed
  cases s
  · simp only [Bool.false_eq_true, if_false, Int.natAbs_natCast, Nat.shiftLeft_eq]
  · simp only [if_true, Int.natAbs_neg, Int.natAbs_natCast, Nat.shiftLeft_eq]

theorem num_sum {A B C : Int} (hC : A < C ∧ B < C ∧ -1022 ≤ C ∧ C ≤ 1023) (d1 d2 : Datum)
    (h1 : ∃ s m e, d1 = .number s m e ∧ -1074 ≤ e ∧ m * 2 ^ (e + 1074).toNat ≤ 2 ^ (A + 1074).toNat) (h2 : ∃ s m e, d2 = .number s m e ∧ -1074 ≤ e ∧ m * 2 ^ (e + 1074).toNat ≤ 2 ^ (B + 1074).toNat) :
    ∃ d, d1.sum d2 = some d ∧ Num (FloatKind.f64.format.write d) C := by
  obtain ⟨s, m, i, rfl, hi, hm⟩ := h1
  obtain ⟨t, n, j, rfl, hj, hn⟩ := h2
  refine ⟨_, rfl, num_write _ _ _ C hC.2.2.1 hC.2.2.2 ?_⟩
  refine vle_of _ _ _ 1074 (by omega) (by omega) ?_ 52
  have hab : (signed s m (i - min i j).toNat + signed t n (j - min i j).toNat).natAbs ≤ m * 2 ^ (i - min i j).toNat + n * 2 ^ (j - min i j).toNat := by
    have := Int.natAbs_add_le (signed s m (i - min i j).toNat) (signed t n (j - min i j).toNat)
    rwa [signed_abs, signed_abs] at this
  calc _ ≤ (m * 2 ^ (i - min i j).toNat + n * 2 ^ (j - min i j).toNat) * 2 ^ (min i j + 1074).toNat := Nat.mul_le_mul_right _ hab
    _ = m * 2 ^ (i + 1074).toNat + n * 2 ^ (j + 1074).toNat := by
        rw [Nat.add_mul, Nat.mul_assoc, Nat.mul_assoc, ← Nat.pow_add, ← Nat.pow_add]
        congr 3 <;> omega
    _ ≤ 2 ^ (A + 1074).toNat + 2 ^ (B + 1074).toNat := Nat.add_le_add hm hn
    _ ≤ 2 ^ (C + 1074).toNat := by
        have e1 : 2 ^ (C + 1074).toNat = 2 ^ ((C + 1074).toNat - 1) + 2 ^ ((C + 1074).toNat - 1) := by
          rw [← Nat.two_mul, ← Nat.pow_succ']; congr 1; omega
        rw [e1]
        exact Nat.add_le_add (Nat.pow_le_pow_right (by omega) (by omega)) (Nat.pow_le_pow_right (by omega) (by omega))

theorem num_add {x y : Nat} {A B : Int} (C : Int) (hx : Num x A) (hy : Num y B) (hC : A < C ∧ B < C ∧ -1022 ≤ C ∧ C ≤ 1023) : Num (F .add .f64 x y) C := by
  obtain ⟨d, h1, h2⟩ := num_sum hC _ _ hx hy
  unfold F raw
  simp only [Format.add, h1, Option.map_some, Option.getD_some]
  exact h2
theorem num_opp {y : Nat} {B : Int} (hy : Num y B) : ∃ s m e, (FloatKind.f64.format.read y).opposite = .number s m e ∧ -1074 ≤ e ∧ m * 2 ^ (e + 1074).toNat ≤ 2 ^ (B + 1074).toNat := by
  obtain ⟨s, m, e, h1, h2, h3⟩ := hy
  exact ⟨!s, m, e, by rw [h1]; rfl, h2, h3⟩
theorem num_sub {x y : Nat} {A B : Int} (C : Int) (hx : Num x A) (hy : Num y B) (hC : A < C ∧ B < C ∧ -1022 ≤ C ∧ C ≤ 1023) : Num (F .sub .f64 x y) C := by
  obtain ⟨d, h1, h2⟩ := num_sum hC _ _ hx (num_opp hy)
  unfold F raw
  simp only [Format.sub, h1, Option.map_some, Option.getD_some]
  exact h2

theorem num_mul {x y : Nat} {A B : Int} (C : Int) (hx : Num x A) (hy : Num y B) (hC : A + B ≤ C ∧ -1022 ≤ C ∧ C ≤ 1023) (hA : -1074 ≤ A) (hB : -1074 ≤ B) : Num (F .mul .f64 x y) C := by
  obtain ⟨s, m, i, h1, hi, hm⟩ := hx
  obtain ⟨t, n, j, h2, hj, hn⟩ := hy
  unfold F raw
  simp only [Format.mul, h1, h2, Datum.product, Option.map_some, Option.getD_some]
  refine num_write _ _ _ C hC.2.1 hC.2.2 (vle_of _ _ _ 2148 (by omega) (by omega) ?_ 52)
  calc m * n * 2 ^ (i + j + 2148).toNat = (m * 2 ^ (i + 1074).toNat) * (n * 2 ^ (j + 1074).toNat) := by
        rw [show (i + j + 2148).toNat = (i + 1074).toNat + (j + 1074).toNat by omega, Nat.pow_add]
        simp only [Nat.mul_assoc, Nat.mul_left_comm]
    _ ≤ 2 ^ (A + 1074).toNat * 2 ^ (B + 1074).toNat := Nat.mul_le_mul hm hn
    _ = 2 ^ (A + B + 2148).toNat := by rw [← Nat.pow_add]; congr 1; omega
    _ ≤ 2 ^ (C + 2148).toNat := Nat.pow_le_pow_right (by omega) (by omega)

/-- the place of the greatest digit -/
theorem num_log {x : Nat} {A : Int} (hx : Num x A) (hA : -1074 ≤ A) : ∃ s m e, FloatKind.f64.format.read x = .number s m e ∧ -1074 ≤ e ∧ (m ≠ 0 → e + m.log2 ≤ A) := by
  obtain ⟨s, m, e, h1, h2, h3⟩ := hx
  refine ⟨s, m, e, h1, h2, fun hm => ?_⟩
  have h4 : 2 ^ (m.log2 + (e + 1074).toNat) ≤ 2 ^ (A + 1074).toNat := by
    rw [Nat.pow_add]
    exact Nat.le_trans (Nat.mul_le_mul_right _ (log2_lo hm)) h3
  have := (Nat.pow_le_pow_iff_right (by omega : 1 < 2)).1 h4
  omega

/-- A float64 that is finite, not zero, and at least 2 to the power of C. -/
def Lo (y : Nat) (C : Int) : Prop := ∃ t n j, FloatKind.f64.format.read y = .number t n j ∧ -1074 ≤ j ∧ n ≠ 0 ∧ C ≤ j + n.log2

theorem num_quot (s t : Bool) (m n : Nat) (i j K : Int) (hn : n ≠ 0) (hi : -1074 ≤ i) (hj : -1074 ≤ j) (hK : m ≠ 0 → (i + m.log2) - (j + n.log2) + 1 ≤ K) (hK1 : -1022 ≤ K) (hK2 : K ≤ 1023) (hj2 : j ≤ 1000) :
    ∃ d, (Datum.number s m i).quotient 54 (.number t n j) = some d ∧ Num (FloatKind.f64.format.write d) K := by
  simp only [Datum.quotient, if_neg hn]
  refine ⟨_, rfl, num_write _ _ _ K hK1 hK2 ?_⟩
  by_cases hm : m = 0
  · subst hm
    unfold Vle
    simp
  · have hK' := hK hm
    generalize hmore : 54 + n.log2 - m.log2 = more
    have hlo := log2_lo hn
    have hhi := log2_hi hm
    rw [Nat.shiftLeft_eq]
    generalize hq : m * 2 ^ more / n = q
    have hq1 : q < 2 ^ (m.log2 + 1 + more - n.log2) := by
      rw [← hq]
      refine (Nat.div_lt_iff_lt_mul (by omega)).2 ?_
      calc m * 2 ^ more < 2 ^ (m.log2 + 1) * 2 ^ more := Nat.mul_lt_mul_of_pos_right hhi (Nat.two_pow_pos _)
        _ = 2 ^ (m.log2 + 1 + more - n.log2) * 2 ^ n.log2 := by rw [← Nat.pow_add, ← Nat.pow_add]; congr 1; omega
        _ ≤ 2 ^ (m.log2 + 1 + more - n.log2) * n := Nat.mul_le_mul_left _ hlo
    have hb : ∀ b : Bool, b.toNat ≤ 1 := fun b => by cases b <;> decide
    have hb' := hb (m * 2 ^ more % n != 0)
    have hq2 : 2 * q + (m * 2 ^ more % n != 0).toNat ≤ 2 ^ (m.log2 + 1 + more - n.log2 + 1) := by
      rw [Nat.pow_succ]; omega
    refine vle_of _ _ _ (5000 + more) (by omega) (by omega) ?_ 52
    calc _ ≤ 2 ^ (m.log2 + 1 + more - n.log2 + 1) * 2 ^ (i - j - more - 1 + (5000 + more)).toNat := Nat.mul_le_mul_right _ hq2
      _ = 2 ^ ((m.log2 + 1 + more - n.log2 + 1) + (i - j - more - 1 + (5000 + more)).toNat) := (Nat.pow_add _ _ _).symm
      _ ≤ 2 ^ (K + (5000 + more)).toNat := Nat.pow_le_pow_right (by omega) (by omega)

theorem read_place (x : Nat) {s : Bool} {m : Nat} {e : Int} (h : FloatKind.f64.format.read x = .number s m e) : e ≤ 1000 := by
  unfold Format.read at h
  simp only [c64_sign, c64_binade, c64_inf, c64_least] at h
  split at h
  · cases h; omega
  · split at h
    · rename_i h1 h2
      cases h
      omega
    · split at h <;> cases h

theorem num_quo {x y : Nat} {A C : Int} (K : Int) (hx : Num x A) (hA : -1074 ≤ A) (hy : Lo y C) (hK : A - C + 1 ≤ K) (hK1 : -1022 ≤ K) (hK2 : K ≤ 1023) : Num (F .quo .f64 x y) K := by
  obtain ⟨s, m, i, h1, hi, hm⟩ := num_log hx hA
  obtain ⟨t, n, j, h2, hj, hn, hc⟩ := hy
  obtain ⟨d, h3, h4⟩ := num_quot s t m n i j K hn hi hj (fun h => by have := hm h; omega) hK1 hK2 (read_place y h2)
  unfold F raw
  simp only [Format.div, h1, h2, c64_frac, h3, Option.map_some, Option.getD_some]
  exact h4

-- over float32
theorem over_num {x : Nat} {A : Int} (h : Num x A) (hA : -126 ≤ A) (hA2 : A ≤ 126) : over x = false := by
  obtain ⟨s, m, e, h1, h2, h3⟩ := h
  unfold over
  rw [h1]
  simp only
  rw [write_num]
  have hv := vle_of m e A 1074 (by omega) (by omega) h3 23
  have := rung_le FloatKind.f32.format m e (2 ^ 23) (A - (23 : Nat)) ⟨by rw [c32_least]; omega, by rw [c32_binade]; decide, Or.inl (by rw [c32_binade]; decide)⟩ hv
  unfold rungOf at this
  rw [c32_least, c32_binade] at this
  have e1 : (A - (23 : Nat) - -149).toNat ≤ 252 := by omega
  have := Nat.mul_le_mul_right 8388608 e1
  obtain ⟨m', e', hrd, _⟩ := read_fin FloatKind.f32.format s (rung FloatKind.f32.format m e) (by rw [c32_inf]; omega)
  rw [hrd]; rfl
theorem over_nan {x : Nat} (h : isN .f64 x = true) : over x = false := by
  obtain ⟨s, t, e⟩ := read_nan h
  unfold over; rw [e]
theorem over_can (x : Nat) : over (can .f64 x) = over x := by
  cases h : isN .f64 x with
  | true => rw [over_nan h, over_nan (by rw [isN_can]; exact h)]
  | false => rw [can_of _ _ h]

-- the root
theorem rootFrom_lt (n : Nat) : ∀ (todo root : Nat), Datum.rootFrom n todo root < root + 2 ^ todo := by
  intro todo
  induction todo with
  | zero => intro root; simp [Datum.rootFrom]
  | succ todo ih =>
    intro root
    unfold Datum.rootFrom
    simp only
    have e : 1 <<< todo = 2 ^ todo := by rw [Nat.shiftLeft_eq, Nat.one_mul]
    have := ih (if (root + 1 <<< todo) * (root + 1 <<< todo) ≤ n then root + 1 <<< todo else root)
    rw [Nat.pow_succ]
    split at this <;> rename_i hc
    · rw [if_pos hc]; rw [e] at *; omega
    · rw [if_neg hc]; omega

/-- The root of a number without a sign: finite, and without a sign. -/
theorem root_pos {m : Nat} {i A : Int} {x : Nat} (h : FloatKind.f64.format.read x = .number false m i) (hi : -1074 ≤ i) (hm : m ≠ 0 → i + m.log2 ≤ A) (hm2 : m < 2 ^ 53) (K : Int) (hK : A + 3 ≤ 2 * K) (hK0 : 0 ≤ A) (hK1 : K ≤ 1023) :
    ∃ m' e', root x = FloatKind.f64.format.write (.number false m' e') ∧ Num (root x) K := by
  unfold root Format.sqrt
  rw [h]
  simp only [Datum.root]
  by_cases h0 : m = 0
  · subst h0
    simp only [if_true, Option.map_some, Option.getD_some]
    exact ⟨0, i, rfl, num_write _ _ _ K (by omega) hK1 (by unfold Vle; simp)⟩
  · simp only [if_neg h0, Bool.false_eq_true, if_false, Option.map_some, Option.getD_some]
    refine ⟨_, _, rfl, num_write _ _ _ K (by omega) hK1 ?_⟩
    have hA := hm h0
    have hl : m.log2 < 53 := log2_lt_of h0 hm2
    have hfb : FloatKind.f64.format.fractionBits = 52 := rfl
    rw [hfb]
    generalize hmore0 : 2 * (52 + 2) - m.log2 = more0
    generalize hmore : more0 + ((i - more0) % 2).toNat = more
    have hn0 : m <<< more ≠ 0 := by rw [Nat.shiftLeft_eq]; exact Nat.mul_ne_zero h0 (Nat.ne_of_gt (Nat.two_pow_pos _))
    have hlog : (m <<< more).log2 = m.log2 + more := by
      rw [Nat.shiftLeft_eq]
      refine log2_of ?_ ?_
      · rw [Nat.pow_add]; exact Nat.mul_le_mul_right _ (log2_lo h0)
      · rw [show m.log2 + more + 1 = (m.log2 + 1) + more by omega, Nat.pow_add]; exact Nat.mul_lt_mul_of_pos_right (log2_hi h0) (Nat.two_pow_pos _)
    rw [hlog]
    have hw := rootFrom_lt (m <<< more) ((m.log2 + more) / 2 + 1) 0
    rw [Nat.zero_add] at hw
    generalize Datum.rootFrom (m <<< more) ((m.log2 + more) / 2 + 1) 0 = whole at *
    have hb : ∀ b : Bool, b.toNat ≤ 1 := fun b => by cases b <;> decide
    have hb' := hb (whole * whole != m <<< more)
    have hq2 : 2 * whole + (whole * whole != m <<< more).toNat ≤ 2 ^ ((m.log2 + more) / 2 + 2) := by
      rw [Nat.pow_succ]; omega
    refine vle_of _ _ _ 5000 (by omega) (by omega) ?_ 52
    calc _ ≤ 2 ^ ((m.log2 + more) / 2 + 2) * 2 ^ ((i - more) / 2 - 1 + 5000).toNat := Nat.mul_le_mul_right _ hq2
      _ = 2 ^ ((m.log2 + more) / 2 + 2 + ((i - more) / 2 - 1 + 5000).toNat) := (Nat.pow_add _ _ _).symm
      _ ≤ 2 ^ (K + 5000).toNat := Nat.pow_le_pow_right (by omega) (by omega)
end Fl
end Go.Proofs.Yteoedcbnffkjkaa
