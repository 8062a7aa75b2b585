/-
  Words of a format told by sign and rung: how they compare, what float32 words are as float64 words. No condition.
-/
import Derived.Test.YtmlodheanckadaaDoorNear
namespace Go.Proofs.YtmlodheanckadaaDoor
namespace Fl
set_option linter.unusedVariables false
open Ieee

theorem binade_le (k : FloatKind) : k.format.binade ≤ k.format.infRung := by cases k <;> decide +kernel
theorem binade_pos (f : Format) : 0 < f.binade := Nat.two_pow_pos _

theorem word_split (f : Format) (x : Nat) (h : x < 2 * f.signWeight) : ∃ s r, r < f.signWeight ∧ x = f.word s r := by
  by_cases hx : x < f.signWeight
  · exact ⟨false, x, hx, rfl⟩
  · exact ⟨true, x - f.signWeight, by omega, by unfold Format.word; rw [if_pos rfl]; omega⟩

theorem word_mod (f : Format) (s : Bool) (r : Nat) (h : r < f.signWeight) : f.word s r % f.signWeight = r := by
  unfold Format.word
  split
  · rw [Nat.add_mod, Nat.mod_self, Nat.zero_add, Nat.mod_mod, Nat.mod_eq_of_lt (by omega)]
  · rw [Nat.mod_eq_of_lt (by omega)]
theorem word_sign (f : Format) (s : Bool) (r : Nat) (h : r < f.signWeight) : (f.word s r / f.signWeight % 2 == 1) = s := by
  have hw : 0 < f.signWeight := Nat.two_pow_pos _
  unfold Format.word
  cases s
  · simp only [Bool.false_eq_true, if_false]; rw [Nat.div_eq_of_lt (by omega)]; rfl
  · simp only [if_true]; rw [Nat.add_div_left _ hw, Nat.div_eq_of_lt (by omega)]; rfl

theorem read_inf (k : FloatKind) (s : Bool) : k.format.read (k.format.word s k.format.infRung) = .infinity s := by
  have hl := k.format.infRung_lt
  have hb := binade_le k
  unfold Format.read
  simp only [word_mod _ _ _ hl, word_sign _ _ _ hl]
  rw [if_neg (by omega), if_neg (by omega)]
  simp

theorem read_nanRung (k : FloatKind) (s : Bool) (r : Nat) (h : k.format.infRung < r) (h2 : r < k.format.signWeight) : isN k (k.format.word s r) = true := by
  have hb := binade_le k
  unfold isN Format.read
  simp only [word_mod _ _ _ h2, word_sign _ _ _ h2]
  rw [if_neg (by omega), if_neg (by omega), if_neg (by omega)]
  rfl

theorem isN_word (k : FloatKind) (s : Bool) (r : Nat) (h : r ≤ k.format.infRung) : isN k (k.format.word s r) = false := read_word _ _ _ h

/-- What the rung stands for, in units of the least place. -/
def N (f : Format) (r : Nat) : Nat := if r < f.binade then r else (f.binade + r % f.binade) * 2 ^ (r / f.binade - 1)

theorem N_mono (f : Format) (a b : Nat) (h : a < b) : N f a < N f b := by
  have hB := binade_pos f
  unfold N
  generalize f.binade = B at *
  by_cases ha : a < B
  · rw [if_pos ha]
    by_cases hb : b < B
    · rw [if_pos hb]; exact h
    · rw [if_neg hb]
      have : 0 < 2 ^ (b / B - 1) := Nat.two_pow_pos _
      have := Nat.le_mul_of_pos_right (B + b % B) this
      omega
  · have hb : ¬ b < B := by omega
    rw [if_neg ha, if_neg hb]
    have da := Nat.div_add_mod a B
    have db := Nat.div_add_mod b B
    have ma := Nat.mod_lt a hB
    have mb := Nat.mod_lt b hB
    have qa : 1 ≤ a / B := (Nat.le_div_iff_mul_le hB).2 (by omega)
    have hq : a / B ≤ b / B := Nat.div_le_div_right (by omega)
    by_cases he : a / B = b / B
    · rw [he] at da ⊢
      exact Nat.mul_lt_mul_of_pos_right (by omega) (Nat.two_pow_pos _)
    · have h1 : (B + a % B) * 2 ^ (a / B - 1) < (2 * B) * 2 ^ (a / B - 1) := Nat.mul_lt_mul_of_pos_right (by omega) (Nat.two_pow_pos _)
      have h2 : (2 * B) * 2 ^ (a / B - 1) = B * 2 ^ (a / B - 1 + 1) := by rw [Nat.pow_succ, Nat.mul_comm 2 B, Nat.mul_assoc, Nat.mul_comm 2]
      have h3 : B * 2 ^ (a / B - 1 + 1) ≤ B * 2 ^ (b / B - 1) := Nat.mul_le_mul_left _ (Nat.pow_le_pow_right (by omega) (by omega))
      have h4 : B * 2 ^ (b / B - 1) ≤ (B + b % B) * 2 ^ (b / B - 1) := Nat.mul_le_mul_right _ (by omega)
      omega

/-- A finite word reads as a number of that size. -/
theorem read_fin (f : Format) (s : Bool) (r : Nat) (h : r < f.infRung) : ∃ m e, f.read (f.word s r) = .number s m e ∧ f.leastPlace ≤ e ∧ m * 2 ^ (e - f.leastPlace).toNat = N f r ∧ (m = 0 ↔ r = 0) := by
  have hB := binade_pos f
  rw [read_rung f s r h]
  unfold N
  split
  · exact ⟨r, f.leastPlace, rfl, Int.le_refl _, by rw [Int.sub_self]; simp, Iff.rfl⟩
  · refine ⟨_, _, rfl, by omega, ?_, by omega⟩
    congr 2
    omega

theorem cmp_lt {a b : Int} (h : a < b) : compare a b = .lt := by simp [compare, compareOfLessAndEq, h]
theorem cmp_gt {a b : Int} (h : b < a) : compare a b = .gt := by
  have h1 : ¬ a < b := by omega
  have h2 : ¬ a = b := by omega
  simp [compare, compareOfLessAndEq, h1, h2]
theorem cmp_scale (a b : Nat) (c : Nat) : compare ((a * 2 ^ c : Nat) : Int) ((b * 2 ^ c : Nat) : Int) = compare (a : Int) (b : Int) := by
  have hp : 0 < 2 ^ c := Nat.two_pow_pos c
  rcases Nat.lt_trichotomy a b with h | h | h
  · rw [cmp_lt (Int.ofNat_lt.2 h), cmp_lt (Int.ofNat_lt.2 (Nat.mul_lt_mul_of_pos_right h hp))]
  · subst h; rw [compare_self_int, compare_self_int]
  · rw [cmp_gt (Int.ofNat_lt.2 h), cmp_gt (Int.ofNat_lt.2 (Nat.mul_lt_mul_of_pos_right h hp))]

theorem read_zero (k : FloatKind) : k.format.read 0 = .number false 0 k.format.leastPlace := by cases k <;> decide +kernel

/-- How a word compares to zero. -/
theorem order_zero (k : FloatKind) (s : Bool) (r : Nat) (h : r ≤ k.format.infRung) : k.format.order (k.format.word s r) 0 = some (if r = 0 then .eq else if s then .lt else .gt) := by
  unfold Format.order
  rw [read_zero]
  have hb := binade_le k
  have hp := binade_pos k.format
  by_cases hi : r = k.format.infRung
  · subst hi
    rw [read_inf]
    rw [if_neg (by omega)]
    rfl
  · obtain ⟨m, e, hr, he, hN, h0⟩ := read_fin k.format s r (by omega)
    rw [hr]
    simp only [Datum.order]
    congr 1
    have hs0 : signed false 0 (k.format.leastPlace - min e k.format.leastPlace).toNat = 0 := by simp [signed]
    rw [hs0]
    by_cases hz : r = 0
    · rw [if_pos hz, h0.2 hz]
      cases s <;> simp [signed]
    · rw [if_neg hz]
      have hm : 0 < m := by have := mt h0.1 hz; omega
      have hpos : 0 < m <<< (e - min e k.format.leastPlace).toNat := by rw [Nat.shiftLeft_eq]; exact Nat.mul_pos hm (Nat.two_pow_pos _)
      cases s
      · simp only [signed, Bool.false_eq_true, if_false]; exact cmp_gt (by omega)
      · simp only [signed, if_true]; exact cmp_lt (by omega)

/-- How two words without a sign compare: as their rungs. -/
theorem order_pos (k : FloatKind) (a b : Nat) (ha : a ≤ k.format.infRung) (hb : b ≤ k.format.infRung) : k.format.order a b = some (compare (a : Int) (b : Int)) := by
  have ea : a = k.format.word false a := rfl
  have eb : b = k.format.word false b := rfl
  unfold Format.order
  by_cases hia : a = k.format.infRung
  · have ra : k.format.read a = .infinity false := by rw [ea, hia]; exact read_inf k false
    by_cases hib : b = k.format.infRung
    · have rb : k.format.read b = .infinity false := by rw [eb, hib]; exact read_inf k false
      rw [ra, rb, hia, hib, compare_self_int]; rfl
    · obtain ⟨m, e, hr, he, hN, h0⟩ := read_fin k.format false b (by omega)
      have rb : k.format.read b = .number false m e := by rw [eb]; exact hr
      rw [ra, rb, cmp_gt (by omega)]; rfl
  · obtain ⟨m, e, hr, he, hN, h0⟩ := read_fin k.format false a (by omega)
    have ra : k.format.read a = .number false m e := by rw [ea]; exact hr
    by_cases hib : b = k.format.infRung
    · have rb : k.format.read b = .infinity false := by rw [eb, hib]; exact read_inf k false
      rw [ra, rb, cmp_lt (by omega)]; rfl
    · obtain ⟨m', e', hr', he', hN', h0'⟩ := read_fin k.format false b (by omega)
      have rb : k.format.read b = .number false m' e' := by rw [eb]; exact hr'
      rw [ra, rb]
      simp only [Datum.order, signed, Bool.false_eq_true, if_false]
      congr 1
      rw [Nat.shiftLeft_eq, Nat.shiftLeft_eq]
      rw [← cmp_scale _ _ (min e e' - k.format.leastPlace).toNat, Nat.mul_assoc, Nat.mul_assoc, ← Nat.pow_add, ← Nat.pow_add]
      rw [show (e - min e e').toNat + (min e e' - k.format.leastPlace).toNat = (e - k.format.leastPlace).toNat by omega, show (e' - min e e').toNat + (min e e' - k.format.leastPlace).toNat = (e' - k.format.leastPlace).toNat by omega, hN, hN']
      rcases Nat.lt_trichotomy a b with h | h | h
      · rw [cmp_lt (by have := N_mono k.format a b h; omega), cmp_lt (by omega)]
      · subst h; rw [compare_self_int, compare_self_int]
      · rw [cmp_gt (by have := N_mono k.format b a h; omega), cmp_gt (by omega)]

-- float32 as float64
theorem c32_binade : FloatKind.f32.format.binade = 8388608 := by decide +kernel
theorem c32_inf : FloatKind.f32.format.infRung = 2139095040 := by decide +kernel
theorem c32_sign : FloatKind.f32.format.signWeight = 2147483648 := by decide +kernel
theorem c32_least : FloatKind.f32.format.leastPlace = -149 := by decide +kernel
theorem c64_binade : FloatKind.f64.format.binade = 4503599627370496 := by decide +kernel
theorem c64_inf : FloatKind.f64.format.infRung = 9218868437227405312 := by decide +kernel
theorem c64_sign : FloatKind.f64.format.signWeight = 9223372036854775808 := by decide +kernel
theorem c64_least : FloatKind.f64.format.leastPlace = -1074 := by decide +kernel
theorem c64_frac : FloatKind.f64.format.fractionBits = 52 := rfl

/-- The rung of a float32 number as a float64 number. -/
def wideRung (r : Nat) : Nat :=
  if r < 8388608 then rung FloatKind.f64.format r (-149) else rung FloatKind.f64.format (8388608 + r % 8388608) (-149 + (r / 8388608 - 1 : Nat))

theorem write_num (f : Format) (s : Bool) (m : Nat) (e : Int) : f.write (.number s m e) = f.word s (rung f m e) := nearest_rung f s m e

theorem widen_fin (s : Bool) (r : Nat) (h : r < 2139095040) : FloatKind.f64.format.write (FloatKind.f32.format.read (FloatKind.f32.format.word s r)) = FloatKind.f64.format.word s (wideRung r) := by
  rw [read_rung _ s r (by rw [c32_inf]; exact h), c32_binade, c32_least]
  unfold wideRung
  split
  · rw [write_num]
  · rw [write_num]

/-- bounds on a rung, by the place of the greatest digit: 'm * 2 ^ e' is at least '2 ^ K' and less than '2 ^ (K + 1)'. -/
theorem rung64_lo (m : Nat) (e K : Int) (hm : m ≠ 0) (hK : -1022 ≤ K) (hK2 : K ≤ 1023) (h : K ≤ e + m.log2) : (K + 1023).toNat * 4503599627370496 ≤ rung FloatKind.f64.format m e := by
  have := le_rung FloatKind.f64.format m e 4503599627370496 (K - 52) ⟨by rw [c64_least]; omega, by rw [c64_binade]; omega, Or.inl (by rw [c64_binade]; omega)⟩ (by
    unfold Vle
    have hlo := log2_lo hm
    calc 4503599627370496 * 2 ^ (K - 52 - e).toNat = 2 ^ (52 + (K - 52 - e).toNat) := by rw [Nat.pow_add]
      _ ≤ 2 ^ (m.log2 + (e - (K - 52)).toNat) := Nat.pow_le_pow_right (by omega) (by omega)
      _ = 2 ^ m.log2 * 2 ^ (e - (K - 52)).toNat := Nat.pow_add _ _ _
      _ ≤ m * 2 ^ (e - (K - 52)).toNat := Nat.mul_le_mul_right _ hlo)
  unfold rungOf at this
  rw [c64_least, c64_binade, c64_inf] at this
  have e1 : (K - 52 - -1074).toNat = (K + 1023).toNat - 1 := by omega
  rw [e1, Nat.sub_mul] at this
  have e2 : 1 ≤ (K + 1023).toNat := by omega
  have e3 : (K + 1023).toNat ≤ 2046 := by omega
  omega

theorem rung64_hi (m : Nat) (e K : Int) (hm : m ≠ 0) (hK : -1022 ≤ K) (hK2 : K ≤ 1022) (hx : m.log2 ≤ 52) (h : e + m.log2 ≤ K) : rung FloatKind.f64.format m e < (K + 1024).toNat * 4503599627370496 := by
  have := rung_le FloatKind.f64.format m e 9007199254740991 (K - 52) ⟨by rw [c64_least]; omega, by rw [c64_binade]; omega, Or.inl (by rw [c64_binade]; omega)⟩ (by
    unfold Vle
    have hhi := log2_hi hm
    have hq : (e - (K - 52)).toNat + m.log2 + 1 ≤ 53 + (K - 52 - e).toNat := by omega
    by_cases hd : e ≤ K - 52
    · have e1 : (e - (K - 52)).toNat = 0 := by omega
      rw [e1, Nat.pow_zero, Nat.mul_one]
      have : 1 ≤ 2 ^ (K - 52 - e).toNat := Nat.one_le_two_pow
      have hm' : m < 2 ^ 53 := Nat.lt_of_lt_of_le hhi (Nat.pow_le_pow_right (by omega) (by omega))
      calc m ≤ 9007199254740991 := by omega
        _ ≤ 9007199254740991 * 2 ^ (K - 52 - e).toNat := Nat.le_mul_of_pos_right _ (by omega)
    · have e1 : (K - 52 - e).toNat = 0 := by omega
      rw [e1, Nat.pow_zero, Nat.mul_one]
      have : m * 2 ^ (e - (K - 52)).toNat < 2 ^ 53 := by
        calc m * 2 ^ (e - (K - 52)).toNat < 2 ^ (m.log2 + 1) * 2 ^ (e - (K - 52)).toNat := Nat.mul_lt_mul_of_pos_right hhi (Nat.two_pow_pos _)
          _ = 2 ^ (m.log2 + 1 + (e - (K - 52)).toNat) := (Nat.pow_add _ _ _).symm
          _ ≤ 2 ^ 53 := Nat.pow_le_pow_right (by omega) (by omega)
      omega)
  unfold rungOf at this
  rw [c64_least, c64_binade] at this
  have e1 : (K - 52 - -1074).toNat = (K + 1024).toNat - 2 := by omega
  rw [e1, Nat.sub_mul] at this
  have e2 : 2 ≤ (K + 1024).toNat := by omega
  omega

theorem log2_lt_of {n k : Nat} (hn : n ≠ 0) (h : n < 2 ^ k) : n.log2 < k := (Nat.log2_lt hn).2 h

theorem wideRung_zero : wideRung 0 = 0 := by unfold wideRung rung; simp
/-- A subnormal float32 is less than 2 to the power of -126, as a float64. -/
theorem wideRung_sub (r : Nat) (h0 : r ≠ 0) (h : r < 8388608) : 0 < wideRung r ∧ wideRung r < 4039728865751334912 := by
  unfold wideRung
  rw [if_pos h]
  have hl : r.log2 < 23 := log2_lt_of h0 h
  have h1 := rung64_hi r (-149) (-127) h0 (by omega) (by omega) (by omega) (by omega)
  have h2 := rung64_lo r (-149) (-149) h0 (by omega) (by omega) (by omega)
  have e1 : ((-127 : Int) + 1024).toNat = 897 := by omega
  have e2 : ((-149 : Int) + 1023).toNat = 874 := by omega
  rw [e1] at h1; rw [e2] at h2
  omega
theorem wideRung_norm (r : Nat) (h : 8388608 ≤ r) (h2 : r < 2139095040) : 4039728865751334912 ≤ wideRung r ∧ wideRung r < 5183643171103440896 := by
  unfold wideRung
  rw [if_neg (by omega)]
  have hm : 8388608 + r % 8388608 ≠ 0 := by omega
  have hl : (8388608 + r % 8388608).log2 = 23 := log2_of (by omega) (by omega)
  have hq : 1 ≤ r / 8388608 := by omega
  have hq2 : r / 8388608 ≤ 254 := by omega
  have h1 := rung64_hi _ (-149 + (r / 8388608 - 1 : Nat)) 127 hm (by omega) (by omega) (by omega) (by omega)
  have h3 := rung64_lo _ (-149 + (r / 8388608 - 1 : Nat)) (-126) hm (by omega) (by omega) (by omega)
  have e1 : ((127 : Int) + 1024).toNat = 1151 := by omega
  have e2 : ((-126 : Int) + 1023).toNat = 897 := by omega
  rw [e1] at h1; rw [e2] at h3
  omega
theorem wideRung_lt (r : Nat) (h2 : r < 2139095040) : wideRung r < 5183643171103440896 := by
  by_cases h0 : r = 0
  · rw [h0, wideRung_zero]; omega
  · by_cases h : r < 8388608
    · have := wideRung_sub r h0 h; omega
    · exact (wideRung_norm r (by omega) h2).2
theorem wideRung_ne (r : Nat) (h0 : r ≠ 0) (h2 : r < 2139095040) : wideRung r ≠ 0 := by
  by_cases h : r < 8388608
  · have := wideRung_sub r h0 h; omega
  · have := wideRung_norm r (by omega) h2; omega

/-- A float32 word as a float64 word. -/
inductive W32 (x : Nat) : Prop
  | nan (h : isN .f32 x = true) : W32 x
  | inf (s : Bool) (h : x = FloatKind.f32.format.word s 2139095040) (hw : widen x = FloatKind.f64.format.word s 9218868437227405312) : W32 x
  | fin (s : Bool) (r : Nat) (hr : r < 2139095040) (h : x = FloatKind.f32.format.word s r) (hw : widen x = FloatKind.f64.format.word s (wideRung r)) : W32 x

theorem w32 (x : Nat) (hx : x < 4294967296) : W32 x := by
  obtain ⟨s, r, hr, rfl⟩ := word_split FloatKind.f32.format x (by rw [c32_sign]; omega)
  rw [c32_sign] at hr
  rcases Nat.lt_trichotomy r 2139095040 with h | h | h
  · refine .fin s r h rfl ?_
    unfold widen
    rw [if_neg (by rw [isN_word .f32 s r (by rw [c32_inf]; omega)]; decide), widen_fin s r h]
  · subst h
    refine .inf s rfl ?_
    have e := read_inf .f32 s
    rw [c32_inf] at e
    unfold widen
    rw [if_neg (by rw [isN_word .f32 s _ (by rw [c32_inf]; omega)]; decide), e]
    unfold Format.write
    rw [c64_inf]
  · exact .nan (read_nanRung .f32 s r (by rw [c32_inf]; exact h) (by rw [c32_sign]; exact hr))

-- the conversions in a walk
section
variable {P : Program} (w : World)
theorem inf_write64 (s : Bool) (m : Nat) (e : Int) (x : Nat) (h : FloatKind.f32.format.read x = .number s m e) : (FloatKind.f64.format.read (FloatKind.f64.format.write (.number s m e))).isInfinity = false := by
  -- x as a word below 2 ^ 32 reads the same
  have hx : FloatKind.f32.format.read (x % 4294967296) = FloatKind.f32.format.read x := by
    unfold Format.read
    rw [c32_sign]
    have e1 : x % 4294967296 / 2147483648 % 2 = x / 2147483648 % 2 := by omega
    have e2 : x % 4294967296 % 2147483648 = x % 2147483648 := by omega
    rw [e1, e2]
  obtain ⟨s', r, hr, hxr⟩ := word_split FloatKind.f32.format (x % 4294967296) (by rw [c32_sign]; omega)
  rw [c32_sign] at hr
  rw [← h, ← hx, hxr]
  rcases Nat.lt_trichotomy r 2139095040 with hlt | heq | hgt
  · rw [widen_fin s' r hlt]
    have := wideRung_lt r hlt
    obtain ⟨m', e', hrd, _⟩ := read_fin FloatKind.f64.format s' (wideRung r) (by rw [c64_inf]; omega)
    rw [hrd]; rfl
  · exfalso
    have e := read_inf .f32 s'
    rw [c32_inf, ← heq, ← hxr, hx, h] at e
    cases e
  · exfalso
    have := read_nanRung .f32 s' r (by rw [c32_inf]; exact hgt) (by rw [c32_sign]; exact hr)
    rw [← hxr] at this
    unfold isN at this
    rw [hx, h] at this
    cases this

theorem run_widenRaw (x : Nat) : (Conv.floatToFloat .f32 x .f64).run P w = .ok (.float .f64 (widenOut w x)) (w.drewN (widenDr x)) := by
  unfold Conv.floatToFloat widenOut widenDr isN
  simp only [FloatKind.decode, FloatKind.encode]
  rw [if_neg (by decide)]
  cases h : FloatKind.f32.format.read x with
  | nan s t => simp [Datum.isNaN, Question.forced, ans]; rfl
  | infinity s => simp [Datum.isNaN]; rfl
  | number s m e =>
    have hi := inf_write64 s m e x h
    simp [Datum.isNaN, hi]; rfl

theorem run_narrowRaw (x : Nat) : (Conv.floatToFloat .f64 x .f32).run P w = .ok (.float .f32 (narrowOut w x)) (w.drewN (narrowDr x)) := by
  unfold Conv.floatToFloat narrowOut narrowDr isN over
  simp only [FloatKind.decode, FloatKind.encode]
  rw [if_neg (by decide)]
  cases h : FloatKind.f64.format.read x with
  | nan s t => simp [Datum.isNaN, Question.forced, ans]; rfl
  | infinity s => simp [Datum.isNaN]; rfl
  | number s m e =>
    cases hi : (FloatKind.f32.format.read (FloatKind.f32.format.write (.number s m e))).isInfinity
    · simp [Datum.isNaN, hi]; rfl
    · simp [Datum.isNaN, hi, Question.forced, ans]; rfl

@[go_sem] theorem run_widen (src dst : TypeId) (x : Nat) (hs : (P.underlying src).isSome = true) (hd : P.underlying dst = some (.float .f64)) :
    (convert src dst (.float .f32 x)).run P w = .ok (.float .f64 (widenOut w x)) (w.drewN (widenDr x)) := by
  obtain ⟨u, hs'⟩ := Option.isSome_iff_exists.1 hs
  cases u <;> simp [convert, run_underlying hs', run_underlying hd, run_widenRaw]
@[go_sem] theorem run_narrow (src dst : TypeId) (x : Nat) (hs : (P.underlying src).isSome = true) (hd : P.underlying dst = some (.float .f32)) :
    (convert src dst (.float .f64 x)).run P w = .ok (.float .f32 (narrowOut w x)) (w.drewN (narrowDr x)) := by
  obtain ⟨u, hs'⟩ := Option.isSome_iff_exists.1 hs
  cases u <;> simp [convert, run_underlying hs', run_underlying hd, run_narrowRaw]
@[go_sem] theorem run_same (src dst : TypeId) (k : FloatKind) (x : Nat) (hs : (P.underlying src).isSome = true) (hd : P.underlying dst = some (.float k)) :
    (convert src dst (.float k x)).run P w = .ok (.float k x) w := by
  obtain ⟨u, hs'⟩ := Option.isSome_iff_exists.1 hs
  cases u <;> simp [convert, run_underlying hs', run_underlying hd, Conv.floatToFloat]
@[go_sem] theorem run_intFloat (src dst : TypeId) (q : IntKind) (k : FloatKind) (n : Int) (hs : (P.underlying src).isSome = true) (hd : P.underlying dst = some (.float k)) :
    (convert src dst (.int q n)).run P w = .ok (.float k (k.nearest n)) w := by
  obtain ⟨s, hs'⟩ := Option.isSome_iff_exists.1 hs
  cases s <;> simp [convert, run_underlying hs', run_underlying hd, Conv.intToFloat]
theorem run_rootRaw (x : Nat) : (Extern.MathSqrt.sqrt #[.float .f64 x]).run P w = .ok (.float .f64 (rootOut w x)) (w.drewN (rootDr x)) := by
  show Sem.run P (match FloatKind.f64.format.sqrt x with
    | some r => pure (Value.float .f64 r)
    | none => do pure (.float .f64 (← choose (.nanBits .f64 x x)))) w = _
  unfold rootOut rootDr
  cases h : FloatKind.f64.format.sqrt x with
  | some r => simp; rfl
  | none => simp [Question.forced, ans]; rfl
end
end Fl
end Go.Proofs.YtmlodheanckadaaDoor
