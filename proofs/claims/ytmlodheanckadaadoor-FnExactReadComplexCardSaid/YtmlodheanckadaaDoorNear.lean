/-
  Rounding, told in whole numbers: what the nearest word to a number is where the number is a word, and that it lies on the same side of a word as the number does. No condition.
-/
import Derived.Test.YtmlodheanckadaaDoorFl
namespace Go.Proofs.YtmlodheanckadaaDoor
namespace Fl
set_option linter.unusedVariables false
open Ieee

theorem log2_of {n k : Nat} (h1 : 2 ^ k ≤ n) (h2 : n < 2 ^ (k + 1)) : n.log2 = k := by
  have : n ≠ 0 := by have := Nat.two_pow_pos k; omega
  exact (Nat.log2_eq_iff this).2 ⟨h1, h2⟩
theorem log2_lo {n : Nat} (h : n ≠ 0) : 2 ^ n.log2 ≤ n := Nat.log2_self_le h
theorem log2_hi {n : Nat} (h : n ≠ 0) : n < 2 ^ (n.log2 + 1) := Nat.lt_log2_self

theorem pow_split {a b : Nat} (h : a ≤ b) : 2 ^ b = 2 ^ a * 2 ^ (b - a) := by rw [← Nat.pow_add]; congr 1; omega

section cut
variable (neg : Bool) (n d M : Nat)

theorem cut_cases : (d ≤ n.log2 + 2 ∧ Toward.even.cut neg n d = n / 2 ^ d + (decide (2 ^ d < 2 * (n % 2 ^ d)) || (2 ^ d == 2 * (n % 2 ^ d) && n / 2 ^ d % 2 == 1)).toNat) ∨ (n < 2 ^ d ∧ Toward.even.cut neg n d = 0) := by
  unfold Toward.cut
  simp only [Nat.shiftLeft_eq, Nat.one_mul]
  by_cases h : d ≤ n.log2 + 2
  · left
    rw [Nat.min_eq_left h]
    exact ⟨h, rfl⟩
  · right
    rw [Nat.min_eq_right (by omega)]
    have h1 : n < 2 ^ (n.log2 + 1) := Nat.lt_log2_self
    have h2 : 2 ^ (n.log2 + 2) = 2 * 2 ^ (n.log2 + 1) := by rw [Nat.pow_succ, Nat.mul_comm]
    have h3 : 2 ^ (n.log2 + 2) ≤ 2 ^ d := Nat.pow_le_pow_right (by omega) (by omega)
    refine ⟨by omega, ?_⟩
    generalize 2 ^ (n.log2 + 2) = g at *
    generalize 2 ^ (n.log2 + 1) = g' at *
    have e1 : n / g = 0 := Nat.div_eq_of_lt (by omega)
    have e2 : n % g = n := Nat.mod_eq_of_lt (by omega)
    rw [e1, e2]
    have e3 : decide (g < 2 * n) = false := by simp; omega
    have e4 : (g == 2 * n) = false := by simp; omega
    rw [e3, e4]
    rfl

theorem cut_exact (h : n = M * 2 ^ d) : Toward.even.cut neg n d = M := by
  have hp := Nat.two_pow_pos d
  rcases cut_cases neg n d with ⟨_, e⟩ | ⟨hl, e⟩
  · rw [e, h, Nat.mul_div_cancel _ hp, Nat.mul_mod_left]
    generalize 2 ^ d = g at *
    have e3 : decide (g < 2 * 0) = false := by simp
    have e4 : (g == 2 * 0) = false := by simp; omega
    rw [e3, e4]; rfl
  · rw [e]
    cases M with
    | zero => rfl
    | succ M => rw [h, Nat.succ_mul] at hl; omega

theorem cut_le (h : n ≤ M * 2 ^ d) : Toward.even.cut neg n d ≤ M := by
  by_cases he : n = M * 2 ^ d
  · rw [cut_exact neg n d M he]; omega
  · have hp := Nat.two_pow_pos d
    rcases cut_cases neg n d with ⟨_, e⟩ | ⟨hl, e⟩
    · rw [e]
      have hlt : n / 2 ^ d < M := (Nat.div_lt_iff_lt_mul hp).2 (by omega)
      have hb : ∀ b : Bool, b.toNat ≤ 1 := fun b => by cases b <;> decide
      have := hb (decide (2 ^ d < 2 * (n % 2 ^ d)) || (2 ^ d == 2 * (n % 2 ^ d) && n / 2 ^ d % 2 == 1))
      omega
    · omega

theorem le_cut (h : M * 2 ^ d ≤ n) : M ≤ Toward.even.cut neg n d := by
  have hp := Nat.two_pow_pos d
  rcases cut_cases neg n d with ⟨_, e⟩ | ⟨hl, e⟩
  · rw [e]
    have : M ≤ n / 2 ^ d := (Nat.le_div_iff_mul_le hp).2 h
    omega
  · cases M with
    | zero => omega
    | succ M => rw [Nat.succ_mul] at h; omega
end cut

/-- 'm * 2 ^ e ≤ M * 2 ^ P'. -/
def Vle (m : Nat) (e : Int) (M : Nat) (P : Int) : Prop := m * 2 ^ (e - P).toNat ≤ M * 2 ^ (P - e).toNat

/-- A number as a format holds it. -/
def Canon (f : Format) (M : Nat) (P : Int) : Prop := f.leastPlace ≤ P ∧ M ≤ 2 * f.binade ∧ (f.binade ≤ M ∨ P = f.leastPlace)

/-- The rung of such a number. -/
def rungOf (f : Format) (M : Nat) (P : Int) : Nat := (P - f.leastPlace).toNat * f.binade + M

/-- The rung of the nearest word. -/
def rung (f : Format) (mag : Nat) (place : Int) : Nat :=
  if mag = 0 then 0 else
  let last := max (place + mag.log2 - f.fractionBits) f.leastPlace
  min ((last - f.leastPlace).toNat * f.binade + Toward.even.cut false (mag <<< (place - last).toNat) (last - place).toNat) f.infRung

theorem cut_neg (s t : Bool) (n d : Nat) : Toward.even.cut s n d = Toward.even.cut t n d := rfl

theorem nearest_rung (f : Format) (s : Bool) (mag : Nat) (place : Int) : f.nearest s mag place = f.word s (rung f mag place) := by
  unfold Format.nearest rung
  split
  · rfl
  · rfl

theorem rung_inf (f : Format) (mag : Nat) (place : Int) : rung f mag place ≤ f.infRung := by
  unfold rung
  split
  · omega
  · exact Nat.min_le_right _ _

theorem rung_le (f : Format) (mag : Nat) (place : Int) (M : Nat) (P : Int) (hc : Canon f M P) (h : Vle mag place M P) : rung f mag place ≤ rungOf f M P := by
  obtain ⟨h1, h2, h3⟩ := hc
  unfold rung
  split
  · exact Nat.zero_le _
  · rename_i h0
    refine Nat.le_trans (Nat.min_le_left _ _) ?_
    unfold rungOf Vle at *
    have hlo := log2_lo h0
    have hhi := log2_hi h0
    have hB : f.binade = 2 ^ f.fractionBits := rfl
    generalize hL : mag.log2 = L at *
    generalize hfb : f.fractionBits = fb at *
    -- 2 ^ L * 2 ^ (place - P) ≤ M * 2 ^ (P - place) ≤ 2 ^ (fb + 1) * 2 ^ (P - place)
    have key : 2 ^ (L + (place - P).toNat) ≤ 2 ^ (fb + 1 + (P - place).toNat) := by
      calc 2 ^ (L + (place - P).toNat) = 2 ^ L * 2 ^ (place - P).toNat := Nat.pow_add _ _ _
        _ ≤ mag * 2 ^ (place - P).toNat := Nat.mul_le_mul_right _ hlo
        _ ≤ M * 2 ^ (P - place).toNat := h
        _ ≤ 2 ^ (fb + 1) * 2 ^ (P - place).toNat := Nat.mul_le_mul_right _ (by rw [Nat.pow_succ]; omega)
        _ = 2 ^ (fb + 1 + (P - place).toNat) := (Nat.pow_add _ _ _).symm
    have key' : L + (place - P).toNat ≤ fb + 1 + (P - place).toNat := (Nat.pow_le_pow_iff_right (by omega)).1 key
    have hP : place + L - fb ≤ P + 1 := by omega
    by_cases hbig : M = 2 * f.binade ∧ place + L - fb = P + 1
    · -- just the power of two above
      obtain ⟨hM, hpl⟩ := hbig
      have hlast : max (place + (L : Int) - fb) f.leastPlace = P + 1 := by omega
      rw [hlast]
      have hc : Toward.even.cut false (mag <<< (place - (P + 1)).toNat) (P + 1 - place).toNat ≤ f.binade := by
        refine cut_le _ _ _ _ ?_
        rw [Nat.shiftLeft_eq]
        rw [hM] at h
        rcases Int.le_total place P with hle | hle
        · have e1 : (place - P).toNat = 0 := by omega
          have e2 : (place - (P + 1)).toNat = 0 := by omega
          have e3 : (P + 1 - place).toNat = (P - place).toNat + 1 := by omega
          rw [e1] at h; rw [e2, e3, Nat.pow_succ]
          have : 2 * f.binade * 2 ^ (P - place).toNat = f.binade * (2 ^ (P - place).toNat * 2) := by rw [Nat.mul_comm 2, Nat.mul_assoc, Nat.mul_comm 2]
          omega
        · rcases Int.lt_or_le place (P + 1) with hlt | hge
          · have : place = P := by omega
            subst this
            have e1 : (place - place).toNat = 0 := by omega
            have e2 : (place - (place + 1)).toNat = 0 := by omega
            have e3 : (place + 1 - place).toNat = 1 := by omega
            rw [e1] at h; rw [e2, e3]; omega
          · have e1 : (P - place).toNat = 0 := by omega
            have e2 : (place - P).toNat = (place - (P + 1)).toNat + 1 := by omega
            have e3 : (P + 1 - place).toNat = 0 := by omega
            rw [e1, e2, Nat.pow_succ, ← Nat.mul_assoc] at h; rw [e3]; omega
      have e4 : (P + 1 - f.leastPlace).toNat = (P - f.leastPlace).toNat + 1 := by omega
      rw [e4, Nat.succ_mul]
      omega
    · have hP' : place + L - fb ≤ P := by
        rcases Int.lt_or_le P (place + L - fb) with hlt | hle
        · exfalso
          have heq : place + L - fb = P + 1 := by omega
          have hM : M ≠ 2 * f.binade := fun e => hbig ⟨e, heq⟩
          have hM' : M < 2 ^ (fb + 1) := by rw [Nat.pow_succ]; omega
          have : 2 ^ (L + (place - P).toNat) < 2 ^ (fb + 1 + (P - place).toNat) := by
            calc 2 ^ (L + (place - P).toNat) = 2 ^ L * 2 ^ (place - P).toNat := Nat.pow_add _ _ _
              _ ≤ mag * 2 ^ (place - P).toNat := Nat.mul_le_mul_right _ hlo
              _ ≤ M * 2 ^ (P - place).toNat := h
              _ < 2 ^ (fb + 1) * 2 ^ (P - place).toNat := Nat.mul_lt_mul_of_pos_right hM' (Nat.two_pow_pos _)
              _ = 2 ^ (fb + 1 + (P - place).toNat) := (Nat.pow_add _ _ _).symm
          have := (Nat.pow_lt_pow_iff_right (by omega : 1 < 2)).1 this
          omega
        · exact hle
      generalize hlast : max (place + (L : Int) - fb) f.leastPlace = last
      have hl1 : last ≤ P := by omega
      have hl2 : f.leastPlace ≤ last := by omega
      have hl3 : place + L - fb ≤ last := by omega
      by_cases heq : last = P
      · subst heq
        have hc : Toward.even.cut false (mag <<< (place - last).toNat) (last - place).toNat ≤ M := by
          refine cut_le _ _ _ _ ?_
          rw [Nat.shiftLeft_eq]; exact h
        omega
      · have hc : Toward.even.cut false (mag <<< (place - last).toNat) (last - place).toNat ≤ 2 * f.binade := by
          refine cut_le _ _ _ _ ?_
          rw [Nat.shiftLeft_eq]
          have e : 2 * f.binade = 2 ^ (fb + 1) := by rw [Nat.pow_succ]; omega
          rw [e, ← Nat.pow_add]
          calc mag * 2 ^ (place - last).toNat ≤ 2 ^ (L + 1) * 2 ^ (place - last).toNat := Nat.mul_le_mul_right _ (by omega)
            _ = 2 ^ (L + 1 + (place - last).toNat) := (Nat.pow_add _ _ _).symm
            _ ≤ 2 ^ (fb + 1 + (last - place).toNat) := Nat.pow_le_pow_right (by omega) (by omega)
        have hBM : f.binade ≤ M := by omega
        have e4 : (P - f.leastPlace).toNat = (last - f.leastPlace).toNat + (P - last).toNat := by omega
        have e5 : 1 ≤ (P - last).toNat := by omega
        rw [e4, Nat.add_mul]
        have : f.binade ≤ (P - last).toNat * f.binade := Nat.le_mul_of_pos_left _ (by omega)
        omega

theorem le_rung (f : Format) (mag : Nat) (place : Int) (M : Nat) (P : Int) (hc : Canon f M P) (h : Vle M P mag place) : min (rungOf f M P) f.infRung ≤ rung f mag place := by
  obtain ⟨h1, h2, h3⟩ := hc
  unfold rung
  split
  · rename_i h0
    subst h0
    unfold Vle at h
    rw [Nat.zero_mul] at h
    have : M = 0 := by
      rcases Nat.eq_zero_or_pos M with h' | h'
      · exact h'
      · have := Nat.mul_pos h' (Nat.two_pow_pos (P - place).toNat); omega
    subst this
    have hb : 0 < f.binade := Nat.two_pow_pos _
    have : P = f.leastPlace := by omega
    unfold rungOf
    have e : (P - f.leastPlace).toNat = 0 := by omega
    rw [e]; simp
  · rename_i h0
    refine (Nat.le_min).2 ⟨?_, Nat.min_le_right _ _⟩
    refine Nat.le_trans (Nat.min_le_left _ _) ?_
    unfold rungOf Vle at *
    have hlo := log2_lo h0
    have hhi := log2_hi h0
    have hB : f.binade = 2 ^ f.fractionBits := rfl
    generalize hL : mag.log2 = L at *
    generalize hfb : f.fractionBits = fb at *
    generalize hlast : max (place + (L : Int) - fb) f.leastPlace = last
    have hl2 : f.leastPlace ≤ last := by omega
    have hl3 : place + L - fb ≤ last := by omega
    rcases Int.lt_trichotomy last P with hlt | heq | hgt
    · -- last < P: then P is not the least, M has all digits, and mag is smaller
      have hBM : f.binade ≤ M := by omega
      exfalso
      have : 2 ^ (fb + (P - place).toNat) < 2 ^ (L + 1 + (place - P).toNat) := by
        calc 2 ^ (fb + (P - place).toNat) = 2 ^ fb * 2 ^ (P - place).toNat := Nat.pow_add _ _ _
          _ ≤ M * 2 ^ (P - place).toNat := Nat.mul_le_mul_right _ (by omega)
          _ ≤ mag * 2 ^ (place - P).toNat := h
          _ < 2 ^ (L + 1) * 2 ^ (place - P).toNat := Nat.mul_lt_mul_of_pos_right hhi (Nat.two_pow_pos _)
          _ = 2 ^ (L + 1 + (place - P).toNat) := (Nat.pow_add _ _ _).symm
      have := (Nat.pow_lt_pow_iff_right (by omega : 1 < 2)).1 this
      omega
    · subst heq
      have hc : M ≤ Toward.even.cut false (mag <<< (place - last).toNat) (last - place).toNat := by
        refine le_cut _ _ _ _ ?_
        rw [Nat.shiftLeft_eq]; exact h
      omega
    · -- P < last: last is above the least, mag has all digits
      have hlast' : last = place + L - fb := by omega
      have hc : f.binade ≤ Toward.even.cut false (mag <<< (place - last).toNat) (last - place).toNat := by
        refine le_cut _ _ _ _ ?_
        rw [Nat.shiftLeft_eq, hB, ← Nat.pow_add]
        calc 2 ^ (fb + (last - place).toNat) = 2 ^ (L + (place - last).toNat) := by congr 1; omega
          _ = 2 ^ L * 2 ^ (place - last).toNat := Nat.pow_add _ _ _
          _ ≤ mag * 2 ^ (place - last).toNat := Nat.mul_le_mul_right _ hlo
      have e4 : (last - f.leastPlace).toNat = (P - f.leastPlace).toNat + (last - P).toNat := by omega
      have e5 : 1 ≤ (last - P).toNat := by omega
      rw [e4, Nat.add_mul]
      have : f.binade ≤ (last - P).toNat * f.binade := Nat.le_mul_of_pos_left _ (by omega)
      omega

theorem rung_exact (f : Format) (mag : Nat) (place : Int) (M : Nat) (P : Int) (hc : Canon f M P) (h : mag * 2 ^ (place - P).toNat = M * 2 ^ (P - place).toNat) : rung f mag place = min (rungOf f M P) f.infRung :=
  Nat.le_antisymm ((Nat.le_min).2 ⟨rung_le f mag place M P hc (Nat.le_of_eq h), rung_inf f mag place⟩) (le_rung f mag place M P hc (Nat.le_of_eq h.symm))

/-- A word whose rung is below infinity's reads as a number. -/
theorem read_rung (f : Format) (s : Bool) (r : Nat) (h : r < f.infRung) :
    f.read (f.word s r) = if r < f.binade then .number s r f.leastPlace else .number s (f.binade + r % f.binade) (f.leastPlace + (r / f.binade - 1 : Nat)) := by
  have hl := f.infRung_lt
  have hr : f.word s r % f.signWeight = r := by
    unfold Format.word
    split
    · rw [Nat.add_mod, Nat.mod_self, Nat.zero_add, Nat.mod_mod, Nat.mod_eq_of_lt (by omega)]
    · rw [Nat.mod_eq_of_lt (by omega)]
  have hs : (f.word s r / f.signWeight % 2 == 1) = s := by
    have hw : 0 < f.signWeight := Nat.two_pow_pos _
    unfold Format.word
    cases s
    · simp only [Bool.false_eq_true, if_false]; rw [Nat.div_eq_of_lt (by omega)]; rfl
    · simp only [if_true]; rw [Nat.add_div_left _ hw, Nat.div_eq_of_lt (by omega)]; rfl
  unfold Format.read
  simp only [hr, hs]
  split
  · rfl
  · rfl
end Fl
end Go.Proofs.YtmlodheanckadaaDoor
