/-
  The opposite of a float64; float64 to int64 where it fits; a number without its whole part. No condition.
-/
import Derived.Test.YteoedcbnffkjkaaBound
namespace Go.Proofs.Yteoedcbnffkjkaa
open Go.RowKit
set_option linter.unusedVariables false
/-- A call hands back a number that reads as v, and only draws. -/
def RetF (k : FloatKind) (v : Nat) (w : World) (e : Ending) (w' : World) : Prop := ∃ r n, e = .returned (.float k r) ∧ Fl.can k r = v ∧ w' = w.drewN n
theorem RetF.mk {k : FloatKind} {v r n : Nat} {w : World} (h : Fl.can k r = v) : RetF k v w (.returned (.float k r)) (w.drewN n) := ⟨r, n, rfl, h, rfl⟩
theorem RetF.mk0 {k : FloatKind} {v r : Nat} {w : World} (h : Fl.can k r = v) : RetF k v w (.returned (.float k r)) w := ⟨r, 0, rfl, h, rfl⟩
namespace Fl
open Ieee
-- the opposite
def neg (k : FloatKind) (x : Nat) : Nat := if isN k x then qnan k else Op.negFloat k x
theorem neg_mod (k : FloatKind) (x : Nat) : Op.negFloat k x % k.format.signWeight = x % k.format.signWeight := by
  unfold Op.negFloat Format.signWeight
  rw [Nat.xor_mod_two_pow, Nat.mod_self, Nat.xor_zero]
theorem isN_neg (k : FloatKind) (x : Nat) : isN k (Op.negFloat k x) = isN k x := by rw [isN_rung, isN_rung, neg_mod]
theorem can_neg (k : FloatKind) (x : Nat) : can k (Op.negFloat k x) = neg k (can k x) := by
  unfold neg
  rw [isN_can]
  cases h : isN k x with
  | true => rw [if_pos rfl, can_nan (by rw [isN_neg]; exact h)]
  | false => rw [if_neg (by decide), can_of _ _ h, can_of _ _ (by rw [isN_neg]; exact h)]
@[go_sem] theorem unary_negF (k : FloatKind) (b : Nat) : Op.unary .neg (.float k b) = pure (.float k (Op.negFloat k b)) := rfl
theorem read_sameRung (f : Format) (x y : Nat) (h : y % f.signWeight = x % f.signWeight) {s : Bool} {m : Nat} {e : Int} (hr : f.read x = .number s m e) : ∃ s', f.read y = .number s' m e := by
  unfold Format.read at *
  simp only [h] at *
  split at hr
  · rename_i h1; injection hr with _ h2 h3; subst h2 h3; rw [if_pos h1]; exact ⟨_, rfl⟩
  · rename_i h1
    rw [if_neg h1]
    split at hr
    · rename_i h2; injection hr with _ h3 h4; subst h3 h4; rw [if_pos h2]; exact ⟨_, rfl⟩
    · split at hr <;> cases hr
theorem num_neg {x : Nat} {A : Int} (h : Num x A) : Num (neg .f64 x) A := by
  have hn := isN_num h
  obtain ⟨s, m, e, h1, h2, h3⟩ := h
  unfold neg
  rw [hn, if_neg (by decide)]
  obtain ⟨s', hr⟩ := read_sameRung FloatKind.f64.format x (Op.negFloat .f64 x) (neg_mod .f64 x) h1
  exact ⟨s', m, e, hr, h2, h3⟩

-- a whole number as a float64
theorem read_whole (n : Nat) (hn : n ≠ 0) (h : n < 2 ^ 53) (s : Bool) : FloatKind.f64.format.read (FloatKind.f64.format.write (.number s n 0)) = .number s (n * 2 ^ (52 - n.log2)) ((n.log2 : Int) - 52) := by
  rw [write_num]
  have hl : n.log2 < 53 := log2_lt_of hn h
  have hlo := log2_lo hn
  have hhi := log2_hi hn
  have hM1 : 4503599627370496 ≤ n * 2 ^ (52 - n.log2) := by
    calc 4503599627370496 = 2 ^ n.log2 * 2 ^ (52 - n.log2) := by rw [← Nat.pow_add, show n.log2 + (52 - n.log2) = 52 by omega]
      _ ≤ n * 2 ^ (52 - n.log2) := Nat.mul_le_mul_right _ hlo
  have hM2 : n * 2 ^ (52 - n.log2) < 9007199254740992 := by
    calc n * 2 ^ (52 - n.log2) < 2 ^ (n.log2 + 1) * 2 ^ (52 - n.log2) := Nat.mul_lt_mul_of_pos_right hhi (Nat.two_pow_pos _)
      _ = 9007199254740992 := by rw [← Nat.pow_add, show n.log2 + 1 + (52 - n.log2) = 53 by omega]
  have hr := rung_exact FloatKind.f64.format n 0 (n * 2 ^ (52 - n.log2)) ((n.log2 : Int) - 52) ⟨by rw [c64_least]; omega, by rw [c64_binade]; omega, Or.inl (by rw [c64_binade]; exact hM1)⟩ (by
    rw [show (0 - ((n.log2 : Int) - 52)).toNat = 52 - n.log2 by omega, show ((n.log2 : Int) - 52 - 0).toNat = 0 by omega, Nat.pow_zero, Nat.mul_one])
  generalize n * 2 ^ (52 - n.log2) = M at *
  rw [hr]
  unfold rungOf
  rw [c64_least, c64_binade, c64_inf]
  have e1 : ((n.log2 : Int) - 52 - -1074).toNat = n.log2 + 1022 := by omega
  rw [e1]
  have hq : (n.log2 + 1022) * 4503599627370496 + M < 9218868437227405312 := by
    have : n.log2 + 1022 ≤ 1074 := by omega
    have := Nat.mul_le_mul_right 4503599627370496 this
    omega
  rw [Nat.min_eq_left (Nat.le_of_lt hq), read_rung _ s _ (by rw [c64_inf]; exact hq), c64_binade, c64_least]
  rw [if_neg (by omega)]
  congr 1
  · omega
  · omega

/-- 'int64(x)' where it fits. -/
def ti (x : Nat) : Int := ((FloatKind.f64.format.read x).toInt .zero).getD 0
def fits (x : Nat) : Bool :=
  match (FloatKind.f64.format.read x).toInt .zero with
  | some n => decide (-9223372036854775808 ≤ n) && decide (n ≤ 9223372036854775807)
  | none => false

theorem cut_zero (s : Bool) (n d : Nat) : Toward.cut .zero s n d = n / 2 ^ d := by
  unfold Toward.cut
  simp only [Nat.shiftLeft_eq, Nat.one_mul, Bool.toNat_false, Nat.add_zero]
  by_cases h : d ≤ n.log2 + 2
  · rw [Nat.min_eq_left h]
  · rw [Nat.min_eq_right (by omega)]
    have h1 : n < 2 ^ (n.log2 + 1) := Nat.lt_log2_self
    have h2 : 2 ^ (n.log2 + 2) = 2 * 2 ^ (n.log2 + 1) := by rw [Nat.pow_succ, Nat.mul_comm]
    have h3 : 2 ^ (n.log2 + 2) ≤ 2 ^ d := Nat.pow_le_pow_right (by omega) (by omega)
    rw [Nat.div_eq_of_lt (by omega), Nat.div_eq_of_lt (by omega)]

/-- the least place, as a number that is not written out -/
def off : Nat := 1074
theorem off_eq : off = 1074 := rfl

/-- A finite number whose value is told by m and e: its whole part. -/
theorem toInt_num (s : Bool) (m : Nat) (e : Int) : (Datum.number s m e).toInt .zero = some (signed s (m <<< e.toNat / 2 ^ (-e).toNat) 0) := by
  unfold Datum.toInt Datum.integral
  simp only [cut_zero]
theorem whole_eq (m : Nat) (e : Int) (he : -1074 ≤ e) : m <<< e.toNat / 2 ^ (-e).toNat = m * 2 ^ (e + 1074).toNat / 2 ^ off := by
  rw [Nat.shiftLeft_eq]
  rcases Int.le_total 0 e with h | h
  · rw [show (-e).toNat = 0 by omega, Nat.pow_zero, Nat.div_one, show (e + 1074).toNat = e.toNat + off by have := off_eq; omega, Nat.pow_add, ← Nat.mul_assoc, Nat.mul_div_cancel _ (Nat.two_pow_pos _)]
  · rw [show e.toNat = 0 by omega, Nat.pow_zero, Nat.mul_one]
    have e1 : (2 : Nat) ^ off = 2 ^ (e + 1074).toNat * 2 ^ (-e).toNat := by rw [← Nat.pow_add]; congr 1; have := off_eq; omega
    rw [e1, Nat.mul_comm m, Nat.mul_div_mul_left _ _ (Nat.two_pow_pos _)]

theorem fits_num {x : Nat} (h : Num x 52) : fits x = true ∧ (ti x).natAbs ≤ 2 ^ 52 := by
  obtain ⟨s, m, e, h1, h2, h3⟩ := h
  have hw : m <<< e.toNat / 2 ^ (-e).toNat ≤ 2 ^ 52 := by
    rw [whole_eq m e h2]
    rw [show ((52 : Int) + 1074).toNat = 52 + off by have := off_eq; omega, Nat.pow_add] at h3
    exact Nat.div_le_of_le_mul (Nat.le_trans h3 (Nat.le_of_eq (Nat.mul_comm _ _)))
  unfold fits ti
  rw [h1, toInt_num]
  simp only [Option.getD_some]
  generalize m <<< e.toNat / 2 ^ (-e).toNat = n at *
  refine ⟨?_, ?_⟩
  · simp only [signed, Nat.shiftLeft_zero, Bool.and_eq_true, decide_eq_true_eq]
    split <;> omega
  · rw [signed_abs]; simpa using hw

section
variable {P : Program} (w : World)
@[go_sem] theorem run_floatInt (src dst : TypeId) (x : Nat) (hs : (P.underlying src).isSome = true) (hd : P.underlying dst = some (.int .i64)) (h : fits x = true) :
    (convert src dst (.float .f64 x)).run P w = .ok (.int .i64 (ti x)) w := by
  obtain ⟨u, hs'⟩ := Option.isSome_iff_exists.1 hs
  unfold fits at h
  unfold ti
  cases hn : (FloatKind.f64.format.read x).toInt .zero with
  | none => rw [hn] at h; cases h
  | some n =>
    rw [hn] at h
    simp only [Bool.and_eq_true, decide_eq_true_eq] at h
    have e1 : IntKind.i64.min = -9223372036854775808 := by decide
    have e2 : IntKind.i64.max = 9223372036854775807 := by decide
    cases u <;> simp [convert, run_underlying hs', run_underlying hd, Conv.floatToInt, FloatKind.decode, hn, e1, e2, h.1, h.2]
end

/-- A number less its whole part: at most 1. -/
theorem frac_num {x : Nat} (h : Num x 52) : Num (F .sub .f64 x (FloatKind.f64.nearest (ti x))) 0 := by
  obtain ⟨s, m, e, h1, h2, h3⟩ := h
  have hti : ti x = signed s (m * 2 ^ (e + 1074).toNat / 2 ^ off) 0 := by
    unfold ti; rw [h1, toInt_num, whole_eq m e h2]; rfl
  have hn52 : m * 2 ^ (e + 1074).toNat / 2 ^ off ≤ 2 ^ 52 := by
    rw [show ((52 : Int) + 1074).toNat = 52 + off by have := off_eq; omega, Nat.pow_add] at h3
    exact Nat.div_le_of_le_mul (Nat.le_trans h3 (Nat.le_of_eq (Nat.mul_comm _ _)))
  have hX := Nat.div_add_mod (m * 2 ^ (e + 1074).toNat) (2 ^ off)
  have hXm := Nat.mod_lt (m * 2 ^ (e + 1074).toNat) (Nat.two_pow_pos off)
  generalize hn : m * 2 ^ (e + 1074).toNat / 2 ^ off = n at *
  generalize m * 2 ^ (e + 1074).toNat % 2 ^ off = r at *
  unfold F raw FloatKind.nearest FloatKind.encode
  simp only [Format.sub, h1]
  rw [hti]
  by_cases hn0 : n = 0
  · -- the whole part is nought
    have e1 : signed s n 0 = 0 := by rw [hn0]; unfold signed; cases s <;> rfl
    rw [e1]
    have e2 : FloatKind.f64.format.read (FloatKind.f64.format.write (.number (decide ((0 : Int) < 0)) (0 : Int).natAbs 0)) = .number false 0 (-1074) := by decide +kernel
    rw [e2]
    simp only [Datum.opposite, Datum.sum, Option.map_some, Option.getD_some]
    refine num_write _ _ _ 0 (by omega) (by omega) (vle_of _ _ _ 1074 (by omega) (by omega) ?_ 52)
    have e3 : (signed s m (e - min e (-1074)).toNat + signed (!false) 0 (-1074 - min e (-1074)).toNat).natAbs = m * 2 ^ (e - min e (-1074)).toNat := by
      have : signed (!false) 0 (-1074 - min e (-1074)).toNat = 0 := by unfold signed; simp
      rw [this, Int.add_zero, signed_abs]
    rw [e3, Nat.mul_assoc, ← Nat.pow_add, show (e - min e (-1074)).toNat + (min e (-1074) + 1074).toNat = (e + 1074).toNat by omega]
    rw [hn0] at hX
    rw [show ((0 : Int) + 1074).toNat = off by have := off_eq; omega]
    omega
  · have hlt : n < 2 ^ 53 := by omega
    have e1 : decide (signed s n 0 < 0) = s := by
      unfold signed
      cases s
      · simp
      · simp; omega
    have e2 : (signed s n 0).natAbs = n := by rw [signed_abs]; simp
    rw [e1, e2, read_whole n hn0 hlt s]
    simp only [Datum.opposite, Datum.sum, Option.map_some, Option.getD_some]
    refine num_write _ _ _ 0 (by omega) (by omega) (vle_of _ _ _ 1074 (by omega) (by omega) ?_ 52)
    have hl : n.log2 < 53 := log2_lt_of hn0 hlt
    generalize hP : (n.log2 : Int) - 52 = P
    generalize hM : n * 2 ^ (52 - n.log2) = M
    -- M * 2 ^ P is n
    have hMn : M * 2 ^ (P + 1074).toNat = n * 2 ^ off := by
      rw [← hM, Nat.mul_assoc, ← Nat.pow_add]; congr 2; have := off_eq; omega
    have key : (signed s m (e - min e P).toNat + signed (!s) M (P - min e P).toNat).natAbs * 2 ^ (min e P + 1074).toNat = r := by
      have h4 : (signed s m (e - min e P).toNat + signed (!s) M (P - min e P).toNat).natAbs = ((m * 2 ^ (e - min e P).toNat : Nat) - (M * 2 ^ (P - min e P).toNat : Nat) : Int).natAbs := by
        unfold signed
        rw [Nat.shiftLeft_eq, Nat.shiftLeft_eq]
        cases s
        · simp only [Bool.false_eq_true, if_false, Bool.not_false, if_true]; congr 1
        · simp only [if_true, Bool.not_true, Bool.false_eq_true, if_false]
          generalize m * 2 ^ (e - min e P).toNat = u
          generalize M * 2 ^ (P - min e P).toNat = v
          omega
      rw [h4]
      have h5 : m * 2 ^ (e - min e P).toNat * 2 ^ (min e P + 1074).toNat = m * 2 ^ (e + 1074).toNat := by rw [Nat.mul_assoc, ← Nat.pow_add]; congr 2; omega
      have h6 : M * 2 ^ (P - min e P).toNat * 2 ^ (min e P + 1074).toNat = n * 2 ^ off := by rw [Nat.mul_assoc, ← Nat.pow_add, ← hMn]; congr 2; omega
      generalize m * 2 ^ (e - min e P).toNat = u at *
      generalize M * 2 ^ (P - min e P).toNat = v at *
      generalize 2 ^ (min e P + 1074).toNat = g at *
      have h7 : v * g ≤ u * g := by rw [h5, h6]; rw [Nat.mul_comm n]; omega
      have hg : (u : Int) * g - v * g = ((u : Int) - v) * g := (Int.sub_mul _ _ _).symm
      have h8 : ((u : Int) - v) * g = r := by
        rw [← hg]
        have a1 : ((u * g : Nat) : Int) = (u : Int) * g := by push_cast; rfl
        have a2 : ((v * g : Nat) : Int) = (v : Int) * g := by push_cast; rfl
        rw [← a1, ← a2, h5, h6]
        rw [Nat.mul_comm n]; omega
      have h9 : (((u : Int) - v) * g).natAbs = r := by rw [h8]; rfl
      rw [Int.natAbs_mul] at h9
      simpa using h9
    rw [key, show ((0 : Int) + 1074).toNat = off by have := off_eq; omega]
    omega
end Fl
end Go.Proofs.Yteoedcbnffkjkaa
