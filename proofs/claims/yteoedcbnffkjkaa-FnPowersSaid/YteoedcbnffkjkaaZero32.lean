/-
  float32 numbers against zero, and their float64 forms. No condition.
-/
import Derived.Test.YteoedcbnffkjkaaFin
namespace Go.Proofs.Yteoedcbnffkjkaa
open Go.RowKit
set_option linter.unusedVariables false
namespace Fl
open Ieee
theorem wideRung_lo (r : Nat) (h0 : r ≠ 0) (h : r < 2139095040) : 3936146074321813504 ≤ wideRung r := by
  by_cases hs : r < 8388608
  · unfold wideRung
    rw [if_pos hs]
    have h2 := rung64_lo r (-149) (-149) h0 (by omega) (by omega) (by omega)
    have e2 : ((-149 : Int) + 1023).toNat = 874 := by omega
    rw [e2] at h2
    omega
  · have := wideRung_norm r (by omega) h
    omega
/-- The five kinds of float32: no number; a zero; less than zero; the infinity; a finite number greater than zero. -/
inductive Kind (x : Nat) : Prop
  | nan (h : isN .f32 x = true) : Kind x
  | zero (s : Bool) (h : x = FloatKind.f32.format.word s 0) : Kind x
  | neg (r : Nat) (h : x = FloatKind.f32.format.word true r) (h0 : r ≠ 0) (hr : r ≤ 2139095040) : Kind x
  | inf (h : x = 2139095040) : Kind x
  | pos (h0 : x ≠ 0) (hr : x < 2139095040) : Kind x
theorem kind (x : Nat) (hx : x < 4294967296) : Kind x := by
  rcases w32 x hx with h | ⟨s, h, hw⟩ | ⟨s, r, hr, h, hw⟩
  · exact .nan h
  · cases s
    · exact .inf (by rw [h, word32]; rfl)
    · exact .neg _ h (by omega) (by omega)
  · by_cases h0 : r = 0
    · subst h0; exact .zero s h
    · cases s
      · rw [word32, if_neg (by decide)] at h; subst h; exact .pos h0 hr
      · exact .neg r h h0 (by omega)
/-- What a float32 word is, as a float64 word, and how both stand to zero. -/
theorem word_facts (k : FloatKind) (s : Bool) (r : Nat) (hr : r ≤ k.format.infRung) : eq k (k.format.word s r) 0 = decide (r = 0) ∧ lt k (k.format.word s r) 0 = (s && decide (r ≠ 0)) ∧ gt k (k.format.word s r) 0 = (!s && decide (r ≠ 0)) := by
  unfold eq lt gt
  rw [order_zero k s r hr]
  by_cases h0 : r = 0
  · rw [if_pos h0]; cases s <;> simp [h0] <;> decide
  · rw [if_neg h0]; cases s <;> simp [h0] <;> decide
theorem widen_word (s : Bool) (r : Nat) (hr : r ≤ 2139095040) : ∃ R, widen (FloatKind.f32.format.word s r) = FloatKind.f64.format.word s R ∧ R ≤ 9218868437227405312 ∧ (R = 0 ↔ r = 0) ∧ (r < 2139095040 → R = wideRung r) := by
  have hn : isN .f32 (FloatKind.f32.format.word s r) = false := isN_word .f32 s r (by rw [c32_inf]; exact hr)
  unfold widen
  rw [hn, if_neg (by decide)]
  by_cases hi : r = 2139095040
  · subst hi
    have e := read_inf .f32 s
    rw [c32_inf] at e
    rw [e]
    unfold Format.write
    rw [c64_inf]
    exact ⟨_, rfl, Nat.le_refl _, by omega, fun h => by omega⟩
  · rw [widen_fin s r (by omega)]
    have := wideRung_lt r (by omega)
    refine ⟨_, rfl, by omega, ⟨fun h => ?_, fun h => by rw [h, wideRung_zero]⟩, fun _ => rfl⟩
    by_cases h0 : r = 0
    · exact h0
    · exact absurd h (wideRung_ne r h0 (by omega))
end Fl
end Go.Proofs.Yteoedcbnffkjkaa
