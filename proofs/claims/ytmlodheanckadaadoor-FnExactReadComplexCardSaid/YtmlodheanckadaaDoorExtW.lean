/-
  The conversions between the two kinds and the root, as the walk meets them; words of one sign compared. No condition.
-/
import Derived.Test.YtmlodheanckadaaDoorExt
import Derived.Test.YtmlodheanckadaaDoorWord
import Derived.Lib.Hide
namespace Go.Proofs.YtmlodheanckadaaDoor
open Go.RowKit
set_option linter.unusedVariables false
namespace Fl
open Ieee
theorem widenOut_of (w : World) (x : Nat) (h : isN .f32 x = false) : widenOut w x = widen x := by unfold widenOut widen; rw [h]; rfl
theorem widenDr_of (x : Nat) (h : isN .f32 x = false) : widenDr x = 0 := by unfold widenDr; rw [h]; rfl
theorem isN_widen (x : Nat) : isN .f64 (widen x) = isN .f32 x := by
  unfold widen
  split
  · rename_i h; rw [isN_qnan, h]
  · rename_i h
    have h' : isN .f32 x = false := by simpa using h
    rw [h']
    exact write_notNaN _ _ h'
theorem isN_widenOut (w : World) (x : Nat) : isN .f64 (widenOut w x) = isN .f32 x := by
  rw [← isN_can, can_widenOut, isN_widen, isN_can]
theorem widenOut_lt (w : World) (x : Nat) : widenOut w x < 18446744073709551616 := by
  unfold widenOut
  split
  · unfold ans Question.cut
    simp only
    have h1 : (w.tape w.drawn (.nanConv .f64 x) / 2) % (2 ^ 52 - 1) < 2 ^ 52 - 1 := Nat.mod_lt _ (by decide)
    omega
  · exact FloatKind.f64.format.write_lt _
theorem widen_lt (x : Nat) : widen x < 18446744073709551616 := by
  unfold widen
  split
  · decide
  · exact FloatKind.f64.format.write_lt _

theorem order_neg (k : FloatKind) (a b : Nat) (ha : a ≤ k.format.infRung) (hb : b ≤ k.format.infRung) : k.format.order (k.format.word true a) (k.format.word true b) = some (compare (b : Int) (a : Int)) := by
  unfold Format.order
  by_cases hia : a = k.format.infRung
  · have ra : k.format.read (k.format.word true a) = .infinity true := by rw [hia]; exact read_inf k true
    by_cases hib : b = k.format.infRung
    · have rb : k.format.read (k.format.word true b) = .infinity true := by rw [hib]; exact read_inf k true
      rw [ra, rb, hia, hib, compare_self_int]; rfl
    · obtain ⟨m, e, hr, he, hN, h0⟩ := read_fin k.format true b (by omega)
      rw [ra, hr, cmp_lt (by omega)]; rfl
  · obtain ⟨m, e, hr, he, hN, h0⟩ := read_fin k.format true a (by omega)
    by_cases hib : b = k.format.infRung
    · have rb : k.format.read (k.format.word true b) = .infinity true := by rw [hib]; exact read_inf k true
      rw [hr, rb, cmp_gt (by omega)]; rfl
    · obtain ⟨m', e', hr', he', hN', h0'⟩ := read_fin k.format true b (by omega)
      rw [hr, hr']
      simp only [Datum.order, signed, if_true]
      congr 1
      rw [Nat.shiftLeft_eq, Nat.shiftLeft_eq]
      have key : compare ((m' * 2 ^ (e' - min e e').toNat : Nat) : Int) ((m * 2 ^ (e - min e e').toNat : Nat) : Int) = compare (b : Int) (a : Int) := by
        rw [← cmp_scale _ _ (min e e' - k.format.leastPlace).toNat, Nat.mul_assoc, Nat.mul_assoc, ← Nat.pow_add, ← Nat.pow_add]
        rw [show (e - min e e').toNat + (min e e' - k.format.leastPlace).toNat = (e - k.format.leastPlace).toNat by omega, show (e' - min e e').toNat + (min e e' - k.format.leastPlace).toNat = (e' - k.format.leastPlace).toNat by omega, hN, hN']
        rcases Nat.lt_trichotomy b a with h | h | h
        · rw [cmp_lt (Int.ofNat_lt.2 (N_mono k.format b a h)), cmp_lt (Int.ofNat_lt.2 h)]
        · subst h; rw [compare_self_int, compare_self_int]
        · rw [cmp_gt (Int.ofNat_lt.2 (N_mono k.format a b h)), cmp_gt (Int.ofNat_lt.2 h)]
      rw [← key]
      generalize m' * 2 ^ (e' - min e e').toNat = u
      generalize m * 2 ^ (e - min e e').toNat = v
      rcases Nat.lt_trichotomy u v with h | h | h
      · rw [cmp_lt (Int.ofNat_lt.2 h), cmp_lt (by omega)]
      · subst h; rw [compare_self_int, compare_self_int]
      · rw [cmp_gt (Int.ofNat_lt.2 h), cmp_gt (by omega)]

theorem eq_words (k : FloatKind) (s : Bool) (a b : Nat) (ha : a ≤ k.format.infRung) (hb : b ≤ k.format.infRung) : eq k (k.format.word s a) (k.format.word s b) = decide (a = b) := by
  have key : ∀ u v : Nat, (some (compare (u : Int) (v : Int)) == some Ordering.eq) = decide (u = v) := by
    intro u v
    rcases Nat.lt_trichotomy u v with h | h | h
    · rw [cmp_lt (Int.ofNat_lt.2 h)]; simp; omega
    · subst h; rw [compare_self_int]; simp
    · rw [cmp_gt (Int.ofNat_lt.2 h)]; simp; omega
  unfold eq
  cases s
  · have := order_pos k a b ha hb
    show (k.format.order a b == some .eq) = _
    rw [this, key]
  · rw [order_neg k a b ha hb, key]
    congr 1
    exact propext ⟨fun h => h.symm, fun h => h.symm⟩
end Fl
attribute [go_sem] Fl.can_widenOut Fl.can_rootOut Fl.widenOut_of Fl.widenDr_of Fl.isN_widen Fl.isN_widenOut
end Go.Proofs.YtmlodheanckadaaDoor
