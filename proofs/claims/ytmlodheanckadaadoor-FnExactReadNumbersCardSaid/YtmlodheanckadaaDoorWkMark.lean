/-
  Walks of laws.markFloat32S and laws.heldFloat32S: a list of at most 8 numbers is overwritten by k, k + 1, ..; and read back. No condition.
-/
import Derived.Test.YtmlodheanckadaaDoorWkTo
namespace Go.Proofs.YtmlodheanckadaaDoor
open Go.RowKit Go.Deep
set_option linter.unusedVariables false
set_option linter.unusedSimpArgs false

/-- A row of float32 at block b, of which j are written with 1, 2, .. -/
def MarkF (w wr : World) (b len j : Nat) (V : Nat → Value) : Prop :=
  (∀ k, k ≠ b → wr.heap[k]? = w.heap[k]?) ∧ wr.os = w.os ∧ wr.tape = w.tape ∧ wr.output = w.output ∧ wr.heap.size = w.heap.size ∧ ∃ n, wr.rowIs b 56 n (fun i => if i < j then .float .f32 (FloatKind.f32.nearest ((i : Int) + 1)) else V i) ∧ len ≤ n
theorem markF_step {w wr : World} {b len j : Nat} {V : Nat → Value} (h : MarkF w wr b len j V) : MarkF w (wr.setCell ⟨b, j, none⟩ (.float .f32 (FloatKind.f32.nearest ((j : Int) + 1)))) b len (j + 1) V := by
  obtain ⟨h1, h2, h3, h4, h5, n, h6, h7⟩ := h
  refine ⟨fun k hk => ?_, h2, h3, h4, by rw [← h5]; simp [World.setCell], n, (h6.set j _).congr fun i hi => ?_, h7⟩
  · rw [blk_setCell_other _ _ _ _ hk]; exact h1 k hk
  · by_cases e : i = j
    · subst e; simp
    · by_cases l : i < j
      · simp [e, l, show i < j + 1 by omega]
      · simp [e, l, show ¬ i < j + 1 by omega]

theorem markW (b len cap : Nat) (f : Nat → Nat) (V : Nat → Value) (hV : ∀ i, i < len → V i = .float .f32 (f i)) (w : World) (hl : len ≤ 8) (h : MarkF w w b len 0 V) :
    Calls Tryd.prog 28 #[.slice (some ⟨b, 0, none⟩) len cap, .int .i64 1] w fun e w' => e = .returned (.int .i64 ((len : Int) + 1)) ∧ MarkF w w' b len len V := by
  go_enter Tryd.func28, Tryd.ntmps28
  go_wp2
  go_loopg [1, 5] len (fun g q i wr => ∃ k : Nat, k ≤ len ∧ g = len - k ∧ q = .int .i64 ((k : Int) + 1) ∧ i = .int .i64 k ∧ MarkF w wr b len k V)
  case atStart => exact ⟨0, Nat.zero_le _, rfl, rfl, rfl, h⟩
  case round =>
    obtain ⟨k, hk, rfl, rfl, rfl, hM⟩ := hrel
    by_cases hlt : k < len
    · have HM := Lib.hid hM
      obtain ⟨_, _, _, _, _, n, h6, h7⟩ := hM
      have g2 : wr.cell? ⟨b, k, none⟩ = some (.float .f32 (f k)) := by have := h6.cell (show k < n by omega); rw [if_neg (Nat.lt_irrefl k), hV k hlt] at this; exact this
      have g3 : wr.frozen? ⟨b, k, none⟩ = false := h6.frozen k
      clear h6 h7 h hV
      go_wp2
      go_roundg (len - (k + 1))
      case measure => omega
      case rel => exact ⟨k + 1, by omega, rfl, congrArg (Value.int .i64) (by omega), congrArg (Value.int .i64) (by omega), markF_step HM.out⟩
    · obtain rfl : k = len := by omega
      go_wp2
      go_ret
      exact ⟨rfl, hM⟩
end Go.Proofs.YtmlodheanckadaaDoor
