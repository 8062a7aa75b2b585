/-
  Walks of spec.DotNumbers and impl.DotNumbers: the sum of the products of two lists of float32. No condition.
-/
import Derived.Test.YtacacgddnfbmcaaWkSumT
namespace Go.Proofs.Ytacacgddnfbmcaa
open Go.RowKit Go.Deep
set_option linter.unusedVariables false
set_option linter.unusedSimpArgs false

def dotC (f g : Nat → Nat) : Nat → Nat
  | 0 => 0
  | k + 1 => Fl.F .add .f32 (dotC f g k) (Fl.F .mul .f32 (Fl.can .f32 (f k)) (Fl.can .f32 (g k)))
def DotAns (f g : Nat → Nat) (l1 l2 : Nat) (w : World) (e : Ending) (w' : World) : Prop :=
  ∃ r n, e = .returned (.tuple #[.float .f32 r, .bool (decide (l1 ≤ 256 ∧ l1 = l2))]) ∧ Fl.can .f32 r = (if l1 ≤ 256 ∧ l1 = l2 then dotC f g l1 else 0) ∧ w' = w.drewN n

set_option maxHeartbeats 1000000 in
theorem dotS (b1 o1 b2 o2 len cap1 cap2 : Nat) (f g : Nat → Nat) (w : World) (hl : len ≤ 1048576) (h1 : ∀ i, i < len → w.cell? ⟨b1, o1 + i, none⟩ = some (.float .f32 (f i))) (h2 : ∀ i, i < len → w.cell? ⟨b2, o2 + i, none⟩ = some (.float .f32 (g i))) :
    Calls Try.prog 37 #[.slice (some ⟨b1, o1, none⟩) len cap1, .slice (some ⟨b2, o2, none⟩) len cap2] w (fun e w' => ∃ r n, e = .returned (.float .f32 r) ∧ Fl.can .f32 r = dotC f g len ∧ w' = w.drewN n) := by
  go_enter Try.func37, Try.ntmps37
  go_wp2
  go_loopg [5, 6] len (fun gg s i wr => ∃ k n S, k ≤ len ∧ gg = len - k ∧ i = .int .i64 (k : Nat) ∧ s = .float .f32 S ∧ Fl.can .f32 S = dotC f g k ∧ wr = w.drewN n)
  case atStart => exact ⟨0, 0, 0, Nat.zero_le _, rfl, rfl, rfl, Fl.can32_0, rfl⟩
  case round =>
    obtain ⟨k, n, S, hk, rfl, rfl, rfl, hS, rfl⟩ := hrel
    have HS := Lib.hid hS
    clear hS
    by_cases hlt : k < len
    · have g1 := h1 k hlt
      have g2 := h2 k hlt
      clear h1 h2
      go_wp2
      go_region_with (fail)
      all_goals go_wp2
      all_goals go_roundg (len - (k + 1))
      all_goals first | omega | exact ⟨k + 1, _, _, by omega, rfl, congrArg (Value.int .i64) (by omega), rfl, by simp [Fl.can_out, HS.out, dotC], rfl⟩
    · obtain rfl : k = len := by omega
      go_wp2
      go_ret
      exact ⟨_, _, rfl, HS.out, rfl⟩

set_option maxHeartbeats 1000000 in
theorem dotI (b1 o1 b2 o2 len cap1 cap2 : Nat) (f g : Nat → Nat) (w : World) (hl : len ≤ 256) (h1 : ∀ i, i < len → w.cell? ⟨b1, o1 + i, none⟩ = some (.float .f32 (f i))) (h2 : ∀ i, i < len → w.cell? ⟨b2, o2 + i, none⟩ = some (.float .f32 (g i))) :
    Calls Try.prog 17 #[.slice (some ⟨b1, o1, none⟩) len cap1, .slice (some ⟨b2, o2, none⟩) len cap2] w (fun e w' => ∃ r n, e = .returned (.tuple #[.float .f32 r, .bool true]) ∧ Fl.can .f32 r = dotC f g len ∧ w' = w.drewN n) := by
  have hl' : ¬ (256 : Int) < (len : Int) := by omega
  go_enter Try.func17, Try.ntmps17
  go_wp2
  go_loopg [6, 7, 20] len (fun gg s x i wr => ∃ k n S, k ≤ len ∧ gg = len - k ∧ i = .int .i64 (k : Nat) ∧ s = .float .f32 S ∧ Fl.can .f32 S = dotC f g k ∧ wr = w.drewN n)
  case atStart => exact ⟨0, 0, 0, Nat.zero_le _, rfl, rfl, rfl, Fl.can32_0, rfl⟩
  case round =>
    obtain ⟨k, n, S, hk, rfl, rfl, rfl, hS, rfl⟩ := hrel
    have HS := Lib.hid hS
    clear hS
    by_cases hlt : k < len
    · have g1 := h1 k hlt
      have g2 := h2 k hlt
      clear h1 h2
      go_wp2
      go_region_with (fail)
      all_goals go_wp2
      all_goals go_roundg (len - (k + 1))
      all_goals first | omega | exact ⟨k + 1, _, _, by omega, rfl, congrArg (Value.int .i64) (by omega), rfl, by simp [Fl.can_out, HS.out, dotC], rfl⟩
    · obtain rfl : k = len := by omega
      go_wp2
      go_ret2
      exact ⟨_, _, rfl, HS.out, rfl⟩
end Go.Proofs.Ytacacgddnfbmcaa
