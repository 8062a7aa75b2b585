/-
  Walk of the law FnExactSumNumbers: for every list it returns true and writes nothing that was there. No condition.
-/
import Derived.Test.YtacacgddnfbmcaaWkSum
import Derived.Test.YtacacgddnfbmcaaWkEq
import Derived.Below
namespace Go.Proofs.Ytacacgddnfbmcaa
open Go.RowKit Go.Deep
set_option linter.unusedVariables false
set_option linter.unusedSimpArgs false

def SumAns (f : Nat → Nat) (len : Nat) (w : World) (e : Ending) (w' : World) : Prop :=
  ∃ r n, e = .returned (.tuple #[.float .f32 r, .bool (decide (len ≤ 256))]) ∧ Fl.can .f32 r = (if len ≤ 256 then sumC f len else 0) ∧ w' = w.drewN n

theorem sumIA (b off len cap : Nat) (f : Nat → Nat) (w : World) (h1 : ∀ i, i < len → w.cell? ⟨b, off + i, none⟩ = some (.float .f32 (f i))) :
    Calls Try.prog 20 #[.slice (some ⟨b, off, none⟩) len cap] w (SumAns f len w) := by
  by_cases hl : len ≤ 256
  · refine (sumI b off len cap f w hl h1).mono ?_
    rintro e w' ⟨r, n, rfl, hr, rfl⟩
    exact ⟨r, n, by rw [decide_eq_true hl], by rw [if_pos hl]; exact hr, rfl⟩
  · have hl' : (256 : Int) < (len : Int) := by omega
    go_enter Try.func20, Try.ntmps20
    go_wp2
    go_ret2
    exact ⟨0, 0, by rw [decide_eq_false hl]; rfl, by rw [if_neg hl]; exact Fl.can32_0, rfl⟩

theorem sumSA (b off len cap : Nat) (f : Nat → Nat) (w : World) (hm : len ≤ 1048576) (h1 : ∀ i, i < len → w.cell? ⟨b, off + i, none⟩ = some (.float .f32 (f i))) :
    Calls Try.prog 19 #[.slice (some ⟨b, off, none⟩) len cap] w (SumAns f len w) := by
  by_cases hl : len ≤ 256
  · have hl' : (len : Int) ≤ 256 := by omega
    go_enter Try.func19, Try.ntmps19
    go_wp2_with (first | (go_at_call 38; refine (sumS _ _ _ _ f _ hm h1).mono ?_; rintro e w' ⟨r, n, rfl, hr, rfl⟩) | go_in)
    go_ret2
    exact ⟨r, n, by rw [decide_eq_true hl]; rfl, by rw [if_pos hl]; exact hr, rfl⟩
  · have hl' : ¬ (len : Int) ≤ 256 := by omega
    go_enter Try.func19, Try.ntmps19
    go_wp2
    go_ret2
    exact ⟨0, 0, by rw [decide_eq_false hl]; rfl, by rw [if_neg hl]; exact Fl.can32_0, rfl⟩

theorem since_drewN {B : Nat} {w w' : World} (h : w.Since B w') (n : Nat) : w.Since B (w'.drewN n) := ⟨h.os, h.tape, h.output, h.size, h.block⟩
theorem since_mono {B B' : Nat} {w w' : World} (h : w.Since B w') (hB : B' ≤ B) : w.Since B' w' := ⟨h.os, h.tape, h.output, h.size, fun k hk => h.block k (Nat.lt_of_lt_of_le hk hB)⟩
theorem since_step {w u v : World} {len : Nat} {f : Nat → Nat} (h : w.Since w.heap.size u) (k : MidF u v len len f) : w.Since w.heap.size v := h.trans (since_mono k.1 h.size)
theorem src_since {w u : World} {a : Option Addr} {len : Nat} {f : Nat → Nat} (h : SrcF w a len f) (k : w.Since w.heap.size u) : SrcF u a len f := by
  rcases h with h | ⟨b, off, h1, h2, h3⟩
  · exact Or.inl h
  · exact Or.inr ⟨b, off, h1, Nat.lt_of_lt_of_le h2 k.size, fun i hi => by rw [k.cell (a := ⟨b, off + i, none⟩) h2]; exact h3 i hi⟩
theorem midF_cell {w v : World} {len : Nat} {f : Nat → Nat} (h : MidF w v len len f) (i : Nat) (hi : i < len) : v.cell? ⟨w.heap.size, 0 + i, none⟩ = some (.float .f32 (f i)) := by
  rw [Nat.zero_add, h.2.2.cell hi, if_pos hi]
theorem below_of_since {w u : World} (h : w.Since w.heap.size u) : Below w.heap.size w u := ⟨h.os, h.tape, h.output, h.size, h.block⟩
theorem keep_cell {w v x : World} {len : Nat} {f : Nat → Nat} (h : MidF w v len len f) (n : Nat) (k : MidF (v.drewN n) x len len f) (i : Nat) (hi : i < len) : x.cell? ⟨w.heap.size, 0 + i, none⟩ = some (.float .f32 (f i)) := by
  have e := k.1.cell (a := ⟨w.heap.size, 0 + i, none⟩) (by show w.heap.size < v.heap.size; have := h.2.1; omega)
  rw [e]
  exact midF_cell h i hi

set_option maxHeartbeats 1000000 in
theorem walk_FnExactSumNumbers (a0 : Option Addr) (len0 cap0 : Nat) (f : Nat → Nat) (w : World) (w0 : SrcF w a0 len0 f) :
    Calls Try.prog 6 #[.slice a0 len0 cap0] w fun e w' => e = .returned (.bool true) ∧ Below w.heap.size w w' := by
  by_cases hl : len0 ≤ 1048576
  · have hl' : ¬ (1048576 : Int) < (len0 : Int) := by omega
    have S0 : w.Since w.heap.size w := World.Since.refl _ _
    go_enter Try.func6, Try.ntmps6
    go_wp2_with (first | (go_at_call 16; refine (toF _ _ _ f _ hl (src_since w0 (by first | assumption | exact since_drewN (by assumption) _))).mono ?_; rintro e w' ⟨rfl, hM⟩; have hS := since_step (by first | assumption | exact since_drewN (by assumption) _) hM) | (go_at_call 19; refine (sumSA _ _ _ _ f _ hl (midF_cell hM)).mono ?_; rintro e w' ⟨r1, n1, rfl, hr1, rfl⟩; have hM1 := hM; have HR1 := Lib.hid hr1; clear hr1) | (go_at_call 20; refine (sumIA _ _ _ _ f _ (midF_cell hM)).mono ?_; rintro e w' ⟨r2, n2, rfl, hr2, rfl⟩; have HR2 := Lib.hid hr2; clear hr2; have hM2 := hM) | (go_at_call 12; refine (sameF _ _ (by rw [Fl.can_widenOut, Fl.can_widenOut, HR1.out, HR2.out]) _).mono ?_; rintro e w' ⟨rfl, n3, rfl⟩) | (go_at_call 18; refine (eqF _ _ _ _ _ _ _ f _ hl (keep_cell hM2 _ hM) (midF_cell hM)).mono ?_; rintro e w' ⟨rfl, n4, rfl⟩) | go_in)
    all_goals go_ret
    all_goals exact ⟨rfl, below_of_since (by first | assumption | exact since_drewN (by assumption) _)⟩
  · have hl' : (1048576 : Int) < (len0 : Int) := by omega
    go_enter Try.func6, Try.ntmps6
    go_wp2
    go_ret
    exact ⟨rfl, Below.refl _ _⟩
end Go.Proofs.Ytacacgddnfbmcaa
