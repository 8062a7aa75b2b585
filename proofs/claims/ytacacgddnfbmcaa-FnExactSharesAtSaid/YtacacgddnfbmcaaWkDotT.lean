/-
  Walk of the law FnExactDotNumbers: for every two lists it returns true and writes nothing that was there. No condition.
-/
import Derived.Test.YtacacgddnfbmcaaWkDot
namespace Go.Proofs.Ytacacgddnfbmcaa
open Go.RowKit Go.Deep
set_option linter.unusedVariables false
set_option linter.unusedSimpArgs false

theorem dotIA (b1 o1 b2 o2 l1 l2 cap1 cap2 : Nat) (f g : Nat → Nat) (w : World) (h1 : ∀ i, i < l1 → w.cell? ⟨b1, o1 + i, none⟩ = some (.float .f32 (f i))) (h2 : ∀ i, i < l2 → w.cell? ⟨b2, o2 + i, none⟩ = some (.float .f32 (g i))) :
    Calls Try.prog 17 #[.slice (some ⟨b1, o1, none⟩) l1 cap1, .slice (some ⟨b2, o2, none⟩) l2 cap2] w (DotAns f g l1 l2 w) := by
  by_cases hl : l1 ≤ 256 ∧ l1 = l2
  · obtain ⟨hl1, rfl⟩ := hl
    refine (dotI b1 o1 b2 o2 l1 cap1 cap2 f g w hl1 h1 h2).mono ?_
    rintro e w' ⟨r, n, rfl, hr, rfl⟩
    exact ⟨r, n, by rw [decide_eq_true ⟨hl1, rfl⟩], by rw [if_pos ⟨hl1, rfl⟩]; exact hr, rfl⟩
  · by_cases h3 : (256 : Int) < (l1 : Int)
    · go_enter Try.func17, Try.ntmps17
      go_wp2
      go_ret2
      exact ⟨0, 0, by rw [decide_eq_false hl]; rfl, by rw [if_neg hl]; exact Fl.can32_0, rfl⟩
    · have h4 : ¬ (l1 : Int) = (l2 : Int) := fun e => hl ⟨by omega, by omega⟩
      have h5 : ¬ l1 = l2 := fun e => hl ⟨by omega, e⟩
      go_enter Try.func17, Try.ntmps17
      go_wp2
      all_goals go_ret2
      all_goals exact ⟨0, 0, by rw [decide_eq_false hl]; rfl, by rw [if_neg hl]; exact Fl.can32_0, rfl⟩

theorem dotSA (b1 o1 b2 o2 l1 l2 cap1 cap2 : Nat) (f g : Nat → Nat) (w : World) (hm : l1 ≤ 1048576) (h1 : ∀ i, i < l1 → w.cell? ⟨b1, o1 + i, none⟩ = some (.float .f32 (f i))) (h2 : ∀ i, i < l2 → w.cell? ⟨b2, o2 + i, none⟩ = some (.float .f32 (g i))) :
    Calls Try.prog 15 #[.slice (some ⟨b1, o1, none⟩) l1 cap1, .slice (some ⟨b2, o2, none⟩) l2 cap2] w (DotAns f g l1 l2 w) := by
  by_cases hl : l1 ≤ 256 ∧ l1 = l2
  · obtain ⟨hl1, rfl⟩ := hl
    have hl' : (l1 : Int) ≤ 256 := by omega
    go_enter Try.func15, Try.ntmps15
    go_wp2_with (first | (go_at_call 37; refine (dotS _ _ _ _ _ _ _ f g _ hm h1 h2).mono ?_; rintro e w' ⟨r, n, rfl, hr, rfl⟩) | go_in)
    go_ret2
    exact ⟨r, n, by rw [decide_eq_true ⟨hl1, rfl⟩]; rfl, by rw [if_pos ⟨hl1, rfl⟩]; exact hr, rfl⟩
  · by_cases h3 : (l1 : Int) ≤ 256
    · have h4 : ¬ (l1 : Int) = (l2 : Int) := fun e => hl ⟨by omega, by omega⟩
      have h5 : ¬ l1 = l2 := fun e => hl ⟨by omega, e⟩
      go_enter Try.func15, Try.ntmps15
      go_wp2
      all_goals go_ret2
      all_goals exact ⟨0, 0, by rw [decide_eq_false hl]; rfl, by rw [if_neg hl]; exact Fl.can32_0, rfl⟩
    · go_enter Try.func15, Try.ntmps15
      go_wp2
      all_goals go_ret2
      all_goals exact ⟨0, 0, by rw [decide_eq_false hl]; rfl, by rw [if_neg hl]; exact Fl.can32_0, rfl⟩

/-- A row of float32 where it lies. -/
def RowF (u : World) (b len : Nat) (f : Nat → Nat) : Prop := b < u.heap.size ∧ ∀ i, i < len → u.cell? ⟨b, 0 + i, none⟩ = some (.float .f32 (f i))
theorem rowF_made {u v : World} {len : Nat} {f : Nat → Nat} (h : MidF u v len len f) : RowF v u.heap.size len f := ⟨by have := h.2.1; omega, midF_cell h⟩
theorem rowF_step {u x : World} {b l l' : Nat} {f g : Nat → Nat} (h : RowF u b l f) (k : MidF u x l' l' g) : RowF x b l f :=
  ⟨by have := h.1; have := k.2.1; omega, fun i hi => by rw [k.1.cell (a := ⟨b, 0 + i, none⟩) h.1]; exact h.2 i hi⟩
theorem rowF_drew {u : World} {b l : Nat} {f : Nat → Nat} (h : RowF u b l f) (n : Nat) : RowF (u.drewN n) b l f := h
def Stage (n : Nat) : Prop := True

set_option maxHeartbeats 2000000 in
theorem walk_FnExactDotNumbers (a0 : Option Addr) (len0 cap0 : Nat) (f : Nat → Nat) (a1 : Option Addr) (len1 cap1 : Nat) (g : Nat → Nat) (w : World) (w0 : SrcF w a0 len0 f) (w1 : SrcF w a1 len1 g) :
    Calls Try.prog 5 #[.slice a0 len0 cap0, .slice a1 len1 cap1] w fun e w' => e = .returned (.bool true) ∧ Below w.heap.size w w' := by
  by_cases hl : len0 ≤ 1048576
  · by_cases hk : len1 ≤ 1048576
    · have hl' : ¬ (1048576 : Int) < (len0 : Int) := by omega
      have hk' : ¬ (1048576 : Int) < (len1 : Int) := by omega
      have S0 : w.Since w.heap.size w := World.Since.refl _ _
      have T0 : Stage 0 := trivial
      go_enter Try.func5, Try.ntmps5
      go_wp2_with (first
        | (go_at_call 16; clear T0; refine (toF _ _ _ f _ hl (src_since w0 S0)).mono ?_; rintro e v1 ⟨rfl, hM⟩; have S1 := since_step S0 hM; have R1 := rowF_made hM; have T1 : Stage 1 := trivial; clear hM)
        | (go_at_call 16; clear T1; refine (toF _ _ _ g _ hk (src_since w1 S1)).mono ?_; rintro e v2 ⟨rfl, hM⟩; have S2 := since_step S1 hM; have R1b := rowF_step R1 hM; have R2 := rowF_made hM; have T2 : Stage 2 := trivial; clear hM)
        | (go_at_call 15; refine (dotSA _ _ _ _ _ _ _ _ f g _ hl R1b.2 R2.2).mono ?_; rintro e w' ⟨r1, n1, rfl, hr1, rfl⟩; have HR1 := Lib.hid hr1; clear hr1)
        | (go_at_call 16; clear T2; refine (toF _ _ _ f _ hl (src_since w0 (since_drewN S2 _))).mono ?_; rintro e v3 ⟨rfl, hM⟩; have S3 := since_step (since_drewN S2 _) hM; have R3 := rowF_made hM; have T3 : Stage 3 := trivial; clear hM)
        | (go_at_call 16; clear T3; refine (toF _ _ _ g _ hk (src_since w1 S3)).mono ?_; rintro e v4 ⟨rfl, hM⟩; have S4 := since_step S3 hM; have R3b := rowF_step R3 hM; have R4 := rowF_made hM; have T4 : Stage 4 := trivial; clear hM)
        | (go_at_call 17; refine (dotIA _ _ _ _ _ _ _ _ f g _ R3b.2 R4.2).mono ?_; rintro e w' ⟨r2, n2, rfl, hr2, rfl⟩; have HR2 := Lib.hid hr2; clear hr2)
        | (go_at_call 12; refine (sameF _ _ (by rw [Fl.can_widenOut, Fl.can_widenOut, HR1.out, HR2.out]) _).mono ?_; rintro e w' ⟨rfl, n3, rfl⟩)
        | (go_at_call 16; clear T4; refine (toF _ _ _ f _ hl (src_since w0 (since_drewN S4 _))).mono ?_; rintro e v5 ⟨rfl, hM⟩; have S5 := since_step (since_drewN S4 _) hM; have R3c := rowF_step (rowF_drew R3b _) hM; have R4c := rowF_step (rowF_drew R4 _) hM; have R5 := rowF_made hM; have T5 : Stage 5 := trivial; clear hM)
        | (go_at_call 18; clear T5; refine (eqF _ _ _ _ _ _ _ f _ hl R3c.2 R5.2).mono ?_; rintro e w' ⟨rfl, n4, rfl⟩; have T6 : Stage 6 := trivial)
        | (go_at_call 16; clear T6; refine (toF _ _ _ g _ hk (src_since w1 (since_drewN S5 _))).mono ?_; rintro e v6 ⟨rfl, hM⟩; have S6 := since_step (since_drewN S5 _) hM; have R4d := rowF_step (rowF_drew R4c _) hM; have R6 := rowF_made hM; have T7 : Stage 7 := trivial; clear hM)
        | (go_at_call 18; clear T7; refine (eqF _ _ _ _ _ _ _ g _ hk R4d.2 R6.2).mono ?_; rintro e w' ⟨rfl, n5, rfl⟩)
        | go_in)
      all_goals go_ret
      all_goals exact ⟨rfl, below_of_since (since_drewN S6 _)⟩
    · have hl' : ¬ (1048576 : Int) < (len0 : Int) := by omega
      have hk' : (1048576 : Int) < (len1 : Int) := by omega
      go_enter Try.func5, Try.ntmps5
      go_wp2
      go_ret
      exact ⟨rfl, Below.refl _ _⟩
  · have hl' : (1048576 : Int) < (len0 : Int) := by omega
    go_enter Try.func5, Try.ntmps5
    go_wp2
    go_ret
    exact ⟨rfl, Below.refl _ _⟩
end Go.Proofs.Ytacacgddnfbmcaa
