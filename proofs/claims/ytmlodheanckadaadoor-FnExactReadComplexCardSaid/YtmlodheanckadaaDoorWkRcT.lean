/-
  Walk of the law FnExactReadComplex, where the library's variables hold what they were laid with: for every text it returns true and writes nothing that was there. No condition.
-/
import Derived.Test.YtmlodheanckadaaDoorWkRcC
namespace Go.Proofs.YtmlodheanckadaaDoor
open Go.RowKit Go.Deep
set_option linter.unusedVariables false
set_option linter.unusedSimpArgs false

def RcYes (s : ByteArray) (ns : List (Nat × Nat)) (w : World) (e : Ending) (w' : World) : Prop :=
  ∃ g cap, e = .returned (.tuple #[.slice (some ⟨g, 0, none⟩) ns.length cap, .bool true]) ∧ w.Since w.heap.size w' ∧ w.heap.size ≤ g ∧ g < w'.heap.size ∧ RowWC w' g ns
theorem RcAns.yes {s : ByteArray} {ns : List (Nat × Nat)} {w w' : World} {e : Ending} (h : RcAns s w e w') (hd : RcOk s ns) : RcYes s ns w e w' := by
  obtain ⟨hS, ⟨ms, g, cap, h1, h2, h3⟩ | ⟨h1, _⟩⟩ := h
  · rw [rcOk_uniq hd h1]; exact ⟨g, cap, h2, hS, h3⟩
  · exact absurd hd (h1 ns)
theorem RcAns.no {s : ByteArray} {w w' : World} {e : Ending} (h : RcAns s w e w') (hd : ∀ ns, ¬ RcOk s ns) : e = .returned (.tuple #[.slice none 0 0, .bool false]) ∧ w.Since w.heap.size w' := by
  obtain ⟨hS, ⟨ms, g, cap, h1, _⟩ | ⟨_, h2⟩⟩ := h
  · exact absurd h1 (hd ms)
  · exact ⟨h2, hS⟩
theorem rcOk_len {s : ByteArray} {ns : List (Nat × Nat)} (h : RcOk s ns) : ns.length ≤ 256 := by
  rcases h with ⟨_, rfl⟩ | ⟨_, h2, h3⟩
  · simp
  · rw [h3.1]; exact h2

theorem rcSp (s : ByteArray) (w : World) (hs : s.size ≤ 1048576) : Calls Tryd.prog 30 #[.string s] w (RcAns s w) := by
  by_cases hE : ∃ ns, RcOk s ns
  · obtain ⟨ns, hR⟩ := hE
    have HR := Lib.hid hR
    have hc : Calls Tryd.prog 54 #[.string s] w (RcYes s ns w) := (rcS s w hs).mono fun e w' h => h.yes HR.out
    obtain ⟨N, hN⟩ : ∃ N, ns.length = N := ⟨_, rfl⟩
    unfold RcYes at hc
    rw [hN] at hc
    have HC := Lib.hid hc
    clear hc hR
    go_enter Tryd.func30, Tryd.ntmps30
    go_wp2_with (go_at_call 54; refine HC.out.mono ?_; rintro e w' ⟨g, cap, rfl, hS, hg1, hg2, hW⟩; have HW := Lib.hid hW; clear hW)
    go_ret2
    exact ⟨hS, .inl ⟨ns, g, cap, HR.out, by rw [hN]; rfl, hg1, hg2, HW.out⟩⟩
  · have hno : ∀ ns, ¬ RcOk s ns := fun ns h => hE ⟨ns, h⟩
    have HN := Lib.hid hno
    clear hno hE
    go_enter Tryd.func30, Tryd.ntmps30
    go_wp2_with (go_at_call 54; refine (rcS s w hs).mono ?_; rintro e w' h; obtain ⟨rfl, hS⟩ := h.no HN.out; clear h)
    go_ret2
    exact ⟨hS, .inr ⟨HN.out, rfl⟩⟩

set_option maxRecDepth 20000 in
theorem walk_FnExactReadComplex (s : ByteArray) (hs : s.size ≤ maxLen) (w : World) (hp : Tz w) (he : Errs w) (hm : MaxL w) :
    Calls Tryd.prog 9 #[.string s] w fun e w' => e = .returned (.bool true) ∧ Below w.heap.size w w' := by
  unfold maxLen at hs
  by_cases hl : 1048576 < s.size
  · have hl' : (1048576 : Int) < (s.size : Int) := by omega
    go_enter Tryd.func9, Tryd.ntmps9
    go_wp2
    go_ret
    exact ⟨rfl, Below.refl _ _⟩
  · have hl' : ¬ (1048576 : Int) < (s.size : Int) := by omega
    have hs' : s.size ≤ 1048576 := by omega
    have HP := Lib.hid hp
    have HE := Lib.hid he
    have HM := Lib.hid hm
    clear hp he hm
    by_cases hE : ∃ ns, RcOk s ns
    · obtain ⟨ns, hR⟩ := hE
      have HR := Lib.hid hR
      have hN64 := rcOk_len hR
      clear hR
      obtain ⟨N, hN⟩ : ∃ N, ns.length = N := ⟨_, rfl⟩
      have HN := Lib.hid hN
      rw [hN] at hN64
      clear hN
      have T0 : Stage 0 := trivial
      go_enter Tryd.func9, Tryd.ntmps9
      go_wp2_with (first
        | (go_at_call 30; clear T0; refine (rcSp s _ hs').mono ?_; rintro e w1 h; obtain ⟨ga, ca, rfl, SA, hga, hga2, WA⟩ := h.yes HR.out; clear h; rw [HN.out]; have RA := rowWC_rowC WA hga2; rw [HN.out] at RA; clear WA; have T1 : Stage 1 := trivial)
        | (go_at_call 31; clear T1; refine (rcI s _ hs' (HP.out.since SA) (HE.out.since SA) (HM.out.since SA)).mono ?_; rintro e w2 h; obtain ⟨gb, cb, rfl, SB, hgb, hgb2, WB⟩ := h.yes HR.out; clear h; rw [HN.out]; have RB := rowWC_rowC WB hgb2; rw [HN.out] at RB; have R2 := rowC_since RA SB; have HWB := Lib.hid WB; clear WB; have T2 : Stage 2 := trivial)
        | (go_at_call 32; clear T2; refine (eqC _ _ _ _ _ _ _ (fOfC ns) _ (by omega) RB.2 R2.2).mono ?_; rintro e w' ⟨rfl, n4, rfl⟩; have hmk : Calls Tryd.prog 33 #[.slice (some ⟨gb, 0, none⟩) ns.length cb, .int .i64 1] (w2.drewN n4) _ := markCG gb cb ns (w2.drewN n4) (by rw [HN.out]; exact hN64) HWB.out hgb2; rw [HN.out] at hmk; have HMK := Lib.hid hmk; clear hmk; have T3 : Stage 3 := trivial)
        | (go_at_call 33; clear T3; refine HMK.out.mono ?_; rintro e w3 ⟨rfl, k1, k2, k3, k4, k5, RM⟩; have R3 := rowC_of R2 (k1 ga (by have := RA.1; omega)) (Nat.le_of_eq k5.symm); have S2 := SA.trans (since_mono SB SA.size); have S3 : w.Since w.heap.size w3 := (since_drewN S2 n4).trans ⟨k2, k3, k4, Nat.le_of_eq k5.symm, fun k hk => k1 k (by have := SA.size; omega)⟩; clear HMK k1 k2 k3 k4 k5; have T4 : Stage 4 := trivial)
        | (go_at_call 34; clear T4; refine (heldCW _ _ _ _ (by omega) RM.2).mono ?_; rintro e w' ⟨rfl, n5, rfl⟩; have S3b := since_drewN S3 n5; have R3b := rowC_drew R3 n5; have RMb := rowC_drew RM n5; have T5 : Stage 5 := trivial)
        | (go_at_call 31; clear T5; refine (rcI s _ hs' (HP.out.since S3b) (HE.out.since S3b) (HM.out.since S3b)).mono ?_; rintro e w4 h; obtain ⟨gc, cc, rfl, SC, hgc, hgc2, WC⟩ := h.yes HR.out; clear h; rw [HN.out]; have RC := rowWC_rowC WC hgc2; rw [HN.out] at RC; clear WC; have R5 := rowC_since R3b SC; have RM5 := rowC_since RMb SC; have T6 : Stage 6 := trivial)
        | (go_at_call 32; clear T6; refine (eqC _ _ _ _ _ _ _ (fOfC ns) _ (by omega) RC.2 R5.2).mono ?_; rintro e w' ⟨rfl, n6, rfl⟩; have RM6 := rowC_drew RM5 n6; have T7 : Stage 7 := trivial)
        | (go_at_call 34; clear T7; refine (heldCW _ _ _ _ (by omega) RM6.2).mono ?_; rintro e w' ⟨rfl, n7, rfl⟩; have T8 : Stage 8 := trivial)
        | go_in)
      go_ret
      have S4 : w.Since w.heap.size w4 := S3b.trans (since_mono SC S3b.size)
      exact ⟨rfl, below_of_since (since_drewN S4 _)⟩
    · have hno : ∀ ns, ¬ RcOk s ns := fun ns h => hE ⟨ns, h⟩
      have HR := Lib.hid hno
      clear hno hE
      have T0 : Stage 0 := trivial
      go_enter Tryd.func9, Tryd.ntmps9
      go_wp2_with (first
        | (go_at_call 30; clear T0; refine (rcSp s _ hs').mono ?_; rintro e w1 h; obtain ⟨rfl, SA⟩ := h.no HR.out; clear h; have T1 : Stage 1 := trivial)
        | (go_at_call 31; clear T1; refine (rcI s _ hs' (HP.out.since SA) (HE.out.since SA) (HM.out.since SA)).mono ?_; rintro e w2 h; obtain ⟨rfl, SB⟩ := h.no HR.out; clear h; have S2 := since_up SA SB; have T2 : Stage 2 := trivial)
        | (go_at_call 31; clear T2; refine (rcI s _ hs' (HP.out.since S2) (HE.out.since S2) (HM.out.since S2)).mono ?_; rintro e w3 h; obtain ⟨rfl, SC⟩ := h.no HR.out; clear h; have S3 := since_up S2 SC; have T3 : Stage 3 := trivial)
        | (go_at_call 32; refine (eqNoC _).mono ?_; rintro e w' ⟨rfl, hw⟩; subst w')
        | (go_at_call 33; refine (markNoC _).mono ?_; rintro e w' ⟨rfl, hw⟩; subst w')
        | (go_at_call 34; refine (heldNoC _).mono ?_; rintro e w' ⟨rfl, hw⟩; subst w')
        | go_in)
      go_ret
      exact ⟨rfl, below_of_since S3⟩
end Go.Proofs.YtmlodheanckadaaDoor
