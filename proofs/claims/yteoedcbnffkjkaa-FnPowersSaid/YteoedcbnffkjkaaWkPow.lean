/-
  Walk of the law FnPowers: for every input it returns true and writes nothing that was there. No condition.
-/
import Derived.Test.YteoedcbnffkjkaaWkPowA
import Derived.OpenShut
namespace Go.Proofs.Yteoedcbnffkjkaa
open Go.RowKit
set_option linter.unusedVariables false
set_option linter.unusedSimpArgs false

/-- The number that a list of bytes chooses. -/
theorem atI (a : Option Addr) (len cap : Nat) (zs : List Int) (w : World) (h : IsRow .u8 w a len cap zs) : ∃ i : Nat, i < 65 ∧ ∀ w' : World, (∀ p, w'.cell? p = w.cell? p) →
    Calls Try.prog 10 #[.slice a len cap, .int .i64 0, .int .i64 65] w' fun e w'' => e = .returned (.int .i64 (i : Int)) ∧ w'' = w' := by
  by_cases h0 : len = 0
  · refine ⟨11, by omega, fun w' _ => ?_⟩
    subst h0
    go_enter Try.func10, Try.ntmps10
    go_wp2
    go_ret
    exact ⟨rfl, rfl⟩
  · rcases h with ⟨rfl, rfl, rfl, rfl⟩ | ⟨x, rfl, hl, hm, hz, hcell, hwz⟩
    · exact absurd rfl h0
    · have hc := hcell 0 (by omega)
      obtain ⟨b, off, spot⟩ := x
      have hspot : spot = none := by simpa [Addr.add] using World.cell?_spot hc
      subst hspot
      have hc0 : w.cell? ⟨b, off, none⟩ = some (.int .u8 (zs.getD 0 0)) := by simpa [Addr.add] using hc
      have hr := Go.range_u8 hwz 0
      rw [← List.getD_eq_getElem?_getD] at hr
      generalize zs.getD 0 0 = z at hc0 hr
      obtain ⟨i, hi⟩ : ∃ i : Nat, (i : Int) = z % 65 := ⟨(z % 65).toNat, by omega⟩
      refine ⟨i, by omega, fun w' hw => ?_⟩
      have hc1 : w'.cell? ⟨b, off, none⟩ = some (.int .u8 z) := by rw [hw, hc0]
      have hp : (0 : Int) < (len : Int) := by omega
      go_enter Try.func10, Try.ntmps10
      go_wp2
      go_ret
      exact ⟨by rw [hi]; rfl, rfl⟩

theorem below_drewN {B : Nat} {a w : World} (h : Below B a w) (n : Nat) : Below B a (w.drewN n) := ⟨h.os, h.tape, h.output, h.size, h.block⟩

def RawR (v : Nat) (w : World) (e : Ending) (w' : World) : Prop := ∃ n, e = .returned (.float .f32 v) ∧ w' = w.drewN n
theorem expR (x v : Nat) (hn : Fl.isN .f32 x = false) (h1 : Fl.gt .f32 x 1128792064 = false) (h2 : Fl.lt .f32 x 3276275712 = false) (ho : Fl.over (Fl.expW x) = false) (hv : Fl.expF x = v) (h0 : v < 2139095040) (w : World) :
    Calls Try.prog 11 #[.float .f32 x] w (RawR v w) := by
  refine (expI x hn h1 h2 ho w).mono ?_
  rintro e w' ⟨r, n, rfl, hr, rfl⟩
  rw [hv] at hr
  have hvn : Fl.isN .f32 v = false := Fl.isN_word .f32 false v (by rw [Fl.c32_inf]; omega)
  have : Fl.isN .f32 r = false := by rw [← Fl.isN_can, hr]; exact hvn
  rw [Fl.can_of _ _ this] at hr
  exact ⟨n, by rw [hr], rfl⟩

set_option maxHeartbeats 2000000 in
set_option maxRecDepth 100000 in
theorem walk_FnPowers (a0 : Option Addr) (len0 cap0 : Nat) (z0 : List Int) (a1 : Option Addr) (len1 cap1 : Nat) (z1 : List Int) (w : World) (w0 : IsRow .u8 w a0 len0 cap0 z0) (w1 : IsRow .u8 w a1 len1 cap1 z1) :
    Calls Try.prog 3 #[.slice a0 len0 cap0, .slice a1 len1 cap1] w fun e w' => e = .returned (.bool true) ∧ Below w.heap.size w w' := by
  obtain ⟨i, hi, Ai⟩ := atI a0 len0 cap0 z0 w w0
  obtain ⟨j, hj, Aj⟩ := atI a1 len1 cap1 z1 w w1
  have AT : ∀ (s : Value) (n : Nat), (s = .slice a0 len0 cap0 ∧ n = i) ∨ (s = .slice a1 len1 cap1 ∧ n = j) → ∀ w' : World, (∀ p, w'.cell? p = w.cell? p) →
      Calls Try.prog 10 #[s, .int .i64 0, .int .i64 65] w' fun e w'' => e = .returned (.int .i64 (n : Int)) ∧ w'' = w' := by
    rintro s n (⟨rfl, rfl⟩ | ⟨rfl, rfl⟩) w' h
    · exact Ai w' h
    · exact Aj w' h
  clear Ai Aj w0 w1
  obtain ⟨x1, x2, x3, x4, x5, x6, x7, x8⟩ := Fl.exp_facts (i + 32) (by omega)
  obtain ⟨y1, y2, y3, y4, y5, y6, y7, y8⟩ := Fl.exp_facts (j + 32) (by omega)
  obtain ⟨s1, s2, s3, s4, s5, s6, s7, s8⟩ := Fl.exp_facts (i + j) (by omega)
  obtain ⟨m1, m2⟩ := Fl.one_facts i hi
  obtain ⟨m3, _⟩ := Fl.one_facts j hj
  obtain ⟨t1, t2⟩ := Fl.two_facts i j hi hj
  generalize Fl.tT (i + 32) = X at *
  generalize Fl.tT (j + 32) = Y at *
  generalize Fl.tT (i + j) = Z at *
  generalize Fl.eT (i + 32) = A at *
  generalize Fl.eT (j + 32) = B at *
  generalize Fl.eT (i + j) = C at *
  obtain ⟨O, hO⟩ : ∃ O, O = 1065353216 := ⟨_, rfl⟩
  have EXP : ∀ x v, (x = X ∧ v = A) ∨ (x = Y ∧ v = B) ∨ (x = Z ∧ v = C) ∨ (x = 0 ∧ v = O) → ∀ w : World, Calls Try.prog 11 #[.float .f32 x] w (RawR v w) := by
    rintro x v (⟨rfl, rfl⟩ | ⟨rfl, rfl⟩ | ⟨rfl, rfl⟩ | ⟨rfl, rfl⟩) w
    · exact expR _ _ x1 x2 x3 x4 x5 x7 w
    · exact expR _ _ y1 y2 y3 y4 y5 y7 w
    · exact expR _ _ s1 s2 s3 s4 s5 s7 w
    · obtain ⟨u1, u2, u3, u4, u5, u6, u7, u8⟩ := Fl.exp_facts 64 (by omega)
      rw [hO]
      exact expR _ _ u1 u2 u3 u4 u5 u7 w
  obtain ⟨LA, hLA⟩ : ∃ LA, LA = Fl.narrow (Fl.logF (Fl.wideRung A)) := ⟨_, rfl⟩
  rw [← hLA] at m2
  have LOG : ∀ x v, (x = A ∧ v = LA) ∨ (x = 1065353216 ∧ v = 0) → ∀ w : World, Calls Try.prog 13 #[.float .f32 x] w (RetF .f32 v w) := by
    rintro x v (⟨rfl, rfl⟩ | ⟨rfl, rfl⟩) w
    · exact lnI _ _ (by omega) (.pos x6 x7 hLA) w
    · exact lnI _ _ (by omega) (.pos (by omega) (by omega) (by rw [← Fl.logF'_eq]; decide +kernel)) w
  have nA : Fl.isN .f32 A = false := Fl.isN_word .f32 false A (by rw [Fl.c32_inf]; omega)
  have nB : Fl.isN .f32 B = false := Fl.isN_word .f32 false B (by rw [Fl.c32_inf]; omega)
  have nC : Fl.isN .f32 C = false := Fl.isN_word .f32 false C (by rw [Fl.c32_inf]; omega)
  have cA := Fl.can_of .f32 A nA
  have cB := Fl.can_of .f32 B nB
  have cC := Fl.can_of .f32 C nC
  have cX := Fl.can_of .f32 X x1
  have cwA : Fl.can .f64 (Fl.widen A) = Fl.widen A := Fl.can_of _ _ (by rw [Fl.isN_widen, nA])
  have cwB : Fl.can .f64 (Fl.widen B) = Fl.widen B := Fl.can_of _ _ (by rw [Fl.isN_widen, nB])
  have cwC : Fl.can .f64 (Fl.widen C) = Fl.widen C := Fl.can_of _ _ (by rw [Fl.isN_widen, nC])
  have d1 := fun w : World => Fl.out_of (w := w) m1
  have d2 := fun w : World => Fl.out_of (w := w) m3
  have d3 := fun w : World => Fl.out_of (w := w) t1
  have e1 := Fl.dr_of m1
  have e2 := Fl.dr_of m3
  have e3 := Fl.dr_of t1
  have cm : Fl.can .f64 4562254508917369340 = 4562254508917369340 := by decide +kernel
  have q1 : Fl.eq .f32 O 1065353216 = true := by rw [hO]; decide +kernel
  have cO : Fl.can .f32 O = O := by rw [hO]; decide +kernel
  have l3 : Fl.can .f32 1065353216 = 1065353216 := by decide +kernel
  have l4 : Fl.can .f32 0 = 0 := by decide +kernel
  have q2 : Fl.eq .f32 0 0 = true := by decide +kernel
  have M2 := Lib.hid m2
  have T2 := Lib.hid t2
  clear hO x1 x2 x3 x4 x5 x6 x7 y1 y2 y3 y4 y5 y6 y7 y8 s1 s2 s3 s4 s5 s6 s7 s8 m1 m2 m3 t1 t2 hLA
  by_cases L : (decide ((1048576 : Int) < (len0 : Int)) || decide ((1048576 : Int) < (len1 : Int))) = true
  · have HL : ∀ w : World, Calls Try.prog 9 #[.slice a0 len0 cap0, .slice a1 len1 cap1] w fun e w' => e = .returned (.bool true) ∧ w' = w := by
      intro w; have := longI a0 len0 cap0 a1 len1 cap1 w; rw [L] at this; exact this
    clear cO l3 l4 AT EXP LOG d1 d2 d3 e1 e2 e3 cA cB cC cX cwA cwB cwC nA nB nC q1 q2 cm L
    go_enter Try.func3, Try.ntmps3
    go_wp2_with (go_at_call 9; refine (HL _).mono ?_; rintro e w' ⟨rfl, rfl⟩)
    go_ret
    exact ⟨rfl, Below.refl _ _⟩
  · have HL : ∀ w : World, Calls Try.prog 9 #[.slice a0 len0 cap0, .slice a1 len1 cap1] w fun e w' => e = .returned (.bool false) ∧ w' = w := by
      intro w; have := longI a0 len0 cap0 a1 len1 cap1 w; rw [Bool.not_eq_true] at L; rw [L] at this; exact this
    clear L
    have AT' := Lib.hid AT
    have EXP' := Lib.hid EXP
    have LOG' := Lib.hid LOG
    clear AT EXP LOG
    go_enter Try.func3, Try.ntmps3
    go_wp2_with (first | (go_at_call 9; refine (HL _).mono ?_; rintro e w' ⟨rfl, rfl⟩) | (go_at_call 10; refine (AT'.out _ _ (by first | exact Or.inl ⟨rfl, rfl⟩ | exact Or.inr ⟨rfl, rfl⟩) _ (fun p => rfl)).mono ?_; rintro e w' ⟨rfl, rfl⟩) | (go_at_call 11; refine (EXP'.out _ _ (by first | exact Or.inl ⟨rfl, rfl⟩ | exact Or.inr (Or.inl ⟨rfl, rfl⟩) | exact Or.inr (Or.inr (Or.inl ⟨rfl, rfl⟩)) | exact Or.inr (Or.inr (Or.inr ⟨rfl, rfl⟩))) _).mono ?_; rintro e w' ⟨n, rfl, rfl⟩) | (go_at_call 13; refine (LOG'.out _ _ (by first | exact Or.inl ⟨rfl, rfl⟩ | exact Or.inr ⟨rfl, rfl⟩) _).mono ?_; rintro e w' ⟨r, n, rfl, hr', rfl⟩; have hr := hr'; clear hr') | (go_at_call 12; refine (gapI _ _ _ rfl _).mono ?_; rintro e w' ⟨g, n, rfl, hg, rfl⟩; first | (have hq : Fl.lt .f64 (Fl.can .f64 g) 4562254508917369340 = true := (by rw [hg, Fl.can_widenOut, Fl.can_widenOut, hr, cX]; exact M2.out); clear hg) | (have hq2 : Fl.lt .f64 (Fl.can .f64 g) (Fl.F .mul .f64 4562254508917369340 (Fl.widen C)) = true := (by rw [hg]; simp only [Fl.can_out, Fl.can_widenOut, cA, cB, cC, cwA, cwB, cwC]; with_reducible exact T2.out); clear hg)) | go_in)
    all_goals go_ret
    all_goals exact ⟨rfl, below_drewN (Below.refl _ _) _⟩
end Go.Proofs.Yteoedcbnffkjkaa
