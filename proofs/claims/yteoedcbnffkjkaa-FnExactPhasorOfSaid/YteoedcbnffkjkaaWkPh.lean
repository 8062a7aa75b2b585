/-
  Walk of the law FnExactPhasorOf: for every input it returns true and writes nothing. No condition.
-/
import Derived.Test.YteoedcbnffkjkaaWkSin
import Derived.Test.YteoedcbnffkjkaaPhP
import Derived.Test.YteoedcbnffkjkaaCpx
import Derived.Test.YteoedcbnffkjkaaWkSF
namespace Go.Proofs.Yteoedcbnffkjkaa
open Go.RowKit
set_option linter.unusedVariables false
set_option linter.unusedSimpArgs false

def RetC (vr vi : Nat) (w : World) (e : Ending) (w' : World) : Prop := ∃ re im n, e = .returned (.complex .f32 re im) ∧ Fl.can .f32 re = vr ∧ Fl.can .f32 im = vi ∧ w' = w.drewN n
theorem RetC.mk {vr vi re im n : Nat} {w : World} (h1 : Fl.can .f32 re = vr) (h2 : Fl.can .f32 im = vi) : RetC vr vi w (.returned (.complex .f32 re im)) (w.drewN n) := ⟨re, im, n, rfl, h1, h2, rfl⟩
theorem RetC.mk0 {vr vi re im : Nat} {w : World} (h1 : Fl.can .f32 re = vr) (h2 : Fl.can .f32 im = vi) : RetC vr vi w (.returned (.complex .f32 re im)) w := ⟨re, im, 0, rfl, h1, h2, rfl⟩

theorem narrow_finalP (w : World) (r v : Nat) (h : Fl.can .f64 r = v) (ho : Fl.over v = false) : Fl.can .f32 (Fl.narrowOut w r) = Fl.narrow v := by
  rw [Fl.can_narrowOut _ _ (by rw [← Fl.over_can, h]; exact ho), h]
theorem raw_of_can {k : FloatKind} {r v : Nat} (h : Fl.can k r = v) (hv : Fl.isN k v = false) : r = v := by
  have : Fl.isN k r = false := by rw [← Fl.isN_can, h]; exact hv
  rw [Fl.can_of _ _ this] at h; exact h

/-- both parts, by the quarter -/
def phRe (f q : Nat) : Nat :=
  if q = 1 then Fl.narrow (Fl.F .sub .f64 0 (Fl.sineF f)) else if q = 2 then Fl.narrow (Fl.F .sub .f64 0 (Fl.sineF (Fl.F .sub .f64 4598175219545276416 f)))
  else if q = 3 then Fl.narrow (Fl.sineF f) else Fl.narrow (Fl.sineF (Fl.F .sub .f64 4598175219545276416 f))
def phIm (f q : Nat) : Nat :=
  if q = 1 then Fl.narrow (Fl.sineF (Fl.F .sub .f64 4598175219545276416 f)) else if q = 2 then Fl.narrow (Fl.F .sub .f64 0 (Fl.sineF f))
  else if q = 3 then Fl.narrow (Fl.F .sub .f64 0 (Fl.sineF (Fl.F .sub .f64 4598175219545276416 f))) else Fl.narrow (Fl.sineF f)

/-- what is known where the loop ends: a number from 0 to a quarter, or the zero with a sign -/
theorem end_facts (r : Nat) (h : r ≤ 4607182418800017408 ∨ r = 9223372036854775808) : Fl.Num r 0 ∧ ∃ v, Fl.raw .sub .f64 4598175219545276416 r = some v ∧ Fl.F .sub .f64 4598175219545276416 r = v ∧ Fl.Num v 1 ∧ v < 18446744073709551616 := by
  have hn : Fl.Num r 0 := by
    rcases h with h | rfl
    · have := Fl.num_word false r 0 (by omega) (by omega) (by rw [show ((0 : Int) + 1023).toNat = 1023 from rfl]; omega)
      rw [Fl.word64, if_neg (by decide)] at this; exact this
    · have := Fl.num_word true 0 0 (by omega) (by omega) (by omega)
      rw [Fl.word64, if_pos rfl] at this; exact this
  refine ⟨hn, ?_⟩
  have h1 := Fl.num_sub 1 (Fl.num_lit 4598175219545276416 0 (by decide +kernel) (by omega)) hn ⟨by omega, by omega, by omega, by omega⟩
  cases hv : Fl.raw .sub .f64 4598175219545276416 r with
  | none =>
    exfalso
    have := Fl.isN_num h1
    unfold Fl.F at this
    rw [hv] at this
    rw [Option.getD_none, Fl.isN_qnan] at this; cases this
  | some v =>
    have e : Fl.F .sub .f64 4598175219545276416 r = v := by unfold Fl.F; rw [hv]; rfl
    rw [e] at h1
    exact ⟨v, rfl, e, h1, Fl.raw64_lt hv⟩
theorem guard (v : Nat) (hv : v < 18446744073709551616) (h : Fl.Num v 1) : Fl.eq .f64 (Fl.F .sub .f64 v v) 0 = true ∧ Fl.ge .f64 v 4841369599423283200 = false ∧ Fl.le .f64 v 14064741636278059008 = false := by
  have hr := Fl.rung_of_num hv h (by omega)
  rw [show ((1 : Int) + 1023).toNat = 1024 from rfl] at hr
  have hf : Fl.finB64 v = true := by unfold Fl.finB64; exact decide_eq_true (by omega)
  obtain ⟨b1, b2, _⟩ := Fl.big_facts v hv hf
  have hb : Fl.bigB v = false := by unfold Fl.bigB; exact decide_eq_false (by omega)
  rw [hb, Bool.and_false] at b1 b2
  exact ⟨by rw [Fl.fin64, hf], b1, b2⟩
theorem over_s {f : Nat} (h : Fl.Num f 1) : Fl.over (Fl.sineF f) = false ∧ Fl.over (Fl.F .sub .f64 0 (Fl.sineF f)) = false := by
  have h1 := Fl.sineF_num (h.mono (by omega))
  exact ⟨Fl.over_num h1 (by omega) (by omega), Fl.over_num (Fl.num_sub 121 Fl.num_zero h1 ⟨by omega, by omega, by omega, by omega⟩) (by omega) (by omega)⟩

theorem step_facts (r g : Nat) (j : Nat) (h : r ≤ Fl.L g ∨ r = 9223372036854775808) (hg : g ≤ 4) :
    (Fl.ge .f64 r 4598175219545276416 = false) ∨ (Fl.ge .f64 r 4598175219545276416 = true ∧ 1 ≤ g ∧ ∃ r', Fl.raw .sub .f64 r 4598175219545276416 = some r' ∧ r' ≤ Fl.L (g - 1) ∧ Fl.phI g r j = Fl.phI (g - 1) r' (j + 1)) := by
  rcases h with h | rfl
  · have hl := Fl.L_le g
    have hge := Fl.ge_quarter r (by omega)
    by_cases hq : 4598175219545276416 ≤ r
    · right
      rw [decide_eq_true hq] at hge
      have hg1 : 1 ≤ g := by
        rcases Nat.eq_zero_or_pos g with h0 | h0
        · subst h0; have : Fl.L 0 = 0 := rfl; omega
        · exact h0
      obtain ⟨r', h1, h2⟩ := Fl.sub_quarter r g hg1 hg hq h
      refine ⟨hge, hg1, r', h1, h2, ?_⟩
      have e : Fl.F .sub .f64 r 4598175219545276416 = r' := by unfold Fl.F; rw [h1]; rfl
      obtain ⟨n, rfl⟩ : ∃ n, g = n + 1 := ⟨g - 1, by omega⟩
      show (if Fl.ge .f64 r 4598175219545276416 = true then Fl.phI n (Fl.F .sub .f64 r 4598175219545276416) (j + 1) else (r, j)) = _
      rw [if_pos hge, e]; rfl
    · left; rw [hge]; exact decide_eq_false hq
  · exact Or.inl Fl.ge_nzero

set_option maxHeartbeats 1000000 in
set_option maxRecDepth 100000 in
theorem phasorI (x : Nat) (hx : x < 18446744073709551616) (hf : Fl.finB64 x = true) (hb : Fl.bigB x = false) (w : World) :
    Calls Try.prog 21 #[.float .f64 x] w (RetC (phRe (Fl.phI 4 (Fl.fracF x) 0).1 (Fl.phI 4 (Fl.fracF x) 0).2) (phIm (Fl.phI 4 (Fl.fracF x) 0).1 (Fl.phI 4 (Fl.fracF x) 0).2) w) := by
  have hnum := Fl.num_small x hx hb
  have hn := Fl.isN_fin64 hf
  have hc := Fl.can_of .f64 x hn
  have hfit := (Fl.fits_num hnum).1
  have hfw := Fl.fracF_word hnum
  obtain ⟨f0, hf0⟩ : ∃ f0, f0 = Fl.fracF x := ⟨_, rfl⟩
  have HF0 := Lib.hid hf0
  rw [← hf0] at hfw ⊢
  clear hf0
  have hf0n : Fl.isN .f64 f0 = false := Fl.isN_num (end_facts f0 hfw).1
  obtain ⟨b1, b2, b3⟩ := Fl.big_facts x hx hf
  rw [hb] at b3
  have ca : Fl.can .f64 (x % 9223372036854775808) = x % 9223372036854775808 := Fl.can_of _ _ (by rw [Fl.isN_abs, hn])
  have HW := Lib.hid hfw
  clear b1 b2 hfw hnum hb
  go_enter Try.func21, Try.ntmps21
  go_wp2_with (first | (go_at_call 34; refine (abs64 _ hx _).mono ?_; rintro e w' ⟨rfl, rfl⟩) | (go_at_call 38; refine (fractionI _ hn hfit _).mono ?_; rintro e w' ⟨r, n, rfl, hr, rfl⟩; rw [← HF0.out] at hr; obtain rfl : f0 = r := (raw_of_can hr hf0n).symm; clear hr) | go_in)
  go_loopg [4, 5] 4 (fun g f q wr => g ≤ 4 ∧ q = .int .i64 (4 - (g : Int)) ∧ ∃ r, f = .float .f64 r ∧ (r ≤ Fl.L g ∨ r = 9223372036854775808) ∧ Fl.phI g r (4 - g) = Fl.phI 4 f0 0 ∧ ∃ n, wr = w.drewN n)
  case atStart =>
    refine ⟨by omega, by rfl, f0, rfl, ?_, rfl, _, rfl⟩
    rcases HW.out with h | h
    · exact Or.inl h
    · exact Or.inr h
  case round =>
    obtain ⟨hg, rfl, r, rfl, hr, hph, n', rfl⟩ := hrel
    have hr' : r ≤ 4607182418800017408 ∨ r = 9223372036854775808 := by
      have := Fl.L_le gk
      rcases hr with hr | hr
      · exact Or.inl (by omega)
      · exact Or.inr hr
    rcases step_facts r gk (4 - gk) hr hg with h | ⟨h, hg1, r', h1, h2, h3⟩
    · rw [Fl.phI_stop _ _ _ h] at hph
      have HPH := Lib.hid hph
      obtain ⟨hn0, v, v1, v2, v3, v4⟩ := end_facts r hr'
      have sa : ∀ y, (y = v ∨ y = r) → ∀ w : World, Calls Try.prog 35 #[.float .f64 y] w (RetF .f64 (Fl.sineF y) w) := by
        rintro y (rfl | rfl) w
        · exact sineI _ (Fl.isN_num v3) (Fl.fits_num (v3.mono (by omega))).1 w
        · exact sineI _ (Fl.isN_num hn0) (Fl.fits_num (hn0.mono (by omega))).1 w
      have d1 := fun w : World => Fl.out_of (w := w) v1
      have e1 := Fl.dr_of v1
      have cr : Fl.can .f64 r = r := Fl.can_of _ _ (Fl.isN_num hn0)
      have o1 := over_s v3
      have c0 : Fl.can .f64 0 = 0 := by decide +kernel
      have o2 := over_s (hn0.mono (by omega))
      have HP := Lib.hid v2
      clear v1 v2 v3 v4 hn0 hph hr hr' HW hc hfit hx hf
      rcases (by omega : gk = 0 ∨ gk = 1 ∨ gk = 2 ∨ gk = 3 ∨ gk = 4) with rfl | rfl | rfl | rfl | rfl
      all_goals
        go_wp2_with (go_at_call 35; refine (sa _ (by first | exact Or.inl rfl | exact Or.inr rfl) _).mono ?_; rintro e w' ⟨ra, na, rfl, hra, rfl⟩; have HRA := Lib.hid hra; clear hra)
        go_ret
        refine RetC.mk ?_ ?_
        all_goals
          rename Hid (Fl.can .f64 _ = Fl.sineF v) => HV
          rename Hid (Fl.can .f64 _ = Fl.sineF r) => HR
          rw [← HPH.out]
          simp only [phRe, phIm, Nat.reduceSub, Nat.reduceEqDiff, if_true, if_false, reduceIte]
          try rw [HP.out]
          refine narrow_finalP _ _ _ (by simp [Fl.can_out, HV.out, HR.out, c0]) ?_
          first | exact o1.1 | exact o1.2 | exact o2.1 | exact o2.2
    · have d1 := fun w : World => Fl.out_of (w := w) h1
      have e1 := Fl.dr_of h1
      have cr : Fl.can .f64 r = r := Fl.can_of _ _ (Fl.isN_num (end_facts r hr').1)
      go_wp2
      go_roundg (gk - 1)
      case measure => omega
      case rel =>
        refine ⟨by omega, by first | rfl | go_num, r', rfl, Or.inl h2, ?_, _, rfl⟩
        rw [← hph, h3]
        congr 1
        omega

set_option maxHeartbeats 1000000 in
set_option maxRecDepth 100000 in
theorem phasorS (x : Nat) (hx : x < 18446744073709551616) (hf : Fl.finB64 x = true) (hb : Fl.bigB x = false) (w : World) :
    Calls Try.prog 36 #[.float .f64 x] w (RetC (phRe (Fl.phI 4 (Fl.fracF x) 0).1 (Fl.phI 4 (Fl.fracF x) 0).2) (phIm (Fl.phI 4 (Fl.fracF x) 0).1 (Fl.phI 4 (Fl.fracF x) 0).2) w) := by
  have hnum := Fl.num_small x hx hb
  have hn := Fl.isN_fin64 hf
  have hc := Fl.can_of .f64 x hn
  have hfit := (Fl.fits_num hnum).1
  have hfw := Fl.fracF_word hnum
  have hf0n : Fl.isN .f64 (Fl.fracF x) = false := Fl.isN_num (end_facts _ hfw).1
  have key : ∀ r, Fl.can .f64 r = Fl.fracF x → (r ≤ Fl.L 4 ∨ r = 9223372036854775808) ∧ Fl.phI 4 r (4 - 4) = Fl.phI 4 (Fl.fracF x) 0 := by
    intro r h
    have e := raw_of_can h hf0n
    rw [e]
    refine ⟨?_, rfl⟩
    rcases hfw with h | h
    · exact Or.inl h
    · exact Or.inr h
  have KEY := Lib.hid key
  have hfe : Fl.eq .f64 (Fl.F .sub .f64 x x) 0 = true := by rw [Fl.fin64, hf]
  obtain ⟨b1, b2, b3⟩ := Fl.big_facts x hx hf
  rw [hb, Bool.and_false] at b1 b2
  have c0 : Fl.can .f64 0 = 0 := by decide +kernel
  clear b3 hfw hnum hb hf0n key hf
  cases h0 : Fl.lt .f64 (Fl.F .sub .f64 x (FloatKind.f64.nearest (Fl.ti x))) 0
  all_goals
    have HF := Lib.hid (show Fl.fracF x = _ from by unfold Fl.fracF; simp only [h0, Bool.false_eq_true, if_true, if_false]; rfl)
    try simp only [Bool.false_eq_true, if_true, if_false] at h0
    go_enter Try.func36, Try.ntmps36
    go_wp2
    go_loopg [3, 4] 4 (fun g f q wr => g ≤ 4 ∧ q = .int .i64 (4 - (g : Int)) ∧ ∃ r, f = .float .f64 r ∧ (r ≤ Fl.L g ∨ r = 9223372036854775808) ∧ Fl.phI g r (4 - g) = Fl.phI 4 (Fl.fracF x) 0 ∧ ∃ n, wr = w.drewN n)
    case atStart =>
      refine ⟨by omega, by rfl, _, rfl, (KEY.out _ ?_).1, (KEY.out _ ?_).2, _, rfl⟩
      all_goals rw [HF.out]
      all_goals simp [Fl.can_out, Fl.can_lit_one, Fl.can_nearest, hc]
    case round =>
      obtain ⟨hg, rfl, r, rfl, hr, hph, n', rfl⟩ := hrel
      have hr' : r ≤ 4607182418800017408 ∨ r = 9223372036854775808 := by
        have := Fl.L_le gk
        rcases hr with hr | hr
        · exact Or.inl (by omega)
        · exact Or.inr hr
      rcases step_facts r gk (4 - gk) hr hg with h | ⟨h, hg1, r', h1, h2, h3⟩
      · rw [Fl.phI_stop _ _ _ h] at hph
        have HPH := Lib.hid hph
        obtain ⟨hn0, v, v1, v2, v3, v4⟩ := end_facts r hr'
        have sa : ∀ y, (y = v ∨ y = r) → ∀ w : World, Calls Try.prog 46 #[.float .f64 y] w (RetF .f64 (Fl.sineF y) w) := by
          rintro y (rfl | rfl) w
          · obtain ⟨g1, g2, g3⟩ := guard _ v4 v3
            exact sineS _ (Fl.isN_num v3) (Fl.fits_num (v3.mono (by omega))).1 g1 g2 g3 w
          · obtain ⟨g1, g2, g3⟩ := guard y (by omega) (hn0.mono (by omega))
            exact sineS _ (Fl.isN_num hn0) (Fl.fits_num (hn0.mono (by omega))).1 g1 g2 g3 w
        have d1 := fun w : World => Fl.out_of (w := w) v1
        have e1 := Fl.dr_of v1
        have cr : Fl.can .f64 r = r := Fl.can_of _ _ (Fl.isN_num hn0)
        have o1 := over_s v3
        have o2 := over_s (hn0.mono (by omega))
        have HP := Lib.hid v2
        clear v1 v2 v3 v4 hn0 hph hr hr' hc hfit hx hfe b1 b2 h0
        rcases (by omega : gk = 0 ∨ gk = 1 ∨ gk = 2 ∨ gk = 3 ∨ gk = 4) with rfl | rfl | rfl | rfl | rfl
        all_goals
          go_wp2_with (first | (go_at_call 46; refine (sa _ (by first | exact Or.inl rfl | exact Or.inr rfl) _).mono ?_; rintro e w' ⟨ra, na, rfl, hra, rfl⟩; have HRA := Lib.hid hra; clear hra) | go_in)
          go_ret
          refine RetC.mk ?_ ?_
          all_goals
            rename Hid (Fl.can .f64 _ = Fl.sineF v) => HV
            rename Hid (Fl.can .f64 _ = Fl.sineF r) => HR
            rw [← HPH.out]
            simp only [phRe, phIm, Nat.reduceSub, Nat.reduceEqDiff, if_true, if_false, reduceIte]
            try rw [HP.out]
            refine narrow_finalP _ _ _ (by simp [Fl.can_out, HV.out, HR.out, c0]) ?_
            first | exact o1.1 | exact o1.2 | exact o2.1 | exact o2.2
      · have d1 := fun w : World => Fl.out_of (w := w) h1
        have e1 := Fl.dr_of h1
        have cr : Fl.can .f64 r = r := Fl.can_of _ _ (Fl.isN_num (end_facts r hr').1)
        go_wp2
        go_roundg (gk - 1)
        case measure => omega
        case rel =>
          refine ⟨by omega, by first | rfl | go_num, r', rfl, Or.inl h2, ?_, _, rfl⟩
          rw [← hph, h3]
          congr 1
          omega

/-- what both answer -/
def phT (x : Nat) : Nat × Nat :=
  if Fl.finB64 x = true then (if Fl.bigB x = true then (1065353216, 0) else (phRe (Fl.phI 4 (Fl.fracF x) 0).1 (Fl.phI 4 (Fl.fracF x) 0).2, phIm (Fl.phI 4 (Fl.fracF x) 0).1 (Fl.phI 4 (Fl.fracF x) 0).2))
  else (Fl.qnan .f32, Fl.qnan .f32)

theorem can_narrow_nanP (w : World) (r : Nat) (h : Fl.isN .f64 r = true) : Fl.can .f32 (Fl.narrowOut w r) = Fl.qnan .f32 := by
  rw [Fl.can_narrowOut _ _ (Fl.over_nan h), Fl.can_nan h]; decide +kernel

theorem phTI (x : Nat) (hx : x < 18446744073709551616) (w : World) : Calls Try.prog 21 #[.float .f64 x] w (RetC (phT x).1 (phT x).2 w) := by
  cases hf : Fl.finB64 x with
  | false =>
    have HS : Hid (phT x = (Fl.qnan .f32, Fl.qnan .f32)) := by unfold Hid phT; rw [hf]; rfl
    rw [HS.out]
    have hf' : Fl.finB64 (Fl.can .f64 x) = false := (by cases h : Fl.isN .f64 x with | false => rw [Fl.can_of _ _ h, hf] | true => rw [Fl.can_nan h]; decide +kernel)
    have hN : Fl.isN .f64 9221120237041090561 = true := by decide +kernel
    go_enter Try.func21, Try.ntmps21
    go_wp2
    go_ret
    refine RetC.mk (can_narrow_nanP _ _ hN) (can_narrow_nanP _ _ hN)
  | true =>
    cases hb : Fl.bigB x with
    | false =>
      have HS : phT x = (phRe (Fl.phI 4 (Fl.fracF x) 0).1 (Fl.phI 4 (Fl.fracF x) 0).2, phIm (Fl.phI 4 (Fl.fracF x) 0).1 (Fl.phI 4 (Fl.fracF x) 0).2) := by unfold phT; rw [hf, hb]; rfl
      rw [HS]
      exact phasorI x hx hf hb w
    | true =>
      have HS : Hid (phT x = (1065353216, 0)) := by unfold Hid phT; rw [hf, hb]; rfl
      rw [HS.out]
      have hn := Fl.isN_fin64 hf
      have hc := Fl.can_of .f64 x hn
      obtain ⟨b1, b2, b3⟩ := Fl.big_facts x hx hf
      rw [hb] at b3
      have ca : Fl.can .f64 (x % 9223372036854775808) = x % 9223372036854775808 := Fl.can_of _ _ (by rw [Fl.isN_abs, hn])
      clear b1 b2
      go_enter Try.func21, Try.ntmps21
      go_wp2_with (first | (go_at_call 34; refine (abs64 _ hx _).mono ?_; rintro e w' ⟨rfl, rfl⟩) | go_in)
      go_ret
      first | exact RetC.mk (by decide +kernel) (by decide +kernel) | exact RetC.mk0 (by decide +kernel) (by decide +kernel)

theorem phTS (x : Nat) (hx : x < 18446744073709551616) (w : World) : Calls Try.prog 36 #[.float .f64 x] w (RetC (phT x).1 (phT x).2 w) := by
  cases hf : Fl.finB64 x with
  | false =>
    have HS : Hid (phT x = (Fl.qnan .f32, Fl.qnan .f32)) := by unfold Hid phT; rw [hf]; rfl
    rw [HS.out]
    have hfe : Fl.eq .f64 (Fl.F .sub .f64 (Fl.can .f64 x) (Fl.can .f64 x)) 0 = false := by rw [Fl.fin64]; exact (by cases h : Fl.isN .f64 x with | false => rw [Fl.can_of _ _ h, hf] | true => rw [Fl.can_nan h]; decide +kernel)
    go_enter Try.func36, Try.ntmps36
    go_wp2
    go_ret
    exact RetC.mk (by decide +kernel) (by decide +kernel)
  | true =>
    cases hb : Fl.bigB x with
    | false =>
      have HS : phT x = (phRe (Fl.phI 4 (Fl.fracF x) 0).1 (Fl.phI 4 (Fl.fracF x) 0).2, phIm (Fl.phI 4 (Fl.fracF x) 0).1 (Fl.phI 4 (Fl.fracF x) 0).2) := by unfold phT; rw [hf, hb]; rfl
      rw [HS]
      exact phasorS x hx hf hb w
    | true =>
      have HS : Hid (phT x = (1065353216, 0)) := by unfold Hid phT; rw [hf, hb]; rfl
      rw [HS.out]
      have hn := Fl.isN_fin64 hf
      have hc := Fl.can_of .f64 x hn
      have hfe : Fl.eq .f64 (Fl.F .sub .f64 x x) 0 = true := by rw [Fl.fin64, hf]
      obtain ⟨b1, b2, b3⟩ := Fl.big_facts x hx hf
      rw [hb] at b1 b2
      cases hs : decide (x < 9223372036854775808)
      all_goals
        have hs2 : decide (9223372036854775808 ≤ x) = !decide (x < 9223372036854775808) := by rw [← decide_not]; congr 1; exact propext ⟨fun h => by omega, fun h => by omega⟩
        rw [hs2] at b2
        rw [hs] at b1 b2
        simp only [Bool.not_true, Bool.not_false, Bool.and_true, Bool.true_and, Bool.false_and] at b1 b2
        clear hs2 hs b3
        go_enter Try.func36, Try.ntmps36
        go_wp2
        go_ret
        exact RetC.mk (by decide +kernel) (by decide +kernel)

theorem walk_FnExactPhasorOf (a0 : Nat) (w0 : (Lit.float .f64 a0).wf = true) (w : World) :
    Calls Try.prog 7 #[.float .f64 a0] w fun e w' => e = .returned (.bool true) ∧ Grown w w' := by
  have hx := Fl.wf64 w0
  go_enter Try.func7, Try.ntmps7
  go_wp2_with (first | (go_at_call 36; refine (phTS _ hx _).mono ?_; rintro e w' ⟨r1, i1, n1, rfl, hr1, hi1, rfl⟩; have HR1 := Lib.hid hr1; have HI1 := Lib.hid hi1; clear hr1 hi1) | (go_at_call 21; refine (phTI _ hx _).mono ?_; rintro e w' ⟨r2, i2, n2, rfl, hr2, hi2, rfl⟩; have HR2 := Lib.hid hr2; have HI2 := Lib.hid hi2; clear hr2 hi2) | (go_at_call 15; refine (sameF _ _ (by simp only [Fl.can_widenOut, HR1.out, HR2.out, HI1.out, HI2.out]) _).mono ?_; rintro e w' ⟨rfl, n, rfl⟩) | go_in)
  all_goals go_ret
  all_goals exact ⟨rfl, grown_drewN (Grown.refl _) _⟩
end Go.Proofs.Yteoedcbnffkjkaa
