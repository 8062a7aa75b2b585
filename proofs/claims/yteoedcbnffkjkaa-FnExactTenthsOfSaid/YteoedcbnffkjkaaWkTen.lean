/-
  Walk of the law FnExactTenthsOf: for every input it returns true and writes nothing. No condition.
-/
import Derived.Test.YteoedcbnffkjkaaWkLn
namespace Go.Proofs.Yteoedcbnffkjkaa
open Go.RowKit
set_option linter.unusedVariables false
set_option linter.unusedSimpArgs false
namespace Fl
open Ieee
/-- math.Floor of a number. -/
def floorF (x : Nat) : Nat := FloatKind.f64.format.write ((FloatKind.f64.format.read x).integral .down)
theorem cut_down (s : Bool) (n d : Nat) : Toward.cut .down s n d ≤ n / 2 ^ d + 1 := by
  have hb : ∀ b : Bool, b.toNat ≤ 1 := fun b => by cases b <;> decide
  unfold Toward.cut
  simp only [Nat.shiftLeft_eq, Nat.one_mul]
  by_cases h : d ≤ n.log2 + 2
  · rw [Nat.min_eq_left h]
    exact Nat.add_le_add_left (hb _) _
  · rw [Nat.min_eq_right (by omega)]
    have h1 : n < 2 ^ (n.log2 + 1) := Nat.lt_log2_self
    have h2 : 2 ^ (n.log2 + 2) = 2 * 2 ^ (n.log2 + 1) := by rw [Nat.pow_succ, Nat.mul_comm]
    rw [Nat.div_eq_of_lt (by omega)]
    exact Nat.le_trans (Nat.add_le_add_left (hb _) _) (Nat.add_le_add_right (Nat.zero_le _) 1)
theorem floor_num {x : Nat} (h : Num x 52) : Num (floorF x) 53 := by
  obtain ⟨s, m, e, h1, h2, h3⟩ := h
  unfold floorF
  rw [h1]
  unfold Datum.integral
  simp only
  refine num_write _ _ _ 53 (by omega) (by omega) (vle_of _ _ _ 0 (by omega) (by omega) ?_ 52)
  have hw : m <<< e.toNat / 2 ^ (-e).toNat ≤ 2 ^ 52 := by
    rw [whole_eq m e h2]
    rw [show ((52 : Int) + 1074).toNat = 52 + off by have := off_eq; omega, Nat.pow_add] at h3
    exact Nat.div_le_of_le_mul (Nat.le_trans h3 (Nat.le_of_eq (Nat.mul_comm _ _)))
  have := cut_down s (m <<< e.toNat) (-e).toNat
  rw [show ((0 : Int) + 0).toNat = 0 from rfl, Nat.pow_zero, Nat.mul_one, show ((53 : Int) + 0).toNat = 53 from rfl]
  omega
theorem fits_num62 {x : Nat} (h : Num x 62) : fits x = true := by
  obtain ⟨s, m, e, h1, h2, h3⟩ := h
  have hw : m <<< e.toNat / 2 ^ (-e).toNat ≤ 2 ^ 62 := by
    rw [whole_eq m e h2]
    rw [show ((62 : Int) + 1074).toNat = 62 + off by have := off_eq; omega, Nat.pow_add] at h3
    exact Nat.div_le_of_le_mul (Nat.le_trans h3 (Nat.le_of_eq (Nat.mul_comm _ _)))
  unfold fits
  rw [h1, toInt_num]
  generalize m <<< e.toNat / 2 ^ (-e).toNat = n at *
  simp only [signed, Nat.shiftLeft_zero, Bool.and_eq_true, decide_eq_true_eq]
  split <;> omega
theorem run_floorAux {P : Program} (w : World) (d : Datum) (h : d.isNaN = false) (k : Bool → Nat → Sem Value) :
    Sem.run P (match d with | .nan s t => k s t | d => pure (Value.float .f64 (FloatKind.f64.encode (d.integral .down)))) w = .ok (.float .f64 (FloatKind.f64.encode (d.integral .down))) w := by
  cases d with
  | nan s t => cases h
  | infinity s => rfl
  | number s m e => rfl
theorem run_floorRaw {P : Program} (w : World) (x : Nat) (h : isN .f64 x = false) : (Extern.MathFloor.toIntegral "math.archFloor" .down #[.float .f64 x]).run P w = .ok (.float .f64 (floorF x)) w :=
  run_floorAux w (FloatKind.f64.decode x) h _
/-- the tenths of decibels, as a float64 -/
def tenF (l : Nat) : Nat := F .add .f64 (F .mul .f64 l 4631308968768463603) 4602678819172646912
theorem ten_num {l : Nat} (h : Num l 45) : Num (tenF l) 52 := by
  have h1 := num_mul 51 h (num_lit 4631308968768463603 6 (by decide +kernel) (by omega)) ⟨by omega, by omega, by omega⟩ (by omega) (by omega)
  exact num_add 52 h1 (num_lit 4602678819172646912 0 (by decide +kernel) (by omega)) ⟨by omega, by omega, by omega, by omega⟩
end Fl
@[go_sem] theorem ext_floor (x : Nat) (h : Fl.isN .f64 x = false) (w : World) : (callFunc 44 #[.float .f64 x]).run Try.prog w = .ok (.value (.float .f64 (Fl.floorF x))) w := by rw [run_callFunc_extern (e := Extern.MathFloor.toIntegral "math.archFloor" .down) Try.func44 (by kernel_rfl) (by kernel_rfl) (by kernel_rfl) (by kernel_rfl), Fl.run_floorRaw w x h]; rfl
theorem can_lit_db : Fl.can .f64 4631308968768463603 = 4631308968768463603 := by decide +kernel
attribute [local go_sem] can_lit_db Fl.can_lit_half

/-- The tenths of decibels of a power. -/
inductive TenT (x : Nat) (v : Int) (b : Bool) : Prop
  | no (h : Fl.finB32 (Fl.can .f32 x) = false ∨ Fl.le .f32 (Fl.can .f32 x) 0 = true) (hv : v = 0) (hb : b = false) : TenT x v b
  | pos (h0 : x ≠ 0) (hr : x < 2139095040) (hv : v = Fl.ti (Fl.floorF (Fl.tenF (Fl.logF (Fl.wideRung x))))) (hb : b = true) : TenT x v b
theorem tenT (x : Nat) (hx : x < 4294967296) : ∃ v b, TenT x v b := by
  rcases Fl.kind x hx with h | ⟨s, h⟩ | ⟨r, h, h0, hr⟩ | h | ⟨h0, hr⟩
  · exact ⟨_, _, .no (Or.inl (Fl.fin32_nan h).1) rfl rfl⟩
  · refine ⟨_, _, .no (Or.inr ?_) rfl rfl⟩
    subst h; cases s <;> decide +kernel
  · refine ⟨_, _, .no (Or.inr ?_) rfl rfl⟩
    have hn : Fl.isN .f32 x = false := by rw [h]; exact Fl.isN_word .f32 true r (by rw [Fl.c32_inf]; exact hr)
    rw [Fl.can_of _ _ hn, h]
    unfold Fl.le
    rw [(Fl.word_facts .f32 true r (by rw [Fl.c32_inf]; exact hr)).2.1]
    simp [h0]
  · refine ⟨_, _, .no (Or.inl ?_) rfl rfl⟩
    subst h; decide +kernel
  · exact ⟨_, _, .pos h0 hr rfl rfl⟩

theorem ten_facts (x : Nat) (h0 : x ≠ 0) (hr : x < 2139095040) : Fl.finB32 (Fl.can .f32 x) = true ∧ Fl.le .f32 (Fl.can .f32 x) 0 = false ∧ Fl.isN .f32 x = false ∧ Fl.widen x = Fl.wideRung x := by
  obtain ⟨R, hR, hR1, hR2, hR3⟩ := Fl.widen_word false x (by omega)
  rw [Fl.word64, if_neg (by decide), hR3 hr] at hR
  have hR : Fl.widen x = Fl.wideRung x := hR
  have hn : Fl.isN .f32 x = false := Fl.isN_word .f32 false x (by rw [Fl.c32_inf]; omega)
  have hw := Fl.word_facts .f32 false x (by rw [Fl.c32_inf]; omega)
  have q0 := Fl.can_of .f32 x hn
  refine ⟨by rw [q0]; unfold Fl.finB32; exact decide_eq_true (by omega), ?_, hn, hR⟩
  rw [q0]
  have e1 : Fl.eq .f32 x 0 = decide (x = 0) := hw.1
  have e2 : Fl.lt .f32 x 0 = (false && decide (x ≠ 0)) := hw.2.1
  unfold Fl.le
  rw [e1, e2]; simp [h0]

def RetTen (v : Int) (b : Bool) (w : World) (e : Ending) (w' : World) : Prop := ∃ n, e = .returned (.tuple #[.int .i64 v, .bool b]) ∧ w' = w.drewN n

theorem ti_same (a : Nat) (l : Nat) (hl : Fl.Num l 45) (ha : Fl.can .f64 a = Fl.tenF l) : a = Fl.tenF l := by
  have h1 := Fl.isN_num (Fl.ten_num hl)
  have h2 : Fl.isN .f64 a = false := by rw [← Fl.isN_can, ha]; exact h1
  rw [Fl.can_of _ _ h2] at ha; exact ha

theorem floorC (a l : Nat) (hl : Fl.Num l 45) (ha : Fl.can .f64 a = Fl.tenF l) (w : World) : Calls Try.prog 32 #[.float .f64 a] w fun e w' => e = .returned (.float .f64 (Fl.floorF (Fl.tenF l))) ∧ w = w' := by
  have hn := Fl.isN_num (Fl.ten_num hl)
  rw [ti_same a l hl ha]
  generalize Fl.tenF l = y at *
  clear ha hl
  go_enter Try.func32, Try.ntmps32
  go_wp2
  go_ret
  exact ⟨rfl, rfl⟩

set_option maxRecDepth 100000 in
theorem tenI (x : Nat) (v : Int) (b : Bool) (hx : x < 4294967296) (hv : TenT x v b) (w : World) : Calls Try.prog 17 #[.float .f32 x] w (RetTen v b w) := by
  rcases hv with ⟨h, hv, hb⟩ | ⟨h0, hr, hv, hb⟩
  · subst hv hb
    cases hf : Fl.finB32 (Fl.can .f32 x) with
    | false =>
      go_enter Try.func17, Try.ntmps17
      go_wp2
      go_ret2
      exact ⟨_, rfl, rfl⟩
    | true =>
      rw [hf] at h
      have hle : Fl.le .f32 (Fl.can .f32 x) 0 = true := h.resolve_left (by decide)
      clear h
      go_enter Try.func17, Try.ntmps17
      go_wp2
      go_ret2
      exact ⟨_, rfl, rfl⟩
  · subst hb
    have HV := Lib.hid hv
    clear hv
    obtain ⟨q1, q2, hn, hR⟩ := ten_facts x h0 hr
    have l0 := Fl.wideRung_lo x h0 hr
    have l1 := Fl.wideRung_lt x hr
    have hnum := logF_num (Fl.wideRung x) l0 l1
    have HN := Lib.hid hnum
    have hf1 := Fl.isN_num (Fl.ten_num hnum)
    have hf2 := Fl.fits_num62 ((Fl.floor_num (Fl.ten_num hnum)).mono (by omega))
    clear hnum
    go_enter Try.func17, Try.ntmps17
    have hfi := Fl.isN_num (Fl.floor_num (Fl.ten_num HN.out))
    go_wp2_with (first | (go_at_call 28; refine (logI _ l0 l1 _).mono ?_; rintro e w' ⟨r, n, rfl, hr', rfl⟩; have HR := Lib.hid hr'; clear hr') | (go_at_call 32; refine (floorC _ _ HN.out (by simp [Fl.can_out, HR.out, can_lit_db, Fl.can_lit_half, Fl.tenF]) _).mono ?_; rintro e w' ⟨rfl, rfl⟩) | go_in)
    go_ret2
    exact ⟨_, by rw [HV.out]; rfl, rfl⟩

set_option maxRecDepth 100000 in
theorem tenS (x : Nat) (v : Int) (b : Bool) (hx : x < 4294967296) (hv : TenT x v b) (w : World) : Calls Try.prog 16 #[.float .f32 x] w (RetTen v b w) := by
  rcases hv with ⟨h, hv, hb⟩ | ⟨h0, hr, hv, hb⟩
  · subst hv hb
    cases hf : Fl.finB32 (Fl.can .f32 x) with
    | false =>
      go_enter Try.func16, Try.ntmps16
      go_wp2
      go_ret2
      exact ⟨_, rfl, rfl⟩
    | true =>
      rw [hf] at h
      have hle : Fl.le .f32 (Fl.can .f32 x) 0 = true := h.resolve_left (by decide)
      clear h
      go_enter Try.func16, Try.ntmps16
      go_wp2
      go_ret2
      exact ⟨_, rfl, rfl⟩
  · subst hb
    have HV := Lib.hid hv
    clear hv
    obtain ⟨q1, q2, hn, hR⟩ := ten_facts x h0 hr
    have l0 := Fl.wideRung_lo x h0 hr
    have l1 := Fl.wideRung_lt x hr
    have hnum := logF_num (Fl.wideRung x) l0 l1
    have HN := Lib.hid hnum
    have hf2 := Fl.fits_num62 ((Fl.floor_num (Fl.ten_num hnum)).mono (by omega))
    clear hnum
    have hfi := Fl.isN_num (Fl.floor_num (Fl.ten_num HN.out))
    go_enter Try.func16, Try.ntmps16
    go_wp2_with (first | (go_at_call 43; refine (logS _ l0 l1 _).mono ?_; rintro e w' ⟨r, n, rfl, hr', rfl⟩; have HR := Lib.hid hr'; clear hr') | (go_at_call 32; refine (floorC _ _ HN.out (by simp [Fl.can_out, HR.out, can_lit_db, Fl.can_lit_half, Fl.tenF]) _).mono ?_; rintro e w' ⟨rfl, rfl⟩) | go_in)
    go_ret2
    exact ⟨_, by rw [HV.out]; rfl, rfl⟩

theorem walk_FnExactTenthsOf (a0 : Nat) (w0 : (Lit.float .f32 a0).wf = true) (w : World) :
    Calls Try.prog 5 #[.float .f32 a0] w fun e w' => e = .returned (.bool true) ∧ Grown w w' := by
  have hx := Fl.wf32 w0
  obtain ⟨v, b, hv⟩ := tenT a0 hx
  go_enter Try.func5, Try.ntmps5
  go_wp2_with (first | (go_at_call 16; refine (tenS _ _ _ hx hv _).mono ?_; rintro e w' ⟨n1, rfl, rfl⟩) | (go_at_call 17; refine (tenI _ _ _ hx hv _).mono ?_; rintro e w' ⟨n2, rfl, rfl⟩) | go_in)
  all_goals go_ret
  all_goals exact ⟨by simp, grown_drewN (Grown.refl _) _⟩
end Go.Proofs.Yteoedcbnffkjkaa
