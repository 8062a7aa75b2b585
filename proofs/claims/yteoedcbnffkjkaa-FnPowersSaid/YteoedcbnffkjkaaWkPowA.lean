/-
  Walk of impl.ExpNumber and of two helpers of the law FnPowers. No condition.
-/
import Derived.Test.YteoedcbnffkjkaaWkLn
import Derived.Test.YteoedcbnffkjkaaPowP
import Derived.Below
namespace Go.Proofs.Yteoedcbnffkjkaa
open Go.RowKit
set_option linter.unusedVariables false
set_option linter.unusedSimpArgs false

theorem can_lit_256 : Fl.can .f64 4643211215818981376 = 4643211215818981376 := by decide +kernel

set_option maxRecDepth 100000 in
theorem expI (x : Nat) (hn : Fl.isN .f32 x = false) (h1 : Fl.gt .f32 x 1128792064 = false) (h2 : Fl.lt .f32 x 3276275712 = false) (ho : Fl.over (Fl.expW x) = false) (w : World) :
    Calls Try.prog 11 #[.float .f32 x] w (RetF .f32 (Fl.expF x) w) := by
  have hc := Fl.can_of .f32 x hn
  have HC := Lib.hid hc
  have HO := Lib.hid ho
  clear ho
  have cw : Fl.can .f64 (Fl.widen x) = Fl.widen x := Fl.can_of _ _ (by rw [Fl.isN_widen, hn])
  have l1 : Fl.can .f32 1128792064 = 1128792064 := by decide +kernel
  have l2 : Fl.can .f32 3276275712 = 3276275712 := by decide +kernel
  go_enter Try.func11, Try.ntmps11
  go_wp2
  go_loopg [4, 5] 12 (fun g p k wr => g ≤ 12 ∧ k = .float .f64 (Fl.fl g) ∧ ∃ P n, p = .float .f64 P ∧ Fl.can .f64 P = Fl.pE (Fl.tE x) (12 - g) ∧ wr = w.drewN n)
  case atStart => exact ⟨by omega, by rfl, _, _, rfl, Fl.can_lit_one, rfl⟩
  case round =>
    obtain ⟨hg, rfl, P, n', rfl, hP, rfl⟩ := hrel
    have HP := Lib.hid hP
    clear hP
    by_cases hg1 : 1 ≤ gk
    · obtain ⟨c1, c2, c3⟩ := Fl.cntE gk hg1 hg
      have d1 := fun v : World => Fl.out_of (w := v) c1
      have e1 := Fl.dr_of c1
      clear c1
      go_wp2
      go_roundg (gk - 1)
      case measure => omega
      case rel =>
        refine ⟨by omega, rfl, _, _, rfl, ?_, rfl⟩
        rw [Fl.pE_step _ gk hg1 hg]
        simp [Fl.can_out, HP.out, HC.out, Fl.tE, Fl.can_lit_one, can_lit_256, c3, cw]
    · obtain rfl : gk = 0 := by omega
      have c5 := Fl.cnt_zero
      have HP2 : Hid (Fl.can .f64 P = Fl.pE (Fl.tE x) 12) := HP.out
      clear HP hg hg1
      go_wp2
      go_loopg [4, 27] 8 (fun g p k wr => g ≤ 8 ∧ k = .int .i64 (8 - (g : Int)) ∧ ∃ Q n, p = .float .f64 Q ∧ Fl.can .f64 Q = Fl.sE (Fl.pE (Fl.tE x) 12) (8 - g) ∧ wr = w.drewN n)
      case atStart => exact ⟨by omega, by rfl, _, _, rfl, HP2.out, rfl⟩
      case round =>
        obtain ⟨hg8, rfl, Q, n2, rfl, hQ, rfl⟩ := hrel
        have HQ := Lib.hid hQ
        clear hQ
        by_cases hg1 : 1 ≤ gk
        · go_wp2
          go_roundg (gk - 1)
          case measure => omega
          case rel =>
            refine ⟨by omega, congrArg (Value.int .i64) (by omega), _, _, rfl, ?_, rfl⟩
            rw [show 8 - (gk - 1) = (8 - gk) + 1 by omega]
            simp [Fl.can_out, HQ.out, Fl.sE]
        · obtain rfl : gk = 0 := by omega
          have HQ8 : Hid (Fl.can .f64 Q = Fl.expW x) := HQ.out
          go_wp2
          go_ret
          refine RetF.mk ?_
          rw [Fl.can_narrowOut _ _ (by rw [← Fl.over_can, HQ8.out]; exact HO.out), HQ8.out]
          rfl

theorem gapI (a b v : Nat) (hv : Fl.gapF (Fl.can .f64 a) (Fl.can .f64 b) = v) (w : World) : Calls Try.prog 12 #[.float .f64 a, .float .f64 b] w (RetF .f64 v w) := by
  have HV := Lib.hid hv
  clear hv
  cases h : Fl.lt .f64 (Fl.can .f64 a) (Fl.can .f64 b)
  all_goals
    go_enter Try.func12, Try.ntmps12
    go_wp2
    go_ret
    refine RetF.mk ?_
    rw [← HV.out]
    simp [Fl.can_out, Fl.gapF, h]

def IsRow (k : IntKind) (w : World) (a : Option Addr) (len cap : Nat) (zs : List Int) : Prop :=
  (a = none ∧ len = 0 ∧ cap = 0 ∧ zs = []) ∨
  ∃ x, a = some x ∧ len ≤ cap ∧ cap ≤ maxLen ∧ zs.length = cap ∧ (∀ i, i < zs.length → w.cell? (x.add i) = some (.int k (zs.getD i 0))) ∧ ∀ n ∈ zs, (Lit.int k n).wf = true

theorem longI (a0 : Option Addr) (len0 cap0 : Nat) (a1 : Option Addr) (len1 cap1 : Nat) (w : World) :
    Calls Try.prog 9 #[.slice a0 len0 cap0, .slice a1 len1 cap1] w fun e w' => e = .returned (.bool (decide ((1048576 : Int) < (len0 : Int)) || decide ((1048576 : Int) < (len1 : Int)))) ∧ w' = w := by
  by_cases L0 : (1048576 : Int) < (len0 : Int)
  all_goals
    by_cases L1 : (1048576 : Int) < (len1 : Int)
    all_goals
      go_enter Try.func9, Try.ntmps9
      go_wp2
      go_ret
      exact ⟨by simp [L0, L1], rfl⟩
end Go.Proofs.Yteoedcbnffkjkaa
