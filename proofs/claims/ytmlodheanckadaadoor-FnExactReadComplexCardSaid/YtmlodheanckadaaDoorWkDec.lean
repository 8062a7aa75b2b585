/-
  Walk of the law FnExactDecimal, where the library's table of powers of ten holds what it was laid with: it returns true and writes nothing that was there. No condition.
-/
import Derived.Test.YtmlodheanckadaaDoorDec
import Derived.Test.YtmlodheanckadaaDoorShA
import Derived.Below
import Derived.Lib.LaidTab
namespace Go.Proofs.YtmlodheanckadaaDoor
open Go.RowKit Go.Deep
set_option linter.unusedVariables false
set_option linter.unusedSimpArgs false

theorem since_grow (w : World) (k : Nat) (os : Array Obj) : w.Since w.heap.size (Sort.grow (w.drewN k) os) := by
  refine ⟨rfl, rfl, rfl, ?_, fun i hi => ?_⟩
  · show w.heap.size ≤ (w.heap ++ os).size
    simp
  · show (w.heap ++ os)[i]? = w.heap[i]?
    rw [Array.getElem?_append_left hi]
theorem below_of_since {w u : World} (h : w.Since w.heap.size u) : Below w.heap.size w u := ⟨h.os, h.tape, h.output, h.size, h.block⟩
theorem since_of_below {w u : World} (h : Below w.heap.size w u) : w.Since w.heap.size u := ⟨h.os, h.tape, h.output, h.size, h.block⟩
theorem gPow : Tryd.prog.globalNamed "internal/strconv.uint64pow10" = some 1 := by kernel_rfl
/-- The table of powers of ten holds what it was laid with. -/
def Pow (w : World) : Prop := Lib.TabIs Tryd.prog w "internal/strconv.uint64pow10" .u64 Lib.pow10Tab
theorem Pow.since {w u : World} (h : Pow w) (s : w.Since w.heap.size u) : Pow u := by
  have hc := Lib.TabIs.cell h gPow 0 (by decide)
  have := World.block_lt_of_cell? _ _ hc
  unfold Pow Lib.TabIs at h ⊢
  rw [s.var gPow this]
  exact h

theorem decI (n : Int) (hn1 : -9223372036854775808 ≤ n) (hn2 : n ≤ 9223372036854775807) (w : World) (hp : Pow w) :
    Calls Tryd.prog 11 #[.int .i64 n] w fun e w' => e = .returned (.string ⟨(Lib.itoa n).toArray⟩) ∧ w.Since w.heap.size w' := by
  have N1 := Lib.hid hn1
  have N2 := Lib.hid hn2
  clear hn1 hn2
  go_enter Tryd.func11, Tryd.ntmps11
  go_wp2_with (go_at_call 36; refine (Tryd.strconv_FormatInt_10 n N1.out N2.out _ hp).mono ?_; rintro e w' ⟨rfl, k, os, hw⟩; subst w')
  go_ret
  exact ⟨rfl, since_grow _ _ _⟩

theorem decSp (n : Int) (hn1 : -9223372036854775808 ≤ n) (hn2 : n ≤ 9223372036854775807) (w : World) :
    Calls Tryd.prog 10 #[.int .i64 n] w fun e w' => e = .returned (.string ⟨(Lib.itoa n).toArray⟩) ∧ w.Since w.heap.size w' := by
  have N1 := Lib.hid hn1
  have N2 := Lib.hid hn2
  clear hn1 hn2
  go_enter Tryd.func10, Tryd.ntmps10
  go_wp2_with (go_at_call 35; refine (decS n N1.out N2.out _).mono ?_; rintro e w' ⟨rfl, hS⟩)
  go_ret
  exact ⟨rfl, hS⟩

theorem wf_i64 {n : Int} (h : (Lit.int .i64 n).wf = true) : -9223372036854775808 ≤ n ∧ n ≤ 9223372036854775807 := by
  simp [Lit.wf] at h
  have e1 : IntKind.i64.min = -9223372036854775808 := by decide
  have e2 : IntKind.i64.max = 9223372036854775807 := by decide
  omega

theorem walk_FnExactDecimal (n : Int) (hn : (Lit.int .i64 n).wf = true) (w : World) (hp : Pow w) :
    Calls Tryd.prog 3 #[.int .i64 n] w fun e w' => e = .returned (.bool true) ∧ Below w.heap.size w w' := by
  have N := Lib.hid (wf_i64 hn)
  clear hn
  go_enter Tryd.func3, Tryd.ntmps3
  go_wp2_with (first
    | (go_at_call 10; refine (decSp n N.out.1 N.out.2 _).mono ?_; rintro e w1 ⟨rfl, S1⟩; have hp1 := hp.since S1)
    | (go_at_call 11; refine (decI n N.out.1 N.out.2 _ hp1).mono ?_; rintro e w2 ⟨rfl, S2⟩))
  go_ret
  exact ⟨rfl, below_of_since (since_up S1 S2)⟩
end Go.Proofs.YtmlodheanckadaaDoor
