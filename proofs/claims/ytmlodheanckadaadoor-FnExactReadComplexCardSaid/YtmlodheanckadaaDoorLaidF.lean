/-
  What the rows' condition gives the walks: the table of powers of ten and the library's two errors hold what they were laid with. No condition.
-/
import Derived.Test.YtmlodheanckadaaDoorRows
import Derived.Test.YtmlodheanckadaaDoorWkRd
import Derived.Test.YtmlodheanckadaaDoorWkFb
import Derived.MakeChecks
import Derived.Stop.LaidErr
namespace Go.Proofs.YtmlodheanckadaaDoor
open Go.RowKit
set_option linter.unusedVariables false

theorem star : "*" ++ "errors.errorString" = "*errors.errorString" := by decide
theorem rowErr (u : TypeId) (h : Tryd.prog.typeName? 3 u = some "*errors.errorString") : u = 127 :=
  typeName_ptr_named (nm := "errors.errorString") (by rw [star]; kernel_rfl) (by kernel_rfl) (by decide) u (by rw [star]; exact h)
theorem err_of_laid {n : String} {g : Nat} {text : List UInt8} {r : List (String × DataW Unit)} {W : World} (h : laidMet Tryd.prog ((n, .iface "*errors.errorString" (.ptr (.agg [.lit (.string text)]))) :: r) W) (hg : Tryd.prog.globalNamed n = some g)
    (ht : (Tryd.prog.globals[g]?).map (·.type) = some 51) : ∃ t p, W.var? Tryd.prog n = some #[.iface t p] := by
  obtain ⟨a0, s0, hv0, -, -, -⟩ := laid_sentinel h hg ht Tryd.underlying51 rowErr Tryd.underlying127 Tryd.underlying129 rfl rfl Tryd.underlying9 (by kernel_rfl) (by kernel_rfl)
  exact ⟨_, _, hv0⟩
/-- Rows with three listed variables. -/
theorem pow3 {W : World} {r : List (String × DataW Unit)} (h : laidMet Tryd.prog (("math/bits.deBruijn32tab", Rows.laid_math_bits_deBruijn32tab) :: ("math/bits.deBruijn64tab", Rows.laid_math_bits_deBruijn64tab) :: ("internal/strconv.uint64pow10", Lib.tabData .u64 Lib.pow10Tab) :: r) W) : Pow W :=
  Lib.tabIs_of_head gPow (by kernel_rfl) Tryd.underlying110 Tryd.underlying77 (by kernel_rfl) (by kernel_rfl) h.tail.tail
def deb64 : List Int := [0, 1, 56, 2, 57, 49, 28, 3, 61, 58, 42, 50, 38, 29, 17, 4, 62, 47, 59, 36, 45, 43, 51, 22, 53, 39, 33, 30, 24, 18, 12, 5, 63, 55, 48, 27, 60, 41, 37, 16, 46, 35, 44, 21, 52, 32, 23, 11, 54, 26, 40, 15, 34, 20, 31, 10, 25, 14, 19, 9, 13, 8, 7, 6]
/-- The table of trailing zeros, the second on each row's list. -/
theorem tzOf {W : World} {x : String × DataW Unit} {r : List (String × DataW Unit)} (h : laidMet Tryd.prog (x :: ("math/bits.deBruijn64tab", Rows.laid_math_bits_deBruijn64tab) :: r) W) : Tz W := by
  have h2 : laidMet Tryd.prog (("math/bits.deBruijn64tab", Lib.tabData .u8 deb64) :: r) W := h.tail
  have ht := Lib.tabIs_of_head (g := 5) (by kernel_rfl) (by kernel_rfl) Tryd.underlying138 Tryd.underlying5 (by kernel_rfl) (by kernel_rfl) h2
  exact Lib.TabIs.cell ht (by kernel_rfl) 15 (by decide)
/-- Rows with five listed variables. -/
theorem facts5 {W : World} {r : List (String × DataW Unit)} (h : laidMet Tryd.prog (("math/bits.deBruijn32tab", Rows.laid_math_bits_deBruijn32tab) :: ("math/bits.deBruijn64tab", Rows.laid_math_bits_deBruijn64tab) :: ("internal/strconv.uint64pow10", Lib.tabData .u64 Lib.pow10Tab) :: ("strconv.ErrRange", Rows.laid_strconv_ErrRange) :: ("strconv.ErrSyntax", Rows.laid_strconv_ErrSyntax) :: r) W) : Pow W ∧ Errs W := by
  refine ⟨Lib.tabIs_of_head gPow (by kernel_rfl) Tryd.underlying110 Tryd.underlying77 (by kernel_rfl) (by kernel_rfl) h.tail.tail, err_of_laid h.tail.tail.tail.tail gSyn (by kernel_rfl), err_of_laid h.tail.tail.tail gRan (by kernel_rfl)⟩
/-- Rows with seven listed variables. -/
theorem facts7 {W : World} {r : List (String × DataW Unit)} (h : laidMet Tryd.prog (("math/bits.deBruijn32tab", Rows.laid_math_bits_deBruijn32tab) :: ("math/bits.deBruijn64tab", Rows.laid_math_bits_deBruijn64tab) :: ("internal/strconv.uint64pow10", Lib.tabData .u64 Lib.pow10Tab) :: ("unicode/utf8.acceptRanges", Rows.laid_unicode_utf8_acceptRanges) :: ("strconv.ErrRange", Rows.laid_strconv_ErrRange) :: ("strconv.ErrSyntax", Rows.laid_strconv_ErrSyntax) :: r) W) : Pow W ∧ Errs W := by
  refine ⟨Lib.tabIs_of_head gPow (by kernel_rfl) Tryd.underlying110 Tryd.underlying77 (by kernel_rfl) (by kernel_rfl) h.tail.tail, err_of_laid h.tail.tail.tail.tail.tail gSyn (by kernel_rfl), err_of_laid h.tail.tail.tail.tail gRan (by kernel_rfl)⟩
theorem facts7f {W : World} {r : List (String × DataW Unit)} (h : laidMet Tryd.prog (("math/bits.deBruijn32tab", Rows.laid_math_bits_deBruijn32tab) :: ("math/bits.deBruijn64tab", Rows.laid_math_bits_deBruijn64tab) :: ("internal/strconv.uint64pow10", Lib.tabData .u64 Lib.pow10Tab) :: ("unicode/utf8.acceptRanges", Rows.laid_unicode_utf8_acceptRanges) :: ("strconv.ErrRange", Rows.laid_strconv_ErrRange) :: ("strconv.ErrSyntax", Rows.laid_strconv_ErrSyntax) :: r) W) : Tz W ∧ Errs W :=
  ⟨tzOf h, (facts7 h).2⟩
end Go.Proofs.YtmlodheanckadaaDoor
