/-
  A list of float32 that came in, opened. No condition.
-/
import Derived.Test.YtmlodheanckadaaDoorWkTo
import Derived.WalkKit
import Derived.ProofKit
import Derived.OpenShut
import Derived.ChangeOld
import Derived.Below
import Derived.Deep.Slices
namespace Go.Proofs.YtmlodheanckadaaDoor
open Go.ChangeShapes Go.WideShapes Go.ChangeAt Go.RowKit Go.Deep
set_option linter.unusedVariables false

theorem trod_float_wf {H : Type} {enc : TypeId × Value → H} {P : Program} {w : World} {base : Nat} {spare : Nat → Bool} {held : Bool} {t : TypeId} {n : Nat} {v : Value} {x : DataW H × List MemPlace} (ht : P.underlying t = some (.float .f32))
    (h : DataW.trod enc P w base spare held n t [v] = some x) : ∃ b, v = .float .f32 b ∧ b < 4294967296 := by
  cases n with
  | zero => simp [DataW.trod] at h
  | succ n =>
    simp only [DataW.trod, ht] at h
    cases v <;> simp_all
    rename_i k b
    obtain ⟨⟨rfl, h2⟩, _⟩ := h
    exact Fl.wf32 h2
/-- The bits that a cell holds. -/
def bitsOfV (v : Value) : Nat := match v with | .float .f32 b => b % 4294967296 | _ => 0
theorem bitsOfV_lt (v : Value) : bitsOfV v < 4294967296 := by
  unfold bitsOfV
  split
  · exact Nat.mod_lt _ (by decide)
  · decide

set_option maxRecDepth 100000 in
theorem open_row_float32 {H : Type} {enc : TypeId × Value → H} {W : World} {base : Nat} {v : Value} {d : DataW H} {p : List MemPlace} (hv : Value.okWide Tryd.prog W .any base 36 v) (h : DataW.Trod enc Tryd.prog W 0 (fun _ => true) true 36 v d p) :
    ∃ a len cap f, v = .slice a len cap ∧ (SrcF W a len f ∧ ∀ i, f i < 4294967296) := by
  obtain ⟨a0, len0, cap0, rfl⟩ := okWide_slice Tryd.underlying36 hv
  obtain ⟨fuel, hf⟩ := h
  rcases open_slice1 Tryd.underlying36 (by kernel_rfl) hf with ⟨hcs, _⟩ | ⟨x, l, c, m, n, V, D, Pl, hcs, _, hl, hm, hz, _, hx⟩
  · simp [Value.cells] at hcs
    obtain ⟨rfl, rfl, rfl⟩ := hcs
    exact ⟨_, _, _, fun _ => 0, rfl, .inl rfl, fun _ => Nat.zero_lt_succ _⟩
  · simp [Value.cells] at hcs
    obtain ⟨rfl, rfl, rfl⟩ := hcs
    refine ⟨_, _, _, fun i => bitsOfV (V i), rfl, ?_, fun i => bitsOfV_lt _⟩
    by_cases h0 : len0 = 0
    · exact .inl h0
    · obtain ⟨b, off, spot⟩ := x
      simp only [if_true] at hz
      have h00 := (hx 0 (by omega)).1
      have hspot : spot = none := by simpa [Addr.add] using World.cell?_spot h00
      subst hspot
      refine .inr ⟨b, off, rfl, World.block_lt_of_cell? _ _ h00, fun i hi => ?_⟩
      obtain ⟨c1, c2⟩ := hx i (by omega)
      obtain ⟨u, hu, hlt⟩ := trod_float_wf Tryd.underlying56 c2
      rw [Addr.add_lit] at c1
      rw [c1, hu]
      simp only [hu, bitsOfV, Nat.mod_eq_of_lt hlt]
end Go.Proofs.YtmlodheanckadaaDoor
