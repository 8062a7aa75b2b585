/-
  Walk of laws.toFloat32S: a list of float32 is copied into memory of its own. No condition but its length (2^20).
-/
import Derived.Test.YtmlodheanckadaaDoorWkSF
import Derived.Deep.LoopGhost
import Derived.Deep.OwnRows
namespace Go.Proofs.YtmlodheanckadaaDoor
open Go.RowKit Go.Deep
set_option linter.unusedVariables false
set_option linter.unusedSimpArgs false

@[go_sem] theorem run_store_float {P : Program} {w : World} {a : Addr} {m : Mode} (k : FloatKind) (n : Nat) : (store a (.float k n) m).run P w = stored P w a (.float k n) m := run_store P w a _ m rfl

/-- The cells of a list of float32 that came in (only its elements are read). -/
def SrcF (w : World) (a : Option Addr) (len : Nat) (f : Nat → Nat) : Prop :=
  len = 0 ∨ ∃ b off, a = some ⟨b, off, none⟩ ∧ b < w.heap.size ∧ ∀ i, i < len → w.cell? ⟨b, off + i, none⟩ = some (.float .f32 (f i))
/-- A new row of float32 at the head of the heap, of which k are written. -/
def MidF (w wr : World) (len k : Nat) (f : Nat → Nat) : Prop :=
  w.Since w.heap.size wr ∧ wr.heap.size = w.heap.size + 1 ∧ wr.rowIs w.heap.size 56 len (fun i => if i < k then .float .f32 (f i) else .float .f32 0)
theorem midF_start (w : World) (len : Nat) (f : Nat → Nat) : MidF w (w.alloc (.cells (madeCells #[.float .f32 0] len) 56)) len 0 f :=
  ⟨(World.Since.refl _ w).alloc (Nat.le_refl _) _, by show (w.heap.push _).size = _; exact Array.size_push _, (World.rowIs_made w (.float .f32 0) len 56).congr fun i hi => by rw [if_neg (by omega)]⟩
theorem midF_step {w wr : World} {len k : Nat} {f : Nat → Nat} (h : MidF w wr len k f) : MidF w (wr.setCell ⟨w.heap.size, k, none⟩ (.float .f32 (f k))) len (k + 1) f :=
  ⟨h.1.setCell (Nat.le_refl _) _, by rw [← h.2.1]; simp [World.setCell], (h.2.2.set k (.float .f32 (f k))).congr fun i hi => by
    by_cases e : i = k
    · subst e; simp
    · by_cases l : i < k
      · simp [e, l, show i < k + 1 by omega]
      · simp [e, l, show ¬ i < k + 1 by omega]⟩

theorem toF (a : Option Addr) (len cap : Nat) (f : Nat → Nat) (w : World) (hl : len ≤ 1048576) (h : SrcF w a len f) :
    Calls Tryd.prog 23 #[.slice a len cap] w fun e w' => e = .returned (.slice (some ⟨w.heap.size, 0, none⟩) len len) ∧ MidF w w' len len f := by
  have hmk := run_make_row' (P := Tryd.prog) 36 56 (.float .f32 0) 4 Tryd.underlying36 (by kernel_rfl) rfl .i64 .i64 len (by omega) (by omega)
  have hs := midF_start w len f
  rcases h with rfl | ⟨b, off, rfl, hb, hc⟩
  · rw [show ((0 : Nat) : Int) = 0 from rfl] at hmk
    go_enter Tryd.func23, Tryd.ntmps23
    go_wp2
    go_loopg [4] 0 (fun g i wr => i = .int .i64 0 ∧ MidF w wr 0 0 f)
    case atStart => exact ⟨rfl, hs⟩
    case round =>
      obtain ⟨rfl, hM⟩ := hrel
      go_wp2
      go_ret
      exact ⟨rfl, hM⟩
  · go_enter Tryd.func23, Tryd.ntmps23
    go_wp2
    go_loopg [4] len (fun g i wr => ∃ k : Nat, k ≤ len ∧ g = len - k ∧ i = .int .i64 k ∧ MidF w wr len k f)
    case atStart => exact ⟨0, Nat.zero_le _, rfl, rfl, hs⟩
    case round =>
      obtain ⟨k, hk, rfl, rfl, hM⟩ := hrel
      clear hmk hs
      by_cases hlt : k < len
      · have g1 : wr.cell? ⟨b, off + k, none⟩ = some (.float .f32 (f k)) := by rw [hM.1.cell (a := ⟨b, off + k, none⟩) hb, hc k hlt]
        have g2 : wr.cell? ⟨w.heap.size, k, none⟩ = some (.float .f32 0) := by simpa using hM.2.2.cell hlt
        have g3 : wr.frozen? ⟨w.heap.size, k, none⟩ = false := hM.2.2.frozen k
        go_wp2
        go_roundg (len - (k + 1))
        case measure => omega
        case rel => exact ⟨k + 1, by omega, rfl, congrArg (Value.int .i64) (by omega), midF_step hM⟩
      · obtain rfl : k = len := by omega
        go_wp2
        go_ret
        exact ⟨rfl, hM⟩
end Go.Proofs.YtmlodheanckadaaDoor
