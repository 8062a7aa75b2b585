/-
  Walks of laws.toInt64S (a list of int64 is copied into memory of its own) and laws.eqInt64S. No condition but the lists' length (2^20).
-/
import Derived.Test.YtmlodheanckadaaDoorOwn
import Derived.Lib.Hide
namespace Go.Proofs.YtmlodheanckadaaDoor
open Go.RowKit Go.Deep
set_option linter.unusedVariables false
set_option linter.unusedSimpArgs false

/-- The cells of a list of int64 that came in (only its elements are read). -/
def SrcI (w : World) (a : Option Addr) (len : Nat) (f : Nat → Int) : Prop :=
  len = 0 ∨ ∃ b off, a = some ⟨b, off, none⟩ ∧ b < w.heap.size ∧ ∀ i, i < len → w.cell? ⟨b, off + i, none⟩ = some (.int .i64 (f i))
/-- A new row of int64 at the head of the heap, of which k are written. -/
def MidI (w wr : World) (len k : Nat) (f : Nat → Int) : Prop :=
  w.Since w.heap.size wr ∧ wr.heap.size = w.heap.size + 1 ∧ wr.rowIs w.heap.size 2 len (fun i => if i < k then .int .i64 (f i) else .int .i64 0)
theorem midI_start (w : World) (len : Nat) (f : Nat → Int) : MidI w (w.alloc (.cells (madeCells #[.int .i64 0] len) 2)) len 0 f :=
  ⟨(World.Since.refl _ w).alloc (Nat.le_refl _) _, by show (w.heap.push _).size = _; exact Array.size_push _, (World.rowIs_made w (.int .i64 0) len 2).congr fun i hi => by rw [if_neg (by omega)]⟩
theorem midI_step {w wr : World} {len k : Nat} {f : Nat → Int} (h : MidI w wr len k f) : MidI w (wr.setCell ⟨w.heap.size, k, none⟩ (.int .i64 (f k))) len (k + 1) f :=
  ⟨h.1.setCell (Nat.le_refl _) _, by rw [← h.2.1]; simp [World.setCell], (h.2.2.set k (.int .i64 (f k))).congr fun i hi => by
    by_cases e : i = k
    · subst e; simp
    · by_cases l : i < k
      · simp [e, l, show i < k + 1 by omega]
      · simp [e, l, show ¬ i < k + 1 by omega]⟩

theorem toI (a : Option Addr) (len cap : Nat) (f : Nat → Int) (w : World) (hl : len ≤ 1048576) (h : SrcI w a len f) :
    Calls Tryd.prog 15 #[.slice a len cap] w fun e w' => e = .returned (.slice (some ⟨w.heap.size, 0, none⟩) len len) ∧ MidI w w' len len f := by
  have hmk := run_make_row' (P := Tryd.prog) 27 2 (.int .i64 0) 8 Tryd.underlying27 (by kernel_rfl) rfl .i64 .i64 len (by omega) (by omega)
  have hs := midI_start w len f
  rcases h with rfl | ⟨b, off, rfl, hb, hc⟩
  · rw [show ((0 : Nat) : Int) = 0 from rfl] at hmk
    go_enter Tryd.func15, Tryd.ntmps15
    go_wp2
    go_loopg [4] 0 (fun g i wr => i = .int .i64 0 ∧ MidI w wr 0 0 f)
    case atStart => exact ⟨rfl, hs⟩
    case round =>
      obtain ⟨rfl, hM⟩ := hrel
      go_wp2
      go_ret
      exact ⟨rfl, hM⟩
  · go_enter Tryd.func15, Tryd.ntmps15
    go_wp2
    go_loopg [4] len (fun g i wr => ∃ k : Nat, k ≤ len ∧ g = len - k ∧ i = .int .i64 k ∧ MidI w wr len k f)
    case atStart => exact ⟨0, Nat.zero_le _, rfl, rfl, hs⟩
    case round =>
      obtain ⟨k, hk, rfl, rfl, hM⟩ := hrel
      clear hmk hs
      by_cases hlt : k < len
      · have g1 : wr.cell? ⟨b, off + k, none⟩ = some (.int .i64 (f k)) := by rw [hM.1.cell (a := ⟨b, off + k, none⟩) hb, hc k hlt]
        have g2 : wr.cell? ⟨w.heap.size, k, none⟩ = some (.int .i64 0) := by simpa using hM.2.2.cell hlt
        have g3 : wr.frozen? ⟨w.heap.size, k, none⟩ = false := hM.2.2.frozen k
        go_wp2
        go_roundg (len - (k + 1))
        case measure => omega
        case rel => exact ⟨k + 1, by omega, rfl, congrArg (Value.int .i64) (by omega), midI_step hM⟩
      · obtain rfl : k = len := by omega
        go_wp2
        go_ret
        exact ⟨rfl, hM⟩

theorem eqI (b1 o1 b2 o2 len cap1 cap2 : Nat) (f : Nat → Int) (w : World) (hl : len ≤ 1048576) (h1 : ∀ i, i < len → w.cell? ⟨b1, o1 + i, none⟩ = some (.int .i64 (f i))) (h2 : ∀ i, i < len → w.cell? ⟨b2, o2 + i, none⟩ = some (.int .i64 (f i))) :
    Calls Tryd.prog 17 #[.slice (some ⟨b1, o1, none⟩) len cap1, .slice (some ⟨b2, o2, none⟩) len cap2] w fun e w' => e = .returned (.bool true) ∧ ∃ n, w' = w.drewN n := by
  go_enter Tryd.func17, Tryd.ntmps17
  go_wp2
  go_loopg [5] len (fun g i wr => ∃ k n : Nat, k ≤ len ∧ g = len - k ∧ i = .int .i64 k ∧ wr = w.drewN n)
  case atStart => exact ⟨0, 0, Nat.zero_le _, rfl, rfl, rfl⟩
  case round =>
    obtain ⟨k, n0, hk, rfl, rfl, rfl⟩ := hrel
    by_cases hlt : k < len
    · have g1 := h1 k hlt
      have g2 := h2 k hlt
      clear h1 h2
      go_wp2
      go_region
      all_goals (try go_wp2)
      all_goals go_roundg (len - (k + 1))
      all_goals first | omega | exact ⟨k + 1, _, by omega, rfl, congrArg (Value.int .i64) (by omega), rfl⟩
    · obtain rfl : k = len := by omega
      go_wp2
      go_ret
      exact ⟨rfl, _, rfl⟩

/-- A row of int64 where it lies. -/
def RowI (u : World) (b len : Nat) (f : Nat → Int) : Prop := b < u.heap.size ∧ ∀ i, i < len → u.cell? ⟨b, 0 + i, none⟩ = some (.int .i64 (f i))
theorem rowI_made {u v : World} {len : Nat} {f : Nat → Int} (h : MidI u v len len f) : RowI v u.heap.size len f :=
  ⟨by have := h.2.1; omega, fun i hi => by rw [Nat.zero_add, h.2.2.cell hi, if_pos hi]⟩
theorem rowI_since {u v : World} {b len : Nat} {f : Nat → Int} (h : RowI u b len f) (s : u.Since u.heap.size v) : RowI v b len f :=
  ⟨Nat.lt_of_lt_of_le h.1 s.size, fun i hi => by rw [s.cell (a := ⟨b, 0 + i, none⟩) h.1]; exact h.2 i hi⟩
theorem rowI_drew {u : World} {b l : Nat} {f : Nat → Int} (h : RowI u b l f) (n : Nat) : RowI (u.drewN n) b l f := h
theorem srcI_since {w u : World} {a : Option Addr} {len : Nat} {f : Nat → Int} (h : SrcI w a len f) (k : w.Since w.heap.size u) : SrcI u a len f := by
  rcases h with h | ⟨b, off, h1, h2, h3⟩
  · exact Or.inl h
  · exact Or.inr ⟨b, off, h1, Nat.lt_of_lt_of_le h2 k.size, fun i hi => by rw [k.cell (a := ⟨b, off + i, none⟩) h2]; exact h3 i hi⟩
def Stage (n : Nat) : Prop := True
end Go.Proofs.YtmlodheanckadaaDoor
