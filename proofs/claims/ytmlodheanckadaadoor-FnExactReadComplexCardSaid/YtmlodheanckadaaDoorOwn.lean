/-
  Rows that a call makes itself and appends to: what is kept from round to round; a string out of a row of bytes. No condition.
-/
import Derived.Test.YtmlodheanckadaaDoorChecked
import Derived.WalkKit
import Derived.Deep.Draws
import Derived.Deep.LoopGhost
import Derived.Deep.OwnRows
import Derived.Laws.AppendOwn
import Derived.Laws.BytesString
import Derived.Laws.Cells
import Derived.Maps.AppendAt
import Derived.OwnWalk
import Derived.Below
import Derived.Lib.UnsafeStr
namespace Go.Proofs.YtmlodheanckadaaDoor
open Go.RowKit Go.Deep
set_option linter.unusedVariables false
set_option linter.unusedSimpArgs false

theorem since_mono {B B' : Nat} {w w' : World} (h : w.Since B w') (hB : B' ≤ B) : w.Since B' w' := ⟨h.os, h.tape, h.output, h.size, fun k hk => h.block k (Nat.lt_of_lt_of_le hk hB)⟩
theorem since_drewN {B : Nat} {w w' : World} (h : w.Since B w') (n : Nat) : w.Since B (w'.drewN n) := ⟨h.os, h.tape, h.output, h.size, h.block⟩
theorem since_up {w u v : World} (h : w.Since w.heap.size u) (k : u.Since u.heap.size v) : w.Since w.heap.size v := h.trans (since_mono k h.size)

/-- A row of the call's own (cells of one word), past B: what v holds are the xs. -/
def OwnV (w wr : World) (B : Nat) (T : TypeId) (v : Value) (xs : List Value) : Prop :=
  w.Since w.heap.size wr ∧ w.heap.size ≤ B ∧ B ≤ wr.heap.size ∧ wr.ownsRow B T 1 v xs.length xs ∧ v ≠ .slice none 0 0

theorem OwnV.open {w wr : World} {B : Nat} {T : TypeId} {v : Value} {xs : List Value} (h : OwnV w wr B T v xs) :
    ∃ g cap, v = .slice (some ⟨g, 0, none⟩) xs.length cap ∧ B ≤ g ∧ g < wr.heap.size ∧ ∀ j u, xs[j]? = some u → wr.cell? ((⟨g, 0, none⟩ : Addr).add j) = some u := by
  obtain ⟨_, _, _, hO, hn⟩ := h
  have hl := hO.lt
  have hc := fun g => World.ownsRow.cells (g := g) hO
  rcases hO.2 with ⟨h0, _⟩ | ⟨g, cap, cur, rfl, hb, hg, _⟩
  · exact absurd h0 hn
  · exact ⟨g, cap, rfl, (hl g rfl).1, (hl g rfl).2, hc g rfl⟩
theorem OwnV.cap {w wr : World} {B : Nat} {T : TypeId} {g n cap : Nat} {xs : List Value} (h : OwnV w wr B T (.slice (some ⟨g, 0, none⟩) n cap) xs) : n ≤ cap := by
  obtain ⟨_, _, _, hO, hn⟩ := h
  rcases hO.2 with ⟨h0, _⟩ | ⟨g', cap', cur, e, hb, hg, hle, _⟩
  · exact absurd h0 hn
  · injection e with e1 e2 e3; omega
theorem ownV_since {w wr u : World} {B : Nat} {T : TypeId} {v : Value} {xs : List Value} (h : OwnV w wr B T v xs) (s : wr.Since wr.heap.size u) : OwnV w u B T v xs :=
  ⟨h.1.trans (since_mono s h.1.size), h.2.1, Nat.le_trans h.2.2.1 s.size, h.2.2.2.1.kept (row := none) ⟨s.os, s.tape, s.output, s.size, fun k hk _ => s.block k hk⟩ (by cases hv : v.ownBlock <;> simp), h.2.2.2.2⟩
theorem ownV_start (w : World) (T : TypeId) : OwnV w (w.alloc (.cells #[] T)) w.heap.size T (.slice (some ⟨w.heap.size, 0, none⟩) 0 0) [] :=
  ⟨(World.Since.refl _ w).alloc (Nat.le_refl _) _, Nat.le_refl _, by simp, World.ownsRow_made w #[] 0 (Nat.le_refl _) (by decide) rfl, by simp⟩
theorem ownsRow_one (w : World) (B : Nat) (T : TypeId) (x : Value) (hB : B ≤ w.heap.size) : (w.alloc (.cells #[x] T)).ownsRow B T 1 (.slice (some ⟨w.heap.size, 0, none⟩) 1 1) 1 [x] :=
  ⟨rfl, .inr ⟨w.heap.size, 1, _, rfl, hB, heap_alloc_new w _, Nat.le_refl _, by decide, rfl, rfl⟩⟩
theorem ownsRow_drewN {w : World} {base : Nat} {e : TypeId} {size : Nat} {v : Value} {n : Nat} {xs : List Value} (h : w.ownsRow base e size v n xs) (k : Nat) : (w.drewN k).ownsRow base e size v n xs := h
/-- One more at the end. -/
theorem ownV_step {w wr w' : World} {B : Nat} {T : TypeId} {l v x : Value} {X : Nat} {xs : List Value} {O : Obj} (h : OwnV w wr B T l xs) (ho : w'.ownsRow B T 1 v (xs.length + 1) (xs ++ [x])) (hg : ((wr.drewN X).alloc O).grownBy w' l.ownBlock)
    (hn : v ≠ .slice none 0 0) : OwnV w w' B T v (xs ++ [x]) := by
  have h1 : w.Since w.heap.size ((wr.drewN X).alloc O) := World.Since.alloc (since_drewN h.1 X) (Nat.le_trans h.2.1 h.2.2.1) O
  have h2 : w.heap.size ≤ ((wr.drewN X).alloc O).heap.size := by have := h.2.2.1; have := h.2.1; simp [World.drewN]; omega
  have h3 := h1.grown hg h2 (fun k hk => Nat.le_trans h.2.1 (h.2.2.2.1.lt k hk).1)
  have h4 : B ≤ w'.heap.size := by have := h.2.2.1; have := hg.size; simp [World.drewN] at this; omega
  exact ⟨h3, h.2.1, h4, by rw [List.length_append]; exact ho, hn⟩
theorem ownV_add {w wr w' : World} {B : Nat} {T : TypeId} {l v x : Value} {xs : List Value} {O : Obj} (h : OwnV w wr B T l xs) (ho : w'.ownsRow B T 1 v (xs.length + 1) (xs ++ [x])) (hg : (wr.alloc O).grownBy w' l.ownBlock)
    (hn : v ≠ .slice none 0 0) : OwnV w w' B T v (xs ++ [x]) := ownV_step (X := 0) h ho hg hn
/-- One ahead of a whole row. -/
theorem ownV_front {w wr w' : World} {B : Nat} {T : TypeId} {l v x : Value} {xs : List Value} {O : Obj} (h : OwnV w wr B T l xs) (ho : w'.ownsRow w.heap.size T 1 v (1 + xs.length) ([x] ++ xs)) (hg : (wr.alloc O).grownBy w' (some wr.heap.size))
    (hn : v ≠ .slice none 0 0) : OwnV w w' w.heap.size T v (x :: xs) := by
  have h1 : w.Since w.heap.size (wr.alloc O) := World.Since.alloc h.1 (Nat.le_trans h.2.1 h.2.2.1) O
  have h2 : w.heap.size ≤ (wr.alloc O).heap.size := by have := h.2.2.1; have := h.2.1; simp; omega
  have h3 := h1.grown hg h2 (fun k hk => by cases hk; exact Nat.le_trans h.2.1 h.2.2.1)
  exact ⟨h3, Nat.le_refl _, h3.size, by rw [show (x :: xs).length = 1 + xs.length from Nat.add_comm _ _]; exact ho, hn⟩

theorem cells_alloc {wr : World} {g : Nat} {xs : List Value} (hg : g < wr.heap.size) (hc : ∀ j u, xs[j]? = some u → wr.cell? ((⟨g, 0, none⟩ : Addr).add j) = some u) (O : Obj) : ∀ j u, xs[j]? = some u → (wr.alloc O).cell? ((⟨g, 0, none⟩ : Addr).add j) = some u := by
  intro j u hj
  rw [Addr.add_lit, World.cell?_of_block (w := wr) (a := ⟨g, 0 + j, none⟩) (Below.heap_alloc wr O g hg)]
  have := hc j u hj
  rwa [Addr.add_lit] at this
theorem byteCells_one (l : List UInt8) : ∀ u ∈ Lib.byteCells l, u.oneCell' = true := by
  intro u hu
  obtain ⟨b, _, rfl⟩ := List.mem_map.1 hu
  rfl
theorem byteCells_len (l : List UInt8) : (Lib.byteCells l).length = l.length := by simp [Lib.byteCells]
theorem infoU8 : (Tryd.prog.info? 5).map (fun i => (i.zero, i.size, i.bytes)) = some (some (.int .u8 0), 1, 1) := by kernel_rfl

theorem foldl_push (l : List UInt8) : ∀ s : ByteArray, (l.map fun b => (b.toNat : Int)).foldl (fun r n => r.push (UInt8.ofNat n.toNat)) s = ⟨s.data ++ l.toArray⟩ := by
  induction l with
  | nil => intro s; simp
  | cons b l ih =>
    intro s
    rw [List.map_cons, List.foldl_cons, ih]
    have : UInt8.ofNat ((b.toNat : Int)).toNat = b := by simp
    rw [this]
    simp [ByteArray.push]
theorem byteCells_ints (l : List UInt8) : Lib.byteCells l = (l.map fun b => (b.toNat : Int)).map (Value.int .u8) := by simp [Lib.byteCells]
/-- 'string(row)'. -/
theorem run_str {P : Program} (w : World) (src dst e : TypeId) (a : Addr) (len cap : Nat) (l : List UInt8) (hs : P.underlying src = some (.slice e)) (he : P.underlying e = some (.int .u8)) (hd : P.underlying dst = some .string)
    (hl : l.length = len) (h : ∀ j u, (Lib.byteCells l)[j]? = some u → w.cell? (a.add j) = some u) :
    (convert src dst (.slice (some a) len cap)).run P w = .ok (.string ⟨l.toArray⟩) w := by
  rw [run_convert_bytes_string w src dst e _ _ _ hs he hd]
  have hc := run_loadCells_list (P := P) w a (Lib.byteCells l) h
  rw [show (Lib.byteCells l).length = len by simp [Lib.byteCells, hl]] at hc
  rw [byteCells_ints] at hc
  rw [run_bytesToString w a len cap _ hc, foldl_push]
  rw [show (ByteArray.empty).data ++ l.toArray = l.toArray from Array.empty_append]
end Go.Proofs.YtmlodheanckadaaDoor
