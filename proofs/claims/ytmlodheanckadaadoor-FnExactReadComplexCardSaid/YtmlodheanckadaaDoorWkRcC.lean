/-
  Walks of laws.eqComplex64S, laws.markComplex64S and laws.heldComplex64S, where the library's variables hold what they were laid with. No condition but the length (256).
-/
import Derived.Test.YtmlodheanckadaaDoorWkRcI
import Derived.Deep.RegionWith
namespace Go.Proofs.YtmlodheanckadaaDoor
open Go.RowKit Go.Deep
set_option linter.unusedVariables false
set_option linter.unusedSimpArgs false

namespace Fl
section
variable {P : Program} (w : World)
@[go_sem] theorem run_cnarrow (src dst : TypeId) (a b : Nat) (hs : (P.underlying src).isSome = true) (hd : P.underlying dst = some (.complex .f32)) :
    (convert src dst (.complex .f64 a b)).run P w = .ok (.complex .f32 (narrowOut w a) (narrowOut (w.drewN (narrowDr a)) b)) (w.drewN (narrowDr a + narrowDr b)) := by
  obtain ⟨u, hs'⟩ := Option.isSome_iff_exists.1 hs
  cases u <;> simp [convert, run_underlying hs', run_underlying hd, Conv.complexToComplex, run_narrowRaw, Sem.run_bind]
@[go_sem] theorem ccmp_neq (t : TypeId) (k : FloatKind) (a b c d : Nat) : binOp .neq t (.complex k a b) (.complex k c d) = pure (.bool (!(eq k (can k a) (can k c) && eq k (can k b) (can k d)))) := by
  rw [eq_can, eq_can]; simp [binOp, Op.complexOp, Op.Complex.cmp, Op.floatCmp, eq]; rfl
end
end Fl
@[go_sem] theorem run_store_complex {P : Program} {w : World} {a : Addr} {m : Mode} (k : FloatKind) (p q : Nat) : (store a (.complex k p q) m).run P w = stored P w a (.complex k p q) m := run_store P w a _ m rfl

theorem sameC (a b c d : Nat) (h1 : Fl.can .f64 a = Fl.can .f64 c) (h2 : Fl.can .f64 b = Fl.can .f64 d) (w : World) : Calls Tryd.prog 56 #[.complex .f64 a b, .complex .f64 c d] w fun e w' => e = .returned (.bool true) ∧ ∃ n, w' = w.drewN n := by
  have H1 := Lib.hid h1
  have H2 := Lib.hid h2
  clear h1 h2
  have T0 : Stage 0 := trivial
  go_enter Tryd.func56, Tryd.ntmps56
  go_wp2_with (first
    | (go_at_call 50; clear T0; refine (sameF _ _ H1.out _).mono ?_; rintro e w' ⟨rfl, n1, rfl⟩)
    | (go_at_call 50; refine (sameF _ _ H2.out _).mono ?_; rintro e w' ⟨rfl, n2, rfl⟩)
    | go_in)
  go_ret
  exact ⟨rfl, _, rfl⟩

def fOfC (ns : List (Nat × Nat)) (i : Nat) : Nat × Nat := ns.getD i (0, 0)
set_option maxHeartbeats 4000000 in
theorem eqC (b1 o1 b2 o2 len cap1 cap2 : Nat) (f : Nat → Nat × Nat) (w : World) (hl : len ≤ 1048576) (h1 : ∀ i, i < len → w.cell? ⟨b1, o1 + i, none⟩ = some (cv (f i))) (h2 : ∀ i, i < len → w.cell? ⟨b2, o2 + i, none⟩ = some (cv (f i))) :
    Calls Tryd.prog 32 #[.slice (some ⟨b1, o1, none⟩) len cap1, .slice (some ⟨b2, o2, none⟩) len cap2] w fun e w' => e = .returned (.bool true) ∧ ∃ n, w' = w.drewN n := by
  go_enter Tryd.func32, Tryd.ntmps32
  go_wp2
  go_loopg [5] len (fun g i wr => ∃ k n : Nat, k ≤ len ∧ g = len - k ∧ i = .int .i64 k ∧ wr = w.drewN n)
  case atStart => exact ⟨0, 0, Nat.zero_le _, rfl, rfl, rfl⟩
  case round =>
    obtain ⟨k, n0, hk, rfl, rfl, rfl⟩ := hrel
    by_cases hlt : k < len
    · have g1 := h1 k hlt
      have g2 := h2 k hlt
      obtain ⟨p, hp⟩ : ∃ p, (f k).1 = p := ⟨_, rfl⟩
      obtain ⟨q, hq⟩ : ∃ q, (f k).2 = q := ⟨_, rfl⟩
      unfold cv at g1 g2
      rw [hp, hq] at g1 g2
      clear h1 h2 hp hq
      go_wp2
      go_region_with (go_at_call 56; refine (sameC _ _ _ _ (by rw [Fl.can_widenOut, Fl.can_widenOut]) (by rw [Fl.can_widenOut, Fl.can_widenOut]) _).mono ?_; rintro e w' ⟨rfl, n, rfl⟩)
      all_goals go_wp2
      all_goals go_roundg (len - (k + 1))
      all_goals first | omega | exact ⟨k + 1, _, by omega, rfl, congrArg (Value.int .i64) (by omega), rfl⟩
    · obtain rfl : k = len := by omega
      go_wp2
      go_ret
      exact ⟨rfl, _, rfl⟩

/-- A row of complex64 where it lies. -/
def RowC (u : World) (b len : Nat) (f : Nat → Nat × Nat) : Prop := b < u.heap.size ∧ ∀ i, i < len → u.cell? ⟨b, 0 + i, none⟩ = some (cv (f i))
theorem rowC_since {u v : World} {b len : Nat} {f : Nat → Nat × Nat} (h : RowC u b len f) (s : u.Since u.heap.size v) : RowC v b len f :=
  ⟨Nat.lt_of_lt_of_le h.1 s.size, fun i hi => by rw [s.cell (a := ⟨b, 0 + i, none⟩) h.1]; exact h.2 i hi⟩
theorem rowC_drew {u : World} {b l : Nat} {f : Nat → Nat × Nat} (h : RowC u b l f) (n : Nat) : RowC (u.drewN n) b l f := h
theorem rowC_of {u v : World} {b len : Nat} {f : Nat → Nat × Nat} (h : RowC u b len f) (e : v.heap[b]? = u.heap[b]?) (hs : u.heap.size ≤ v.heap.size) : RowC v b len f :=
  ⟨Nat.lt_of_lt_of_le h.1 hs, fun i hi => by rw [World.cell?_of_block (w := u) (a := ⟨b, 0 + i, none⟩) e]; exact h.2 i hi⟩
theorem rowWC_rowC {u : World} {g : Nat} {ns : List (Nat × Nat)} (h : RowWC u g ns) (hg : g < u.heap.size) : RowC u g ns.length (fOfC ns) := ⟨hg, rowWC_cells h⟩

/-- The marks: k + 1 as a float32, and 1. -/
def mk1 (i : Nat) : Nat := Fl.narrow (FloatKind.f64.nearest ((i : Int) + 1))
def oneW : Nat := Fl.narrow 4607182418800017408
def NearC (i : Nat) : Nat × Nat := (mk1 i, oneW)
theorem narrowOut_of (w : World) (x : Nat) (h1 : Fl.isN .f64 x = false) (h2 : Fl.over x = false) : Fl.narrowOut w x = Fl.narrow x := by unfold Fl.narrowOut Fl.narrow; rw [h1, h2]; rfl
theorem narrowDr_of (x : Nat) (h1 : Fl.isN .f64 x = false) (h2 : Fl.over x = false) : Fl.narrowDr x = 0 := by unfold Fl.narrowDr; rw [h1, h2]; rfl
theorem mk_facts (k : Nat) (h : k < 256) : Fl.isN .f64 (FloatKind.f64.nearest ((k : Int) + 1)) = false ∧ Fl.over (FloatKind.f64.nearest ((k : Int) + 1)) = false ∧ Fl.can .f32 (mk1 k) = mk1 k ∧ Fl.eq .f32 (mk1 k) (mk1 k) = true := by
  have : ∀ k : Fin 256, Fl.isN .f64 (FloatKind.f64.nearest ((k.val : Int) + 1)) = false ∧ Fl.over (FloatKind.f64.nearest ((k.val : Int) + 1)) = false ∧ Fl.can .f32 (mk1 k.val) = mk1 k.val ∧ Fl.eq .f32 (mk1 k.val) (mk1 k.val) = true := by decide +kernel
  exact this ⟨k, h⟩
theorem one_facts : Fl.isN .f64 4607182418800017408 = false ∧ Fl.over 4607182418800017408 = false ∧ Fl.can .f32 oneW = oneW ∧ Fl.eq .f32 oneW oneW = true := by decide +kernel

/-- A row of complex64 at block b, of which j are written with marks. -/
def MarkC (w wr : World) (b len j : Nat) (V : Nat → Value) : Prop :=
  (∀ k, k ≠ b → wr.heap[k]? = w.heap[k]?) ∧ wr.os = w.os ∧ wr.tape = w.tape ∧ wr.output = w.output ∧ wr.heap.size = w.heap.size ∧ ∃ n, wr.rowIs b 64 n (fun i => if i < j then cv (NearC i) else V i) ∧ len ≤ n
theorem markC_step {w wr : World} {b len j : Nat} {V : Nat → Value} (h : MarkC w wr b len j V) : MarkC w (wr.setCell ⟨b, j, none⟩ (cv (NearC j))) b len (j + 1) V := by
  obtain ⟨h1, h2, h3, h4, h5, n, h6, h7⟩ := h
  refine ⟨fun k hk => ?_, h2, h3, h4, by rw [← h5]; simp [World.setCell], n, (h6.set j _).congr fun i hi => ?_, h7⟩
  · rw [blk_setCell_other _ _ _ _ hk]; exact h1 k hk
  · by_cases e : i = j
    · subst e; simp
    · by_cases l : i < j
      · simp [e, l, show i < j + 1 by omega]
      · simp [e, l, show ¬ i < j + 1 by omega]

set_option maxRecDepth 20000 in
theorem markCW (b len cap : Nat) (f : Nat → Nat × Nat) (V : Nat → Value) (hV : ∀ i, i < len → V i = cv (f i)) (w : World) (hl : len ≤ 256) (h : MarkC w w b len 0 V) :
    Calls Tryd.prog 33 #[.slice (some ⟨b, 0, none⟩) len cap, .int .i64 1] w fun e w' => e = .returned (.int .i64 ((len : Int) + 1)) ∧ MarkC w w' b len len V := by
  go_enter Tryd.func33, Tryd.ntmps33
  go_wp2
  go_loopg [1, 5] len (fun g q i wr => ∃ k : Nat, k ≤ len ∧ g = len - k ∧ q = .int .i64 ((k : Int) + 1) ∧ i = .int .i64 k ∧ MarkC w wr b len k V)
  case atStart => exact ⟨0, Nat.zero_le _, rfl, rfl, rfl, h⟩
  case round =>
    obtain ⟨k, hk, rfl, rfl, rfl, hM⟩ := hrel
    by_cases hlt : k < len
    · have HM := Lib.hid (markC_step hM)
      obtain ⟨_, _, _, _, _, n, h6, h7⟩ := hM
      have g2 : wr.cell? ⟨b, k, none⟩ = some (.complex .f32 (f k).1 (f k).2) := by have := h6.cell (show k < n by omega); rw [if_neg (Nat.lt_irrefl k), hV k hlt] at this; exact this
      have g3 : wr.frozen? ⟨b, k, none⟩ = false := h6.frozen k
      obtain ⟨m1, m2, _, _⟩ := mk_facts k (by omega)
      obtain ⟨o1, o2, _, _⟩ := one_facts
      have c1 : ∀ u, Fl.narrowOut u (FloatKind.f64.nearest ((k : Int) + 1)) = mk1 k := fun u => narrowOut_of u _ m1 m2
      have c2 := narrowDr_of _ m1 m2
      have c3 : ∀ u, Fl.narrowOut u 4607182418800017408 = oneW := fun u => narrowOut_of u _ o1 o2
      have c4 := narrowDr_of _ o1 o2
      clear h6 h7 h hV m1 m2 o1 o2
      go_wp2
      go_roundg (len - (k + 1))
      case measure => omega
      case rel => exact ⟨k + 1, by omega, rfl, congrArg (Value.int .i64) (by omega), congrArg (Value.int .i64) (by omega), HM.out⟩
    · obtain rfl : k = len := by omega
      go_wp2
      go_ret
      exact ⟨rfl, hM⟩
theorem markCE (b cap : Nat) (w : World) :
    Calls Tryd.prog 33 #[.slice (some ⟨b, 0, none⟩) 0 cap, .int .i64 1] w fun e w' => e = .returned (.int .i64 1) ∧ w' = w := by
  go_enter Tryd.func33, Tryd.ntmps33
  go_wp2
  go_loopg [1, 5] 0 (fun gg q i wr => q = .int .i64 1 ∧ i = .int .i64 0 ∧ wr = w)
  case atStart => exact ⟨rfl, rfl, rfl⟩
  case round =>
    obtain ⟨rfl, rfl, rfl⟩ := hrel
    go_wp2
    go_ret
    exact ⟨rfl, rfl⟩
theorem markCG (g cap : Nat) (ns : List (Nat × Nat)) (w : World) (hl : ns.length ≤ 256) (h : RowWC w g ns) (hg : g < w.heap.size) :
    Calls Tryd.prog 33 #[.slice (some ⟨g, 0, none⟩) ns.length cap, .int .i64 1] w fun e w' => e = .returned (.int .i64 ((ns.length : Int) + 1)) ∧ (∀ k, k ≠ g → w'.heap[k]? = w.heap[k]?) ∧ w'.os = w.os ∧ w'.tape = w.tape ∧ w'.output = w.output ∧ w'.heap.size = w.heap.size ∧ RowC w' g ns.length NearC := by
  rcases h with rfl | ⟨N, V, h1, h2, h3⟩
  · refine (markCE g cap w).mono ?_
    rintro e w' ⟨rfl, rfl⟩
    exact ⟨rfl, fun _ _ => rfl, rfl, rfl, rfl, rfl, hg, fun i hi => by simp at hi⟩
  · refine (markCW g ns.length cap (fOfC ns) V (fun i hi => by rw [h3 i _ (List.getElem?_eq_getElem hi)]; simp [fOfC, hi]) w hl ⟨fun _ _ => rfl, rfl, rfl, rfl, rfl, N, h1.congr fun i hi => by rw [if_neg (Nat.not_lt_zero _)], h2⟩).mono ?_
    rintro e w' ⟨rfl, k1, k2, k3, k4, k5, N', k6, k7⟩
    exact ⟨rfl, k1, k2, k3, k4, k5, k6.lt, fun i hi => by rw [Nat.zero_add, k6.cell (show i < N' by omega), if_pos hi]⟩
set_option maxRecDepth 20000 in
theorem heldCW (b len cap : Nat) (w : World) (hl : len ≤ 256) (h : ∀ i : Nat, i < len → w.cell? ⟨b, 0 + i, none⟩ = some (cv (NearC i))) :
    Calls Tryd.prog 34 #[.slice (some ⟨b, 0, none⟩) len cap, .int .i64 1] w fun e w' => e = .returned (.int .i64 ((len : Int) + 1)) ∧ ∃ n, w' = w.drewN n := by
  go_enter Tryd.func34, Tryd.ntmps34
  go_wp2
  go_loopg [1, 5] len (fun g q i wr => ∃ k n : Nat, k ≤ len ∧ g = len - k ∧ q = .int .i64 ((k : Int) + 1) ∧ i = .int .i64 k ∧ wr = w.drewN n)
  case atStart => exact ⟨0, 0, Nat.zero_le _, rfl, rfl, rfl, rfl⟩
  case round =>
    obtain ⟨k, n, hk, rfl, rfl, rfl, rfl⟩ := hrel
    by_cases hlt : k < len
    · have g2 : w.cell? ⟨b, k, none⟩ = some (.complex .f32 (mk1 k) oneW) := by have := h k hlt; rw [Nat.zero_add] at this; exact this
      obtain ⟨m1, m2, m3, m4⟩ := mk_facts k (by omega)
      obtain ⟨o1, o2, o3, o4⟩ := one_facts
      have c1 : ∀ u, Fl.narrowOut u (FloatKind.f64.nearest ((k : Int) + 1)) = mk1 k := fun u => narrowOut_of u _ m1 m2
      have c2 := narrowDr_of _ m1 m2
      have c3 : ∀ u, Fl.narrowOut u 4607182418800017408 = oneW := fun u => narrowOut_of u _ o1 o2
      have c4 := narrowDr_of _ o1 o2
      clear h m1 m2 o1 o2
      go_wp2
      all_goals go_roundg (len - (k + 1))
      case measure => omega
      case rel => exact ⟨k + 1, _, by omega, rfl, congrArg (Value.int .i64) (by omega), congrArg (Value.int .i64) (by omega), rfl⟩
    · obtain rfl : k = len := by omega
      go_wp2
      go_ret
      exact ⟨rfl, _, rfl⟩
theorem eqNoC (w : World) : Calls Tryd.prog 32 #[.slice none 0 0, .slice none 0 0] w fun e w' => e = .returned (.bool true) ∧ w' = w := by
  go_enter Tryd.func32, Tryd.ntmps32
  go_wp2
  go_loopg [5] 0 (fun gg i wr => i = .int .i64 0 ∧ wr = w)
  case atStart => exact ⟨rfl, rfl⟩
  case round =>
    obtain ⟨rfl, rfl⟩ := hrel
    go_wp2
    go_ret
    exact ⟨rfl, rfl⟩
theorem markNoC (w : World) : Calls Tryd.prog 33 #[.slice none 0 0, .int .i64 1] w fun e w' => e = .returned (.int .i64 1) ∧ w' = w := by
  go_enter Tryd.func33, Tryd.ntmps33
  go_wp2
  go_loopg [1, 5] 0 (fun gg q i wr => q = .int .i64 1 ∧ i = .int .i64 0 ∧ wr = w)
  case atStart => exact ⟨rfl, rfl, rfl⟩
  case round =>
    obtain ⟨rfl, rfl, rfl⟩ := hrel
    go_wp2
    go_ret
    exact ⟨rfl, rfl⟩
theorem heldNoC (w : World) : Calls Tryd.prog 34 #[.slice none 0 0, .int .i64 1] w fun e w' => e = .returned (.int .i64 1) ∧ w' = w := by
  go_enter Tryd.func34, Tryd.ntmps34
  go_wp2
  go_loopg [1, 5] 0 (fun gg q i wr => q = .int .i64 1 ∧ i = .int .i64 0 ∧ wr = w)
  case atStart => exact ⟨rfl, rfl, rfl⟩
  case round =>
    obtain ⟨rfl, rfl, rfl⟩ := hrel
    go_wp2
    go_ret
    exact ⟨rfl, rfl⟩
end Go.Proofs.YtmlodheanckadaaDoor
