/-
  Walk of the law FnExactSharesAt: for every input it returns true and writes nothing that was there. No condition.
-/
import Derived.Test.YtacacgddnfbmcaaWkShS
namespace Go.Proofs.Ytacacgddnfbmcaa
open Go.RowKit Go.Deep
set_option linter.unusedVariables false
set_option linter.unusedSimpArgs false

/-- A row of float32 where it lies, whole: its cells and that it may be written. -/
def RowW (u : World) (b len : Nat) (f : Nat → Nat) : Prop := ∃ N V, u.rowIs b 22 N V ∧ len ≤ N ∧ ∀ i, i < len → V i = .float .f32 (f i)
theorem RowW.rowF {u : World} {b len : Nat} {f : Nat → Nat} (h : RowW u b len f) : RowF u b len f := by
  obtain ⟨N, V, h1, h2, h3⟩ := h
  exact ⟨h1.lt, fun i hi => by rw [Nat.zero_add, h1.cell (show i < N by omega), h3 i hi]⟩
theorem rowF_of {u v : World} {b len : Nat} {f : Nat → Nat} (h : RowF u b len f) (e : v.heap[b]? = u.heap[b]?) (hs : u.heap.size ≤ v.heap.size) : RowF v b len f :=
  ⟨Nat.lt_of_lt_of_le h.1 hs, fun i hi => by rw [World.cell?_of_block (w := u) (a := ⟨b, 0 + i, none⟩) e]; exact h.2 i hi⟩
theorem rowF_since {u v : World} {b len : Nat} {f : Nat → Nat} (h : RowF u b len f) (s : u.Since u.heap.size v) : RowF v b len f := rowF_of h (s.block b h.1) s.size
theorem OwnF.row {w wr : World} {B n : Nat} {v : Value} {f : Nat → Nat} (h : OwnF w wr B v n f) (hn : 0 < n) :
    ∃ g cap, v = .slice (some ⟨g, 0, none⟩) n cap ∧ w.heap.size ≤ g ∧ RowW wr g n f := by
  obtain ⟨_, hB, _, hO⟩ := h
  rcases hO.2 with ⟨_, h0⟩ | ⟨g, cap, cur, rfl, hb, hg, hnc, hcm, hcs, htake⟩
  · omega
  · rw [Nat.mul_one] at hcs htake
    refine ⟨g, cap, rfl, Nat.le_trans hB hb, cap, fun i => (cur[i]?).getD (.int .i64 0), ⟨cur, hg, hcs, fun i hi => ?_⟩, hnc, fun i hi => ?_⟩
    · have : i < cur.size := by omega
      simp [this]
    · have e := rowL_get f n i hi
      rw [← htake, List.getElem?_take, if_pos hi] at e
      have e' : cur[i]? = some (.float .f32 (f i)) := by simpa using e
      show (cur[i]?).getD _ = _
      rw [e']
      rfl

/-- What both of them answer where they answer. -/
def ShAns (t n : Nat) (w : World) (e : Ending) (w' : World) : Prop :=
  ∃ g cap f, e = .returned (.tuple #[.slice (some ⟨g, 0, none⟩) (n + 1) cap, .bool true]) ∧ w.Since w.heap.size w' ∧ w.heap.size ≤ g ∧ RowW w' g (n + 1) f ∧ ∀ i, i < n + 1 → Fl.can .f32 (f i) = shC (Fl.can .f32 t) n i

theorem shIA (n : Nat) (t : Nat) (w : World) (h1 : 1 ≤ n) (h7 : n ≤ 7) (ht : (Fl.ge .f32 (Fl.can .f32 t) (Fl.can .f32 0) && Fl.le .f32 (Fl.can .f32 t) (Fl.can .f32 1065353216)) = true) :
    Calls Try.prog 22 #[.int .i64 (n : Int), .float .f32 t] w (ShAns t n w) :=
  (shI n t w h1 h7 ht).mono fun e w' ⟨v, f, B, he, hO, hf⟩ => by
    obtain ⟨g, cap, hv, hg, hR⟩ := hO.row (Nat.succ_pos _)
    exact ⟨g, cap, f, by rw [he, hv], hO.1, hg, hR, hf⟩
theorem shSA (n : Nat) (t : Nat) (w : World) (h1 : 1 ≤ n) (h7 : n ≤ 7) (ht : (Fl.ge .f32 (Fl.can .f32 t) (Fl.can .f32 0) && Fl.le .f32 (Fl.can .f32 t) (Fl.can .f32 1065353216)) = true) :
    Calls Try.prog 21 #[.int .i64 (n : Int), .float .f32 t] w (ShAns t n w) :=
  (shS n t w h1 h7 ht).mono fun e w' ⟨v, f, B, he, hO, hf⟩ => by
    obtain ⟨g, cap, hv, hg, hR⟩ := hO.row (Nat.succ_pos _)
    exact ⟨g, cap, f, by rw [he, hv], hO.1, hg, hR, hf⟩

theorem shINo (n : Int) (t : Nat) (w : World) (h : ((decide (1 ≤ n) && decide (n ≤ 7)) && (Fl.ge .f32 (Fl.can .f32 t) (Fl.can .f32 0) && Fl.le .f32 (Fl.can .f32 t) (Fl.can .f32 1065353216))) = false) :
    Calls Try.prog 22 #[.int .i64 n, .float .f32 t] w fun e w' => e = .returned (.tuple #[.slice none 0 0, .bool false]) ∧ w' = w := by
  cases hA : (decide (1 ≤ n) && decide (n ≤ 7)) <;> cases hB : (Fl.ge .f32 (Fl.can .f32 t) (Fl.can .f32 0) && Fl.le .f32 (Fl.can .f32 t) (Fl.can .f32 1065353216))
  case true.true => rw [hA, hB] at h; cases h
  all_goals go_enter Try.func22, Try.ntmps22
  all_goals go_wp2_with (first
    | (go_at_call 31; refine (withinW _ _ _ _).mono ?_; rintro e w' ⟨rfl, hw⟩; subst w'; rw [hA])
    | (go_at_call 40; refine (timeW _ _).mono ?_; rintro e w' ⟨rfl, hw⟩; subst w'; rw [hB])
    | go_in)
  all_goals go_ret2
  all_goals exact ⟨rfl, rfl⟩
theorem shSNo (n : Int) (t : Nat) (w : World) (h : ((decide (1 ≤ n) && decide (n ≤ 7)) && (Fl.ge .f32 (Fl.can .f32 t) (Fl.can .f32 0) && Fl.le .f32 (Fl.can .f32 t) (Fl.can .f32 1065353216))) = false) :
    Calls Try.prog 21 #[.int .i64 n, .float .f32 t] w fun e w' => e = .returned (.tuple #[.slice none 0 0, .bool false]) ∧ w' = w := by
  cases hA : (decide (1 ≤ n) && decide (n ≤ 7)) <;> cases hB : (Fl.ge .f32 (Fl.can .f32 t) (Fl.can .f32 0) && Fl.le .f32 (Fl.can .f32 t) (Fl.can .f32 1065353216))
  case true.true => rw [hA, hB] at h; cases h
  all_goals go_enter Try.func21, Try.ntmps21
  all_goals go_wp2_with (first
    | (go_at_call 29; refine (inW _ _ _ _).mono ?_; rintro e w' ⟨rfl, hw⟩; subst w'; rw [hA])
    | (go_at_call 39; refine (shareW _ _).mono ?_; rintro e w' ⟨rfl, hw⟩; subst w'; rw [hB])
    | go_in)
  all_goals go_ret2
  all_goals exact ⟨rfl, rfl⟩

theorem eqNo (w : World) : Calls Try.prog 18 #[.slice none 0 0, .slice none 0 0] w fun e w' => e = .returned (.bool true) ∧ w' = w := by
  go_enter Try.func18, Try.ntmps18
  go_wp2
  go_loopg [5] 0 (fun gg i wr => i = .int .i64 0 ∧ wr = w)
  case atStart => exact ⟨rfl, rfl⟩
  case round =>
    obtain ⟨rfl, rfl⟩ := hrel
    go_wp2
    go_ret
    exact ⟨rfl, rfl⟩
theorem markNo (w : World) : Calls Try.prog 23 #[.slice none 0 0, .int .i64 1] w fun e w' => e = .returned (.int .i64 1) ∧ w' = w := by
  go_enter Try.func23, Try.ntmps23
  go_wp2
  go_loopg [1, 5] 0 (fun gg q i wr => q = .int .i64 1 ∧ i = .int .i64 0 ∧ wr = w)
  case atStart => exact ⟨rfl, rfl, rfl⟩
  case round =>
    obtain ⟨rfl, rfl, rfl⟩ := hrel
    go_wp2
    go_ret
    exact ⟨rfl, rfl⟩
theorem heldNo (w : World) : Calls Try.prog 24 #[.slice none 0 0, .int .i64 1] w fun e w' => e = .returned (.int .i64 1) ∧ w' = w := by
  go_enter Try.func24, Try.ntmps24
  go_wp2
  go_loopg [1, 5] 0 (fun gg q i wr => q = .int .i64 1 ∧ i = .int .i64 0 ∧ wr = w)
  case atStart => exact ⟨rfl, rfl, rfl⟩
  case round =>
    obtain ⟨rfl, rfl, rfl⟩ := hrel
    go_wp2
    go_ret
    exact ⟨rfl, rfl⟩

def NearV (i : Nat) : Nat := FloatKind.f32.nearest ((i : Int) + 1)
theorem markG (g len cap : Nat) (f : Nat → Nat) (w : World) (hl : len ≤ 8) (h : RowW w g len f) :
    Calls Try.prog 23 #[.slice (some ⟨g, 0, none⟩) len cap, .int .i64 1] w fun e w' => e = .returned (.int .i64 ((len : Int) + 1)) ∧ (∀ k, k ≠ g → w'.heap[k]? = w.heap[k]?) ∧ w'.os = w.os ∧ w'.tape = w.tape ∧ w'.output = w.output ∧ w'.heap.size = w.heap.size ∧ RowF w' g len NearV := by
  obtain ⟨N, V, h1, h2, h3⟩ := h
  refine (markW g len cap f V h3 w hl ⟨fun _ _ => rfl, rfl, rfl, rfl, rfl, N, h1.congr fun i hi => by rw [if_neg (Nat.not_lt_zero _)], h2⟩).mono ?_
  rintro e w' ⟨rfl, k1, k2, k3, k4, k5, N', k6, k7⟩
  exact ⟨rfl, k1, k2, k3, k4, k5, k6.lt, fun i hi => by rw [Nat.zero_add, k6.cell (show i < N' by omega), if_pos hi]; rfl⟩

theorem walk_FnExactSharesAt (n : Int) (hn : (Lit.int .i64 n).wf = true) (t : Nat) (ht : (Lit.float .f32 t).wf = true) (w : World) :
    Calls Try.prog 7 #[.int .i64 n, .float .f32 t] w fun e w' => e = .returned (.bool true) ∧ Below w.heap.size w w' := by
  cases hok : ((decide (1 ≤ n) && decide (n ≤ 7)) && (Fl.ge .f32 (Fl.can .f32 t) (Fl.can .f32 0) && Fl.le .f32 (Fl.can .f32 t) (Fl.can .f32 1065353216)))
  · go_enter Try.func7, Try.ntmps7
    go_wp2_with (first
      | (go_at_call 21; refine (shSNo _ _ _ hok).mono ?_; rintro e w' ⟨rfl, hw⟩; subst w')
      | (go_at_call 22; refine (shINo _ _ _ hok).mono ?_; rintro e w' ⟨rfl, hw⟩; subst w')
      | (go_at_call 18; refine (eqNo _).mono ?_; rintro e w' ⟨rfl, hw⟩; subst w')
      | (go_at_call 23; refine (markNo _).mono ?_; rintro e w' ⟨rfl, hw⟩; subst w')
      | (go_at_call 24; refine (heldNo _).mono ?_; rintro e w' ⟨rfl, hw⟩; subst w')
      | go_in)
    go_ret
    exact ⟨rfl, Below.refl _ _⟩
  · rw [Bool.and_eq_true] at hok
    obtain ⟨hd, hT⟩ := hok
    have hd' : 1 ≤ n ∧ n ≤ 7 := by simpa using hd
    obtain ⟨m, rfl⟩ : ∃ m : Nat, n = (m : Int) := ⟨n.toNat, by omega⟩
    have h1 : 1 ≤ m := by omega
    have h7 : m ≤ 7 := by omega
    have T0 : Stage 0 := trivial
    go_enter Try.func7, Try.ntmps7
    go_wp2_with (first
      | (go_at_call 21; clear T0; refine (shSA m _ _ h1 h7 hT).mono ?_; rintro e w1 ⟨ga, ca, fa, rfl, SA, hga, RA, CA⟩; have R1 := RA.rowF; have CA' := Lib.hid CA; clear CA RA; have T1 : Stage 1 := trivial)
      | (go_at_call 22; clear T1; refine (shIA m _ _ h1 h7 hT).mono ?_; rintro e w2 ⟨gb, cb, fb, rfl, SB, hgb, RB, CB⟩; have R2 := rowF_since R1 SB; have CB' := Lib.hid CB; clear CB; have T2 : Stage 2 := trivial)
      | (go_at_call 18; clear T2; refine (eqG _ _ _ _ _ _ _ fb fa _ (by omega) RB.rowF.2 R2.2 (fun i hi => (CB'.out i hi).trans (CA'.out i hi).symm)).mono ?_; rintro e w' ⟨rfl, n4, rfl⟩; have RB' : RowW (w2.drewN n4) gb (m + 1) fb := RB; have T3 : Stage 3 := trivial)
      | (go_at_call 23; clear T3; refine (markG _ _ _ fb _ (by omega) RB').mono ?_; rintro e w3 ⟨rfl, k1, k2, k3, k4, k5, RM⟩; have R3 := rowF_of R2 (k1 ga (by have := R1.1; omega)) (Nat.le_of_eq k5.symm); have T4 : Stage 4 := trivial)
      | (go_at_call 24; clear T4; refine (heldW _ _ _ _ (by omega) RM.2).mono ?_; rintro e w' ⟨rfl, n5, rfl⟩; have R4 := rowF_drew R3 n5; have RM4 := rowF_drew RM n5; have T5 : Stage 5 := trivial)
      | (go_at_call 22; clear T5; refine (shIA m _ _ h1 h7 hT).mono ?_; rintro e w4 ⟨gc, cc, fc, rfl, SC, hgc, RC, CC⟩; have CC' := Lib.hid CC; clear CC; have R5 := rowF_since R4 SC; have RM5 := rowF_since RM4 SC; have T6 : Stage 6 := trivial)
      | (go_at_call 18; clear T6; refine (eqG _ _ _ _ _ _ _ fc fa _ (by omega) RC.rowF.2 R5.2 (fun i hi => (CC'.out i hi).trans (CA'.out i hi).symm)).mono ?_; rintro e w' ⟨rfl, n6, rfl⟩; have RM6 := rowF_drew RM5 n6; have T7 : Stage 7 := trivial)
      | (go_at_call 24; clear T7; refine (heldW _ _ _ _ (by omega) RM6.2).mono ?_; rintro e w' ⟨rfl, n7, rfl⟩; have T8 : Stage 8 := trivial)
      | go_in)
    go_ret
    have S2 := SA.trans (since_mono SB SA.size)
    have S3 : w.Since w.heap.size w3 := (since_drewN S2 n4).trans ⟨k2, k3, k4, Nat.le_of_eq k5.symm, fun k hk => k1 k (by have := SA.size; omega)⟩
    have S4 : w.Since w.heap.size w4 := (since_drewN S3 n5).trans (since_mono SC S3.size)
    exact ⟨rfl, below_of_since (since_drewN S4 _)⟩
end Go.Proofs.Ytacacgddnfbmcaa
