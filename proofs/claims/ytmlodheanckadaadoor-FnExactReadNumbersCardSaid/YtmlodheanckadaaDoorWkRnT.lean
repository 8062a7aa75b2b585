/-
  Walk of the law FnExactReadNumbers, where the library's variables hold what they were laid with: for every text it returns true and writes nothing that was there. No condition.
-/
import Derived.Test.YtmlodheanckadaaDoorWkRnI
import Derived.Test.YtmlodheanckadaaDoorWkMark
import Derived.Test.YtmlodheanckadaaDoorWkEq
namespace Go.Proofs.YtmlodheanckadaaDoor
open Go.RowKit Go.Deep
set_option linter.unusedVariables false
set_option linter.unusedSimpArgs false

def fOfN (ns : List Nat) (i : Nat) : Nat := ns.getD i 0
/-- A row of float32 where it lies. -/
def RowN (u : World) (b len : Nat) (f : Nat → Nat) : Prop := b < u.heap.size ∧ ∀ i, i < len → u.cell? ⟨b, 0 + i, none⟩ = some (.float .f32 (f i))
theorem rowN_since {u v : World} {b len : Nat} {f : Nat → Nat} (h : RowN u b len f) (s : u.Since u.heap.size v) : RowN v b len f :=
  ⟨Nat.lt_of_lt_of_le h.1 s.size, fun i hi => by rw [s.cell (a := ⟨b, 0 + i, none⟩) h.1]; exact h.2 i hi⟩
theorem rowN_drew {u : World} {b l : Nat} {f : Nat → Nat} (h : RowN u b l f) (n : Nat) : RowN (u.drewN n) b l f := h
theorem rowN_of {u v : World} {b len : Nat} {f : Nat → Nat} (h : RowN u b len f) (e : v.heap[b]? = u.heap[b]?) (hs : u.heap.size ≤ v.heap.size) : RowN v b len f :=
  ⟨Nat.lt_of_lt_of_le h.1 hs, fun i hi => by rw [World.cell?_of_block (w := u) (a := ⟨b, 0 + i, none⟩) e]; exact h.2 i hi⟩
theorem rowWN_rowN {u : World} {g : Nat} {ns : List Nat} (h : RowWN u g ns) (hg : g < u.heap.size) : RowN u g ns.length (fOfN ns) := ⟨hg, rowWN_cells h⟩

theorem near256 (k : Nat) (h : k < 256) : Fl.can .f32 (FloatKind.f32.nearest ((k : Int) + 1)) = FloatKind.f32.nearest ((k : Int) + 1) ∧ Fl.eq .f32 (FloatKind.f32.nearest ((k : Int) + 1)) (FloatKind.f32.nearest ((k : Int) + 1)) = true := by
  have : ∀ k : Fin 256, Fl.can .f32 (FloatKind.f32.nearest ((k.val : Int) + 1)) = FloatKind.f32.nearest ((k.val : Int) + 1) ∧ Fl.eq .f32 (FloatKind.f32.nearest ((k.val : Int) + 1)) (FloatKind.f32.nearest ((k.val : Int) + 1)) = true := by decide +kernel
  exact this ⟨k, h⟩
def NearV (i : Nat) : Nat := FloatKind.f32.nearest ((i : Int) + 1)

theorem markNW (b len cap : Nat) (f : Nat → Nat) (V : Nat → Value) (hV : ∀ i, i < len → V i = .float .f32 (f i)) (w : World) (hl : len ≤ 256) (h : MarkF w w b len 0 V) :
    Calls Tryd.prog 28 #[.slice (some ⟨b, 0, none⟩) len cap, .int .i64 1] w fun e w' => e = .returned (.int .i64 ((len : Int) + 1)) ∧ MarkF w w' b len len V := by
  go_enter Tryd.func28, Tryd.ntmps28
  go_wp2
  go_loopg [1, 5] len (fun g q i wr => ∃ k : Nat, k ≤ len ∧ g = len - k ∧ q = .int .i64 ((k : Int) + 1) ∧ i = .int .i64 k ∧ MarkF w wr b len k V)
  case atStart => exact ⟨0, Nat.zero_le _, rfl, rfl, rfl, h⟩
  case round =>
    obtain ⟨k, hk, rfl, rfl, rfl, hM⟩ := hrel
    by_cases hlt : k < len
    · have HM := Lib.hid hM
      obtain ⟨_, _, _, _, _, n, h6, h7⟩ := hM
      have g2 : wr.cell? ⟨b, k, none⟩ = some (.float .f32 (f k)) := by have := h6.cell (show k < n by omega); rw [if_neg (Nat.lt_irrefl k), hV k hlt] at this; exact this
      have g3 : wr.frozen? ⟨b, k, none⟩ = false := h6.frozen k
      clear h6 h7 h hV
      go_wp2
      go_roundg (len - (k + 1))
      case measure => omega
      case rel => exact ⟨k + 1, by omega, rfl, congrArg (Value.int .i64) (by omega), congrArg (Value.int .i64) (by omega), markF_step HM.out⟩
    · obtain rfl : k = len := by omega
      go_wp2
      go_ret
      exact ⟨rfl, hM⟩
theorem markNE (b cap : Nat) (w : World) :
    Calls Tryd.prog 28 #[.slice (some ⟨b, 0, none⟩) 0 cap, .int .i64 1] w fun e w' => e = .returned (.int .i64 1) ∧ w' = w := by
  go_enter Tryd.func28, Tryd.ntmps28
  go_wp2
  go_loopg [1, 5] 0 (fun gg q i wr => q = .int .i64 1 ∧ i = .int .i64 0 ∧ wr = w)
  case atStart => exact ⟨rfl, rfl, rfl⟩
  case round =>
    obtain ⟨rfl, rfl, rfl⟩ := hrel
    go_wp2
    go_ret
    exact ⟨rfl, rfl⟩
theorem markNG (g cap : Nat) (ns : List Nat) (w : World) (hl : ns.length ≤ 256) (h : RowWN w g ns) (hg : g < w.heap.size) :
    Calls Tryd.prog 28 #[.slice (some ⟨g, 0, none⟩) ns.length cap, .int .i64 1] w fun e w' => e = .returned (.int .i64 ((ns.length : Int) + 1)) ∧ (∀ k, k ≠ g → w'.heap[k]? = w.heap[k]?) ∧ w'.os = w.os ∧ w'.tape = w.tape ∧ w'.output = w.output ∧ w'.heap.size = w.heap.size ∧ RowN w' g ns.length NearV := by
  rcases h with rfl | ⟨N, V, h1, h2, h3⟩
  · refine (markNE g cap w).mono ?_
    rintro e w' ⟨rfl, rfl⟩
    exact ⟨rfl, fun _ _ => rfl, rfl, rfl, rfl, rfl, hg, fun i hi => by simp at hi⟩
  · refine (markNW g ns.length cap (fOfN ns) V (fun i hi => by rw [h3 i _ (List.getElem?_eq_getElem hi)]; simp [fOfN, hi]) w hl ⟨fun _ _ => rfl, rfl, rfl, rfl, rfl, N, h1.congr fun i hi => by rw [if_neg (Nat.not_lt_zero _)], h2⟩).mono ?_
    rintro e w' ⟨rfl, k1, k2, k3, k4, k5, N', k6, k7⟩
    exact ⟨rfl, k1, k2, k3, k4, k5, k6.lt, fun i hi => by rw [Nat.zero_add, k6.cell (show i < N' by omega), if_pos hi]; rfl⟩
theorem heldNW (b len cap : Nat) (w : World) (hl : len ≤ 256) (h : ∀ i : Nat, i < len → w.cell? ⟨b, 0 + i, none⟩ = some (.float .f32 (NearV i))) :
    Calls Tryd.prog 29 #[.slice (some ⟨b, 0, none⟩) len cap, .int .i64 1] w fun e w' => e = .returned (.int .i64 ((len : Int) + 1)) ∧ ∃ n, w' = w.drewN n := by
  go_enter Tryd.func29, Tryd.ntmps29
  go_wp2
  go_loopg [1, 5] len (fun g q i wr => ∃ k n : Nat, k ≤ len ∧ g = len - k ∧ q = .int .i64 ((k : Int) + 1) ∧ i = .int .i64 k ∧ wr = w.drewN n)
  case atStart => exact ⟨0, 0, Nat.zero_le _, rfl, rfl, rfl, rfl⟩
  case round =>
    obtain ⟨k, n, hk, rfl, rfl, rfl, rfl⟩ := hrel
    by_cases hlt : k < len
    · have g2 := h k hlt
      rw [Nat.zero_add] at g2
      unfold NearV at g2
      obtain ⟨c1, c2⟩ := near256 k (by omega)
      clear h
      go_wp2
      all_goals go_roundg (len - (k + 1))
      case measure => omega
      case rel => exact ⟨k + 1, _, by omega, rfl, congrArg (Value.int .i64) (by omega), congrArg (Value.int .i64) (by omega), rfl⟩
    · obtain rfl : k = len := by omega
      go_wp2
      go_ret
      exact ⟨rfl, _, rfl⟩
theorem eqNoN (w : World) : Calls Tryd.prog 25 #[.slice none 0 0, .slice none 0 0] w fun e w' => e = .returned (.bool true) ∧ w' = w := by
  go_enter Tryd.func25, Tryd.ntmps25
  go_wp2
  go_loopg [5] 0 (fun gg i wr => i = .int .i64 0 ∧ wr = w)
  case atStart => exact ⟨rfl, rfl⟩
  case round =>
    obtain ⟨rfl, rfl⟩ := hrel
    go_wp2
    go_ret
    exact ⟨rfl, rfl⟩
theorem markNoN (w : World) : Calls Tryd.prog 28 #[.slice none 0 0, .int .i64 1] w fun e w' => e = .returned (.int .i64 1) ∧ w' = w := by
  go_enter Tryd.func28, Tryd.ntmps28
  go_wp2
  go_loopg [1, 5] 0 (fun gg q i wr => q = .int .i64 1 ∧ i = .int .i64 0 ∧ wr = w)
  case atStart => exact ⟨rfl, rfl, rfl⟩
  case round =>
    obtain ⟨rfl, rfl, rfl⟩ := hrel
    go_wp2
    go_ret
    exact ⟨rfl, rfl⟩
theorem heldNoN (w : World) : Calls Tryd.prog 29 #[.slice none 0 0, .int .i64 1] w fun e w' => e = .returned (.int .i64 1) ∧ w' = w := by
  go_enter Tryd.func29, Tryd.ntmps29
  go_wp2
  go_loopg [1, 5] 0 (fun gg q i wr => q = .int .i64 1 ∧ i = .int .i64 0 ∧ wr = w)
  case atStart => exact ⟨rfl, rfl, rfl⟩
  case round =>
    obtain ⟨rfl, rfl, rfl⟩ := hrel
    go_wp2
    go_ret
    exact ⟨rfl, rfl⟩

def RnYes (s : ByteArray) (ns : List Nat) (w : World) (e : Ending) (w' : World) : Prop :=
  ∃ g cap, e = .returned (.tuple #[.slice (some ⟨g, 0, none⟩) ns.length cap, .bool true]) ∧ w.Since w.heap.size w' ∧ w.heap.size ≤ g ∧ g < w'.heap.size ∧ RowWN w' g ns
theorem RnAns.yes {s : ByteArray} {ns : List Nat} {w w' : World} {e : Ending} (h : RnAns s w e w') (hd : RnOk s ns) : RnYes s ns w e w' := by
  obtain ⟨hS, ⟨ms, g, cap, h1, h2, h3⟩ | ⟨h1, _⟩⟩ := h
  · rw [rnOk_uniq hd h1]; exact ⟨g, cap, h2, hS, h3⟩
  · exact absurd hd (h1 ns)
theorem RnAns.no {s : ByteArray} {w w' : World} {e : Ending} (h : RnAns s w e w') (hd : ∀ ns, ¬ RnOk s ns) : e = .returned (.tuple #[.slice none 0 0, .bool false]) ∧ w.Since w.heap.size w' := by
  obtain ⟨hS, ⟨ms, g, cap, h1, _⟩ | ⟨_, h2⟩⟩ := h
  · exact absurd h1 (hd ms)
  · exact ⟨h2, hS⟩
theorem rnOk_len {s : ByteArray} {ns : List Nat} (h : RnOk s ns) : ns.length ≤ 256 := by
  rcases h with ⟨_, rfl⟩ | ⟨_, h2, h3⟩
  · simp
  · rw [h3.1]; exact h2

theorem rnSp (s : ByteArray) (w : World) (hs : s.size ≤ 1048576) : Calls Tryd.prog 26 #[.string s] w (RnAns s w) := by
  by_cases hE : ∃ ns, RnOk s ns
  · obtain ⟨ns, hR⟩ := hE
    have HR := Lib.hid hR
    have hc : Calls Tryd.prog 51 #[.string s] w (RnYes s ns w) := (rnS s w hs).mono fun e w' h => h.yes HR.out
    obtain ⟨N, hN⟩ : ∃ N, ns.length = N := ⟨_, rfl⟩
    unfold RnYes at hc
    rw [hN] at hc
    have HC := Lib.hid hc
    clear hc hR
    go_enter Tryd.func26, Tryd.ntmps26
    go_wp2_with (go_at_call 51; refine HC.out.mono ?_; rintro e w' ⟨g, cap, rfl, hS, hg1, hg2, hW⟩; have HW := Lib.hid hW; clear hW)
    go_ret2
    exact ⟨hS, .inl ⟨ns, g, cap, HR.out, by rw [hN]; rfl, hg1, hg2, HW.out⟩⟩
  · have hno : ∀ ns, ¬ RnOk s ns := fun ns h => hE ⟨ns, h⟩
    have HN := Lib.hid hno
    clear hno hE
    go_enter Tryd.func26, Tryd.ntmps26
    go_wp2_with (go_at_call 51; refine (rnS s w hs).mono ?_; rintro e w' h; obtain ⟨rfl, hS⟩ := h.no HN.out; clear h)
    go_ret2
    exact ⟨hS, .inr ⟨HN.out, rfl⟩⟩

set_option maxRecDepth 20000 in
theorem walk_FnExactReadNumbers (s : ByteArray) (hs : s.size ≤ maxLen) (w : World) (hp : Tz w) (he : Errs w) (hm : MaxL w) :
    Calls Tryd.prog 8 #[.string s] w fun e w' => e = .returned (.bool true) ∧ Below w.heap.size w w' := by
  unfold maxLen at hs
  by_cases hl : 1048576 < s.size
  · have hl' : (1048576 : Int) < (s.size : Int) := by omega
    go_enter Tryd.func8, Tryd.ntmps8
    go_wp2
    go_ret
    exact ⟨rfl, Below.refl _ _⟩
  · have hl' : ¬ (1048576 : Int) < (s.size : Int) := by omega
    have hs' : s.size ≤ 1048576 := by omega
    have HP := Lib.hid hp
    have HE := Lib.hid he
    have HM := Lib.hid hm
    clear hp he hm
    by_cases hE : ∃ ns, RnOk s ns
    · obtain ⟨ns, hR⟩ := hE
      have HR := Lib.hid hR
      have hN64 := rnOk_len hR
      clear hR
      obtain ⟨N, hN⟩ : ∃ N, ns.length = N := ⟨_, rfl⟩
      have HN := Lib.hid hN
      rw [hN] at hN64
      clear hN
      have T0 : Stage 0 := trivial
      go_enter Tryd.func8, Tryd.ntmps8
      go_wp2_with (first
        | (go_at_call 26; clear T0; refine (rnSp s _ hs').mono ?_; rintro e w1 h; obtain ⟨ga, ca, rfl, SA, hga, hga2, WA⟩ := h.yes HR.out; clear h; rw [HN.out]; have RA := rowWN_rowN WA hga2; rw [HN.out] at RA; clear WA; have T1 : Stage 1 := trivial)
        | (go_at_call 27; clear T1; refine (rnI s _ hs' (HP.out.since SA) (HE.out.since SA) (HM.out.since SA)).mono ?_; rintro e w2 h; obtain ⟨gb, cb, rfl, SB, hgb, hgb2, WB⟩ := h.yes HR.out; clear h; rw [HN.out]; have RB := rowWN_rowN WB hgb2; rw [HN.out] at RB; have R2 := rowN_since RA SB; have HWB := Lib.hid WB; clear WB; have T2 : Stage 2 := trivial)
        | (go_at_call 25; clear T2; refine (eqF _ _ _ _ _ _ _ (fOfN ns) _ (by omega) RB.2 R2.2).mono ?_; rintro e w' ⟨rfl, n4, rfl⟩; have hmk : Calls Tryd.prog 28 #[.slice (some ⟨gb, 0, none⟩) ns.length cb, .int .i64 1] (w2.drewN n4) _ := markNG gb cb ns (w2.drewN n4) (by rw [HN.out]; exact hN64) HWB.out hgb2; rw [HN.out] at hmk; have HMK := Lib.hid hmk; clear hmk; have T3 : Stage 3 := trivial)
        | (go_at_call 28; clear T3; refine HMK.out.mono ?_; rintro e w3 ⟨rfl, k1, k2, k3, k4, k5, RM⟩; have R3 := rowN_of R2 (k1 ga (by have := RA.1; omega)) (Nat.le_of_eq k5.symm); have S2 := SA.trans (since_mono SB SA.size); have S3 : w.Since w.heap.size w3 := (since_drewN S2 n4).trans ⟨k2, k3, k4, Nat.le_of_eq k5.symm, fun k hk => k1 k (by have := SA.size; omega)⟩; clear HMK k1 k2 k3 k4 k5; have T4 : Stage 4 := trivial)
        | (go_at_call 29; clear T4; refine (heldNW _ _ _ _ (by omega) RM.2).mono ?_; rintro e w' ⟨rfl, n5, rfl⟩; have S3b := since_drewN S3 n5; have R3b := rowN_drew R3 n5; have RMb := rowN_drew RM n5; have T5 : Stage 5 := trivial)
        | (go_at_call 27; clear T5; refine (rnI s _ hs' (HP.out.since S3b) (HE.out.since S3b) (HM.out.since S3b)).mono ?_; rintro e w4 h; obtain ⟨gc, cc, rfl, SC, hgc, hgc2, WC⟩ := h.yes HR.out; clear h; rw [HN.out]; have RC := rowWN_rowN WC hgc2; rw [HN.out] at RC; clear WC; have R5 := rowN_since R3b SC; have RM5 := rowN_since RMb SC; have T6 : Stage 6 := trivial)
        | (go_at_call 25; clear T6; refine (eqF _ _ _ _ _ _ _ (fOfN ns) _ (by omega) RC.2 R5.2).mono ?_; rintro e w' ⟨rfl, n6, rfl⟩; have RM6 := rowN_drew RM5 n6; have T7 : Stage 7 := trivial)
        | (go_at_call 29; clear T7; refine (heldNW _ _ _ _ (by omega) RM6.2).mono ?_; rintro e w' ⟨rfl, n7, rfl⟩; have T8 : Stage 8 := trivial)
        | go_in)
      go_ret
      have S4 : w.Since w.heap.size w4 := S3b.trans (since_mono SC S3b.size)
      exact ⟨rfl, below_of_since (since_drewN S4 _)⟩
    · have hno : ∀ ns, ¬ RnOk s ns := fun ns h => hE ⟨ns, h⟩
      have HR := Lib.hid hno
      clear hno hE
      have T0 : Stage 0 := trivial
      go_enter Tryd.func8, Tryd.ntmps8
      go_wp2_with (first
        | (go_at_call 26; clear T0; refine (rnSp s _ hs').mono ?_; rintro e w1 h; obtain ⟨rfl, SA⟩ := h.no HR.out; clear h; have T1 : Stage 1 := trivial)
        | (go_at_call 27; clear T1; refine (rnI s _ hs' (HP.out.since SA) (HE.out.since SA) (HM.out.since SA)).mono ?_; rintro e w2 h; obtain ⟨rfl, SB⟩ := h.no HR.out; clear h; have S2 := since_up SA SB; have T2 : Stage 2 := trivial)
        | (go_at_call 27; clear T2; refine (rnI s _ hs' (HP.out.since S2) (HE.out.since S2) (HM.out.since S2)).mono ?_; rintro e w3 h; obtain ⟨rfl, SC⟩ := h.no HR.out; clear h; have S3 := since_up S2 SC; have T3 : Stage 3 := trivial)
        | (go_at_call 25; refine (eqNoN _).mono ?_; rintro e w' ⟨rfl, hw⟩; subst w')
        | (go_at_call 28; refine (markNoN _).mono ?_; rintro e w' ⟨rfl, hw⟩; subst w')
        | (go_at_call 29; refine (heldNoN _).mono ?_; rintro e w' ⟨rfl, hw⟩; subst w')
        | go_in)
      go_ret
      exact ⟨rfl, below_of_since S3⟩
end Go.Proofs.YtmlodheanckadaaDoor
