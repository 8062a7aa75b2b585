/-
  Walk of the law FnExactReadList, where the library's variables hold what they were laid with: for every text it returns true and writes nothing that was there. No condition.
-/
import Derived.Test.YtmlodheanckadaaDoorWkRlI
namespace Go.Proofs.YtmlodheanckadaaDoor
open Go.RowKit Go.Deep
set_option linter.unusedVariables false
set_option linter.unusedSimpArgs false

def fOf (ns : List Int) (i : Nat) : Int := ns.getD i 0
theorem rowWI_rowI {u : World} {g : Nat} {ns : List Int} (h : RowWI u g ns) (hg : g < u.heap.size) : RowI u g ns.length (fOf ns) := by
  refine ⟨hg, fun i hi => ?_⟩
  rcases h with rfl | ⟨N, V, h1, h2, h3⟩
  · simp at hi
  · rw [Nat.zero_add, h1.cell (show i < N by omega), h3 i _ (List.getElem?_eq_getElem hi)]
    simp [fOf, hi]

/-- A row of int64 at block b, of which j are written with 1, 2, .. -/
def MarkI (w wr : World) (b len j : Nat) (V : Nat → Value) : Prop :=
  (∀ k, k ≠ b → wr.heap[k]? = w.heap[k]?) ∧ wr.os = w.os ∧ wr.tape = w.tape ∧ wr.output = w.output ∧ wr.heap.size = w.heap.size ∧ ∃ n, wr.rowIs b 2 n (fun i => if i < j then .int .i64 ((i : Int) + 1) else V i) ∧ len ≤ n
theorem markI_step {w wr : World} {b len j : Nat} {V : Nat → Value} (h : MarkI w wr b len j V) : MarkI w (wr.setCell ⟨b, j, none⟩ (.int .i64 ((j : Int) + 1))) b len (j + 1) V := by
  obtain ⟨h1, h2, h3, h4, h5, n, h6, h7⟩ := h
  refine ⟨fun k hk => ?_, h2, h3, h4, by rw [← h5]; simp [World.setCell], n, (h6.set j _).congr fun i hi => ?_, h7⟩
  · rw [blk_setCell_other _ _ _ _ hk]; exact h1 k hk
  · by_cases e : i = j
    · subst e; simp
    · by_cases l : i < j
      · simp [e, l, show i < j + 1 by omega]
      · simp [e, l, show ¬ i < j + 1 by omega]

theorem markIW (b len cap : Nat) (f : Nat → Int) (V : Nat → Value) (hV : ∀ i, i < len → V i = .int .i64 (f i)) (w : World) (hl : len ≤ 64) (h : MarkI w w b len 0 V) :
    Calls Tryd.prog 20 #[.slice (some ⟨b, 0, none⟩) len cap, .int .i64 1] w fun e w' => e = .returned (.int .i64 ((len : Int) + 1)) ∧ MarkI w w' b len len V := by
  go_enter Tryd.func20, Tryd.ntmps20
  go_wp2
  go_loopg [1, 5] len (fun g q i wr => ∃ k : Nat, k ≤ len ∧ g = len - k ∧ q = .int .i64 ((k : Int) + 1) ∧ i = .int .i64 k ∧ MarkI w wr b len k V)
  case atStart => exact ⟨0, Nat.zero_le _, rfl, rfl, rfl, h⟩
  case round =>
    obtain ⟨k, hk, rfl, rfl, rfl, hM⟩ := hrel
    by_cases hlt : k < len
    · have HM := Lib.hid hM
      obtain ⟨_, _, _, _, _, n, h6, h7⟩ := hM
      have g2 : wr.cell? ⟨b, k, none⟩ = some (.int .i64 (f k)) := by have := h6.cell (show k < n by omega); rw [if_neg (Nat.lt_irrefl k), hV k hlt] at this; exact this
      have g3 : wr.frozen? ⟨b, k, none⟩ = false := h6.frozen k
      clear h6 h7 h hV
      go_wp2
      go_roundg (len - (k + 1))
      case measure => omega
      case rel => exact ⟨k + 1, by omega, rfl, congrArg (Value.int .i64) (by omega), congrArg (Value.int .i64) (by omega), markI_step HM.out⟩
    · obtain rfl : k = len := by omega
      go_wp2
      go_ret
      exact ⟨rfl, hM⟩
theorem markIE (b cap : Nat) (w : World) :
    Calls Tryd.prog 20 #[.slice (some ⟨b, 0, none⟩) 0 cap, .int .i64 1] w fun e w' => e = .returned (.int .i64 1) ∧ w' = w := by
  go_enter Tryd.func20, Tryd.ntmps20
  go_wp2
  go_loopg [1, 5] 0 (fun gg q i wr => q = .int .i64 1 ∧ i = .int .i64 0 ∧ wr = w)
  case atStart => exact ⟨rfl, rfl, rfl⟩
  case round =>
    obtain ⟨rfl, rfl, rfl⟩ := hrel
    go_wp2
    go_ret
    exact ⟨rfl, rfl⟩

def OneUp (i : Nat) : Int := (i : Int) + 1
theorem markIG (g cap : Nat) (ns : List Int) (w : World) (hl : ns.length ≤ 64) (h : RowWI w g ns) (hg : g < w.heap.size) :
    Calls Tryd.prog 20 #[.slice (some ⟨g, 0, none⟩) ns.length cap, .int .i64 1] w fun e w' => e = .returned (.int .i64 ((ns.length : Int) + 1)) ∧ (∀ k, k ≠ g → w'.heap[k]? = w.heap[k]?) ∧ w'.os = w.os ∧ w'.tape = w.tape ∧ w'.output = w.output ∧ w'.heap.size = w.heap.size ∧ RowI w' g ns.length OneUp := by
  rcases h with rfl | ⟨N, V, h1, h2, h3⟩
  · refine (markIE g cap w).mono ?_
    rintro e w' ⟨rfl, rfl⟩
    exact ⟨rfl, fun _ _ => rfl, rfl, rfl, rfl, rfl, hg, fun i hi => by simp at hi⟩
  · refine (markIW g ns.length cap (fOf ns) V (fun i hi => by rw [h3 i _ (List.getElem?_eq_getElem hi)]; simp [fOf, hi]) w hl ⟨fun _ _ => rfl, rfl, rfl, rfl, rfl, N, h1.congr fun i hi => by rw [if_neg (Nat.not_lt_zero _)], h2⟩).mono ?_
    rintro e w' ⟨rfl, k1, k2, k3, k4, k5, N', k6, k7⟩
    exact ⟨rfl, k1, k2, k3, k4, k5, k6.lt, fun i hi => by rw [Nat.zero_add, k6.cell (show i < N' by omega), if_pos hi]; rfl⟩

theorem heldIW (b len cap : Nat) (w : World) (hl : len ≤ 64) (h : ∀ i : Nat, i < len → w.cell? ⟨b, 0 + i, none⟩ = some (.int .i64 (OneUp i))) :
    Calls Tryd.prog 21 #[.slice (some ⟨b, 0, none⟩) len cap, .int .i64 1] w fun e w' => e = .returned (.int .i64 ((len : Int) + 1)) ∧ w' = w := by
  go_enter Tryd.func21, Tryd.ntmps21
  go_wp2
  go_loopg [1, 5] len (fun g q i wr => ∃ k : Nat, k ≤ len ∧ g = len - k ∧ q = .int .i64 ((k : Int) + 1) ∧ i = .int .i64 k ∧ wr = w)
  case atStart => exact ⟨0, Nat.zero_le _, rfl, rfl, rfl, rfl⟩
  case round =>
    obtain ⟨k, hk, rfl, rfl, rfl, rfl⟩ := hrel
    by_cases hlt : k < len
    · have g2 := h k hlt
      rw [Nat.zero_add] at g2
      unfold OneUp at g2
      clear h
      go_wp2
      go_roundg (len - (k + 1))
      case measure => omega
      case rel => exact ⟨k + 1, by omega, rfl, congrArg (Value.int .i64) (by omega), congrArg (Value.int .i64) (by omega), rfl⟩
    · obtain rfl : k = len := by omega
      go_wp2
      go_ret
      exact ⟨rfl, rfl⟩
theorem eqNoI (w : World) : Calls Tryd.prog 17 #[.slice none 0 0, .slice none 0 0] w fun e w' => e = .returned (.bool true) ∧ w' = w := by
  go_enter Tryd.func17, Tryd.ntmps17
  go_wp2
  go_loopg [5] 0 (fun gg i wr => i = .int .i64 0 ∧ wr = w)
  case atStart => exact ⟨rfl, rfl⟩
  case round =>
    obtain ⟨rfl, rfl⟩ := hrel
    go_wp2
    go_ret
    exact ⟨rfl, rfl⟩
theorem markNoI (w : World) : Calls Tryd.prog 20 #[.slice none 0 0, .int .i64 1] w fun e w' => e = .returned (.int .i64 1) ∧ w' = w := by
  go_enter Tryd.func20, Tryd.ntmps20
  go_wp2
  go_loopg [1, 5] 0 (fun gg q i wr => q = .int .i64 1 ∧ i = .int .i64 0 ∧ wr = w)
  case atStart => exact ⟨rfl, rfl, rfl⟩
  case round =>
    obtain ⟨rfl, rfl, rfl⟩ := hrel
    go_wp2
    go_ret
    exact ⟨rfl, rfl⟩
theorem heldNoI (w : World) : Calls Tryd.prog 21 #[.slice none 0 0, .int .i64 1] w fun e w' => e = .returned (.int .i64 1) ∧ w' = w := by
  go_enter Tryd.func21, Tryd.ntmps21
  go_wp2
  go_loopg [1, 5] 0 (fun gg q i wr => q = .int .i64 1 ∧ i = .int .i64 0 ∧ wr = w)
  case atStart => exact ⟨rfl, rfl, rfl⟩
  case round =>
    obtain ⟨rfl, rfl, rfl⟩ := hrel
    go_wp2
    go_ret
    exact ⟨rfl, rfl⟩

/-- The answer where there are numbers; where there are none. -/
def RlYes (s : ByteArray) (ns : List Int) (w : World) (e : Ending) (w' : World) : Prop :=
  ∃ g cap, e = .returned (.tuple #[.slice (some ⟨g, 0, none⟩) ns.length cap, .bool true]) ∧ w.Since w.heap.size w' ∧ w.heap.size ≤ g ∧ g < w'.heap.size ∧ RowWI w' g ns
theorem RlAns.yes {s : ByteArray} {ns : List Int} {w w' : World} {e : Ending} (h : RlAns s w e w') (hd : RdOk s ns) : RlYes s ns w e w' := by
  obtain ⟨hS, ⟨ms, g, cap, h1, h2, h3⟩ | ⟨h1, _⟩⟩ := h
  · rw [rdOk_uniq hd h1]; exact ⟨g, cap, h2, hS, h3⟩
  · exact absurd hd (h1 ns)
theorem RlAns.no {s : ByteArray} {w w' : World} {e : Ending} (h : RlAns s w e w') (hd : ∀ ns, ¬ RdOk s ns) : e = .returned (.tuple #[.slice none 0 0, .bool false]) ∧ w.Since w.heap.size w' := by
  obtain ⟨hS, ⟨ms, g, cap, h1, _⟩ | ⟨_, h2⟩⟩ := h
  · exact absurd h1 (hd ms)
  · exact ⟨h2, hS⟩
theorem rdOk_len {s : ByteArray} {ns : List Int} (h : RdOk s ns) : ns.length ≤ 64 := (riOk_len (rdOk_ri h)).1 h

theorem rlSp (s : ByteArray) (w : World) (hs : s.size ≤ 1048576) : Calls Tryd.prog 18 #[.string s] w (RlAns s w) := by
  by_cases hE : ∃ ns, RdOk s ns
  · obtain ⟨ns, hR⟩ := hE
    have HR := Lib.hid hR
    have hc : Calls Tryd.prog 44 #[.string s] w (RlYes s ns w) := (rlS s w hs).mono fun e w' h => h.yes HR.out
    obtain ⟨N, hN⟩ : ∃ N, ns.length = N := ⟨_, rfl⟩
    unfold RlYes at hc
    rw [hN] at hc
    have HC := Lib.hid hc
    clear hc hR
    go_enter Tryd.func18, Tryd.ntmps18
    go_wp2_with (go_at_call 44; refine HC.out.mono ?_; rintro e w' ⟨g, cap, rfl, hS, hg1, hg2, hW⟩; have HW := Lib.hid hW; clear hW)
    go_ret2
    exact ⟨hS, .inl ⟨ns, g, cap, HR.out, by rw [hN]; rfl, hg1, hg2, HW.out⟩⟩
  · have hno : ∀ ns, ¬ RdOk s ns := fun ns h => hE ⟨ns, h⟩
    have HN := Lib.hid hno
    clear hno hE
    go_enter Tryd.func18, Tryd.ntmps18
    go_wp2_with (go_at_call 44; refine (rlS s w hs).mono ?_; rintro e w' h; obtain ⟨rfl, hS⟩ := h.no HN.out; clear h)
    go_ret2
    exact ⟨hS, .inr ⟨HN.out, rfl⟩⟩

theorem rowI_of {u v : World} {b len : Nat} {f : Nat → Int} (h : RowI u b len f) (e : v.heap[b]? = u.heap[b]?) (hs : u.heap.size ≤ v.heap.size) : RowI v b len f :=
  ⟨Nat.lt_of_lt_of_le h.1 hs, fun i hi => by rw [World.cell?_of_block (w := u) (a := ⟨b, 0 + i, none⟩) e]; exact h.2 i hi⟩

set_option maxRecDepth 20000 in
theorem walk_FnExactReadList (s : ByteArray) (hs : s.size ≤ maxLen) (w : World) (hp : Pow w) (he : Errs w) (hm : MaxL w) :
    Calls Tryd.prog 6 #[.string s] w fun e w' => e = .returned (.bool true) ∧ Below w.heap.size w w' := by
  unfold maxLen at hs
  by_cases hl : 1048576 < s.size
  · have hl' : (1048576 : Int) < (s.size : Int) := by omega
    go_enter Tryd.func6, Tryd.ntmps6
    go_wp2
    go_ret
    exact ⟨rfl, Below.refl _ _⟩
  · have hl' : ¬ (1048576 : Int) < (s.size : Int) := by omega
    have hs' : s.size ≤ 1048576 := by omega
    have HP := Lib.hid hp
    have HE := Lib.hid he
    have HM := Lib.hid hm
    clear hp he hm
    by_cases hE : ∃ ns, RdOk s ns
    · obtain ⟨ns, hR⟩ := hE
      have HR := Lib.hid hR
      have hN64 := rdOk_len hR
      clear hR
      obtain ⟨N, hN⟩ : ∃ N, ns.length = N := ⟨_, rfl⟩
      have HN := Lib.hid hN
      rw [hN] at hN64
      clear hN
      have T0 : Stage 0 := trivial
      go_enter Tryd.func6, Tryd.ntmps6
      go_wp2_with (first
        | (go_at_call 18; clear T0; refine (rlSp s _ hs').mono ?_; rintro e w1 h; obtain ⟨ga, ca, rfl, SA, hga, hga2, WA⟩ := h.yes HR.out; clear h; rw [HN.out]; have RA := rowWI_rowI WA hga2; rw [HN.out] at RA; clear WA; have T1 : Stage 1 := trivial)
        | (go_at_call 19; clear T1; refine (rlI s _ hs' (HP.out.since SA) (HE.out.since SA) (HM.out.since SA)).mono ?_; rintro e w2 h; obtain ⟨gb, cb, rfl, SB, hgb, hgb2, WB⟩ := h.yes HR.out; clear h; rw [HN.out]; have RB := rowWI_rowI WB hgb2; rw [HN.out] at RB; have R2 := rowI_since RA SB; have HWB := Lib.hid WB; clear WB; have T2 : Stage 2 := trivial)
        | (go_at_call 17; clear T2; refine (eqI _ _ _ _ _ _ _ (fOf ns) _ (by omega) RB.2 R2.2).mono ?_; rintro e w' ⟨rfl, n4, rfl⟩; have hmk : Calls Tryd.prog 20 #[.slice (some ⟨gb, 0, none⟩) ns.length cb, .int .i64 1] (w2.drewN n4) _ := markIG gb cb ns (w2.drewN n4) (by rw [HN.out]; exact hN64) HWB.out hgb2; rw [HN.out] at hmk; have HMK := Lib.hid hmk; clear hmk; have T3 : Stage 3 := trivial)
        | (go_at_call 20; clear T3; refine HMK.out.mono ?_; rintro e w3 ⟨rfl, k1, k2, k3, k4, k5, RM⟩; have R3 := rowI_of R2 (k1 ga (by have := RA.1; omega)) (Nat.le_of_eq k5.symm); have S2 := SA.trans (since_mono SB SA.size); have S3 : w.Since w.heap.size w3 := (since_drewN S2 n4).trans ⟨k2, k3, k4, Nat.le_of_eq k5.symm, fun k hk => k1 k (by have := SA.size; omega)⟩; clear HMK k1 k2 k3 k4 k5; have T4 : Stage 4 := trivial)
        | (go_at_call 21; clear T4; refine (heldIW _ _ _ _ (by omega) RM.2).mono ?_; rintro e w' ⟨rfl, hw⟩; subst w'; have T5 : Stage 5 := trivial)
        | (go_at_call 19; clear T5; refine (rlI s _ hs' (HP.out.since S3) (HE.out.since S3) (HM.out.since S3)).mono ?_; rintro e w4 h; obtain ⟨gc, cc, rfl, SC, hgc, hgc2, WC⟩ := h.yes HR.out; clear h; rw [HN.out]; have RC := rowWI_rowI WC hgc2; rw [HN.out] at RC; clear WC; have R5 := rowI_since R3 SC; have RM5 := rowI_since RM SC; have T6 : Stage 6 := trivial)
        | (go_at_call 17; clear T6; refine (eqI _ _ _ _ _ _ _ (fOf ns) _ (by omega) RC.2 R5.2).mono ?_; rintro e w' ⟨rfl, n6, rfl⟩; have RM6 := rowI_drew RM5 n6; have T7 : Stage 7 := trivial)
        | (go_at_call 21; clear T7; refine (heldIW _ _ _ _ (by omega) RM6.2).mono ?_; rintro e w' ⟨rfl, hw⟩; subst w'; have T8 : Stage 8 := trivial)
        | go_in)
      go_ret
      have S4 : w.Since w.heap.size w4 := S3.trans (since_mono SC S3.size)
      exact ⟨rfl, below_of_since (since_drewN S4 _)⟩
    · have hno : ∀ ns, ¬ RdOk s ns := fun ns h => hE ⟨ns, h⟩
      have HR := Lib.hid hno
      clear hno hE
      have T0 : Stage 0 := trivial
      go_enter Tryd.func6, Tryd.ntmps6
      go_wp2_with (first
        | (go_at_call 18; clear T0; refine (rlSp s _ hs').mono ?_; rintro e w1 h; obtain ⟨rfl, SA⟩ := h.no HR.out; clear h; have T1 : Stage 1 := trivial)
        | (go_at_call 19; clear T1; refine (rlI s _ hs' (HP.out.since SA) (HE.out.since SA) (HM.out.since SA)).mono ?_; rintro e w2 h; obtain ⟨rfl, SB⟩ := h.no HR.out; clear h; have S2 := since_up SA SB; have T2 : Stage 2 := trivial)
        | (go_at_call 19; clear T2; refine (rlI s _ hs' (HP.out.since S2) (HE.out.since S2) (HM.out.since S2)).mono ?_; rintro e w3 h; obtain ⟨rfl, SC⟩ := h.no HR.out; clear h; have S3 := since_up S2 SC; have T3 : Stage 3 := trivial)
        | (go_at_call 17; refine (eqNoI _).mono ?_; rintro e w' ⟨rfl, hw⟩; subst w')
        | (go_at_call 20; refine (markNoI _).mono ?_; rintro e w' ⟨rfl, hw⟩; subst w')
        | (go_at_call 21; refine (heldNoI _).mono ?_; rintro e w' ⟨rfl, hw⟩; subst w')
        | go_in)
      go_ret
      exact ⟨rfl, below_of_since S3⟩
end Go.Proofs.YtmlodheanckadaaDoor
