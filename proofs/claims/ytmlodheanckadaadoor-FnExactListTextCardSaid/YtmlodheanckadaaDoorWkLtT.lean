/-
  Walk of the law FnExactListText, where the library's variables hold what they were laid with: for every list it returns true and writes nothing that was there. No condition.
-/
import Derived.Test.YtmlodheanckadaaDoorWkLt
namespace Go.Proofs.YtmlodheanckadaaDoor
open Go.RowKit Go.Deep
set_option linter.unusedVariables false
set_option linter.unusedSimpArgs false

/-- What both of them answer. -/
def LtAns (f : Nat → Int) (len : Nat) (w : World) (e : Ending) (w' : World) : Prop :=
  w.Since w.heap.size w' ∧ ((ValsOk f len ∧ e = .returned (.tuple #[.string ⟨(textL (fun i => Lib.itoa (f i)) len).toArray⟩, .bool true])) ∨ (¬ ValsOk f len ∧ e = .returned (.tuple #[.string ⟨#[]⟩, .bool false])))

theorem okS_yes {b off len cap : Nat} {f : Nat → Int} {w : World} (hl : len ≤ 1048576) (h1 : ∀ i, i < len → w.cell? ⟨b, off + i, none⟩ = some (.int .i64 (f i))) (hv : ValsOk f len) :
    Calls Tryd.prog 40 #[.slice (some ⟨b, off, none⟩) len cap] w fun e w' => e = .returned (.bool true) ∧ w' = w :=
  (okS b off len cap f w hl h1).mono fun e w' ⟨hw, h⟩ => by
    rcases h with ⟨_, he⟩ | ⟨hn, _⟩
    · exact ⟨he, hw⟩
    · exact absurd hv hn
theorem okS_no {b off len cap : Nat} {f : Nat → Int} {w : World} (hl : len ≤ 1048576) (h1 : ∀ i, i < len → w.cell? ⟨b, off + i, none⟩ = some (.int .i64 (f i))) (hv : ¬ ValsOk f len) :
    Calls Tryd.prog 40 #[.slice (some ⟨b, off, none⟩) len cap] w fun e w' => e = .returned (.bool false) ∧ w' = w :=
  (okS b off len cap f w hl h1).mono fun e w' ⟨hw, h⟩ => by
    rcases h with ⟨hn, _⟩ | ⟨_, he⟩
    · exact absurd hn hv
    · exact ⟨he, hw⟩
theorem okI_yes {b off len cap : Nat} {f : Nat → Int} {w : World} (hl : len ≤ 1048576) (h1 : ∀ i, i < len → w.cell? ⟨b, off + i, none⟩ = some (.int .i64 (f i))) (hv : ValsOk f len) :
    Calls Tryd.prog 42 #[.slice (some ⟨b, off, none⟩) len cap] w fun e w' => e = .returned (.bool true) ∧ w' = w :=
  (okI b off len cap f w hl h1).mono fun e w' ⟨hw, h⟩ => by
    rcases h with ⟨_, he⟩ | ⟨hn, _⟩
    · exact ⟨he, hw⟩
    · exact absurd hv hn
theorem okI_no {b off len cap : Nat} {f : Nat → Int} {w : World} (hl : len ≤ 1048576) (h1 : ∀ i, i < len → w.cell? ⟨b, off + i, none⟩ = some (.int .i64 (f i))) (hv : ¬ ValsOk f len) :
    Calls Tryd.prog 42 #[.slice (some ⟨b, off, none⟩) len cap] w fun e w' => e = .returned (.bool false) ∧ w' = w :=
  (okI b off len cap f w hl h1).mono fun e w' ⟨hw, h⟩ => by
    rcases h with ⟨hn, _⟩ | ⟨_, he⟩
    · exact absurd hn hv
    · exact ⟨he, hw⟩

theorem ltS (b len cap : Nat) (f : Nat → Int) (w : World) (hl : len ≤ 1048576) (hr : RowI w b len f) :
    Calls Tryd.prog 14 #[.slice (some ⟨b, 0, none⟩) len cap] w (LtAns f len w) := by
  obtain ⟨hb, h1⟩ := hr
  have H1 := Lib.hid h1
  clear h1
  by_cases hv : ValsOk f len
  all_goals
    have HV := Lib.hid hv
    clear hv
    go_enter Tryd.func14, Tryd.ntmps14
  · go_wp2_with (first
      | (go_at_call 40; refine (okS_yes hl H1.out HV.out).mono ?_; rintro e w' ⟨rfl, hw⟩; subst w')
      | (go_at_call 41; refine (txS b 0 len cap f _ HV.out H1.out hb).mono ?_; rintro e w1 ⟨rfl, S1⟩)
      | go_in)
    go_ret2
    exact ⟨S1, .inl ⟨HV.out, rfl⟩⟩
  · go_wp2_with (first
      | (go_at_call 40; refine (okS_no hl H1.out HV.out).mono ?_; rintro e w' ⟨rfl, hw⟩; subst w')
      | go_in)
    go_ret2
    exact ⟨World.Since.refl _ _, .inr ⟨HV.out, rfl⟩⟩

theorem ltI (b len cap : Nat) (f : Nat → Int) (w : World) (hl : len ≤ 1048576) (hp : Pow w) (hr : RowI w b len f) :
    Calls Tryd.prog 16 #[.slice (some ⟨b, 0, none⟩) len cap] w (LtAns f len w) := by
  obtain ⟨hb, h1⟩ := hr
  have H1 := Lib.hid h1
  clear h1
  by_cases hv : ValsOk f len
  all_goals
    have HV := Lib.hid hv
    clear hv
    go_enter Tryd.func16, Tryd.ntmps16
  · go_wp2_with (first
      | (go_at_call 42; refine (okI_yes hl H1.out HV.out).mono ?_; rintro e w' ⟨rfl, hw⟩; subst w')
      | (go_at_call 43; refine (txI b 0 len cap f _ HV.out hp H1.out hb).mono ?_; rintro e w1 ⟨rfl, S1⟩)
      | go_in)
    go_ret2
    exact ⟨S1, .inl ⟨HV.out, rfl⟩⟩
  · go_wp2_with (first
      | (go_at_call 42; refine (okI_no hl H1.out HV.out).mono ?_; rintro e w' ⟨rfl, hw⟩; subst w')
      | go_in)
    go_ret2
    exact ⟨World.Since.refl _ _, .inr ⟨HV.out, rfl⟩⟩

theorem LtAns.some {f : Nat → Int} {len : Nat} {w w' : World} {e : Ending} (h : LtAns f len w e w') : ∃ (T : ByteArray) (ok : Bool), e = .returned (.tuple #[.string T, .bool ok]) ∧ w.Since w.heap.size w' ∧ Hid (T = (if ok then ⟨(textL (fun i => Lib.itoa (f i)) len).toArray⟩ else ⟨#[]⟩) ∧ (ok = true ↔ ValsOk f len)) := by
  obtain ⟨hS, ⟨hv, he⟩ | ⟨hv, he⟩⟩ := h
  · exact ⟨_, true, he, hS, Lib.hid ⟨rfl, by simp [hv]⟩⟩
  · exact ⟨_, false, he, hS, Lib.hid ⟨rfl, by simp [hv]⟩⟩
theorem same_ans {f : Nat → Int} {len : Nat} {T T' : ByteArray} {ok ok' : Bool} (h : T = (if ok then ⟨(textL (fun i => Lib.itoa (f i)) len).toArray⟩ else ⟨#[]⟩) ∧ (ok = true ↔ ValsOk f len)) (h' : T' = (if ok' then ⟨(textL (fun i => Lib.itoa (f i)) len).toArray⟩ else ⟨#[]⟩) ∧ (ok' = true ↔ ValsOk f len)) : T' = T ∧ ok' = ok := by
  have e : ok' = ok := Bool.eq_iff_iff.2 (h'.2.trans h.2.symm)
  subst e
  exact ⟨h'.1.trans h.1.symm, rfl⟩

set_option maxRecDepth 20000 in
theorem walk_FnExactListText (a0 : Option Addr) (len0 cap0 : Nat) (f : Nat → Int) (w : World) (hp : Pow w) (w0 : SrcI w a0 len0 f) :
    Calls Tryd.prog 5 #[.slice a0 len0 cap0] w fun e w' => e = .returned (.bool true) ∧ Below w.heap.size w w' := by
  by_cases hl : len0 ≤ 1048576
  · have hl' : ¬ (1048576 : Int) < (len0 : Int) := by omega
    have S0 : w.Since w.heap.size w := World.Since.refl _ _
    have T0 : Stage 0 := trivial
    go_enter Tryd.func5, Tryd.ntmps5
    go_wp2_with (first
      | (go_at_call 15; clear T0; refine (toI _ _ _ f _ hl (srcI_since w0 S0)).mono ?_; rintro e v1 ⟨rfl, hM⟩; have S1 := since_up S0 hM.1; have R1 := rowI_made hM; have T1 : Stage 1 := trivial; clear hM)
      | (go_at_call 14; clear T1; refine (ltS _ _ _ f _ hl R1).mono ?_; rintro e v2 hA; obtain ⟨T, ok, rfl, hS, HT⟩ := hA.some; have S2 := since_up S1 hS; have T2 : Stage 2 := trivial; clear hA)
      | (go_at_call 15; clear T2; refine (toI _ _ _ f _ hl (srcI_since w0 S2)).mono ?_; rintro e v3 ⟨rfl, hM⟩; have S3 := since_up S2 hM.1; have R3 := rowI_made hM; have T3 : Stage 3 := trivial; clear hM)
      | (go_at_call 16; clear T3; refine (ltI _ _ _ f _ hl (hp.since S3) R3).mono ?_; rintro e v4 hA; obtain ⟨T', ok', rfl, hS', HT'⟩ := hA.some; obtain ⟨e1, e2⟩ := same_ans HT.out HT'.out; subst e1; subst e2; have S4 := since_up S3 hS'; have R4 := rowI_since R3 hS'; have T4 : Stage 4 := trivial; clear hA)
      | (go_at_call 15; clear T4; refine (toI _ _ _ f _ hl (srcI_since w0 S4)).mono ?_; rintro e v5 ⟨rfl, hM⟩; have S5 := since_up S4 hM.1; have R5 := rowI_made hM; have R5b := rowI_since R4 hM.1; have T5 : Stage 5 := trivial; clear hM)
      | (go_at_call 17; clear T5; refine (eqI _ _ _ _ _ _ _ f _ hl R5b.2 R5.2).mono ?_; rintro e w' ⟨rfl, n4, rfl⟩; have T6 : Stage 6 := trivial)
      | go_in)
    all_goals go_ret
    all_goals exact ⟨rfl, below_of_since (since_drewN S5 _)⟩
  · have hl' : (1048576 : Int) < (len0 : Int) := by omega
    go_enter Tryd.func5, Tryd.ntmps5
    go_wp2
    go_ret
    exact ⟨rfl, Below.refl _ _⟩
end Go.Proofs.YtmlodheanckadaaDoor
