/-
  Walk of the law FnExactNumbersText, where the library's table holds what it was laid with: for every list it returns true and writes nothing that was there. No condition.
-/
import Derived.Test.YtmlodheanckadaaDoorWkNt
import Derived.Test.YtmlodheanckadaaDoorWkEq
namespace Go.Proofs.YtmlodheanckadaaDoor
open Go.RowKit Go.Deep
set_option linter.unusedVariables false
set_option linter.unusedSimpArgs false

/-- A row of float32 where it lies. -/
def RowF (u : World) (b len : Nat) (f : Nat → Nat) : Prop := b < u.heap.size ∧ ∀ i, i < len → u.cell? ⟨b, 0 + i, none⟩ = some (.float .f32 (f i))
theorem rowF_made {u v : World} {len : Nat} {f : Nat → Nat} (h : MidF u v len len f) : RowF v u.heap.size len f :=
  ⟨by have := h.2.1; omega, fun i hi => by rw [Nat.zero_add, h.2.2.cell hi, if_pos hi]⟩
theorem rowF_since {u v : World} {b len : Nat} {f : Nat → Nat} (h : RowF u b len f) (s : u.Since u.heap.size v) : RowF v b len f :=
  ⟨Nat.lt_of_lt_of_le h.1 s.size, fun i hi => by rw [s.cell (a := ⟨b, 0 + i, none⟩) h.1]; exact h.2 i hi⟩
theorem rowF_drew {u : World} {b l : Nat} {f : Nat → Nat} (h : RowF u b l f) (n : Nat) : RowF (u.drewN n) b l f := h
theorem srcF_since {w u : World} {a : Option Addr} {len : Nat} {f : Nat → Nat} (h : SrcF w a len f) (k : w.Since w.heap.size u) : SrcF u a len f := by
  rcases h with h | ⟨b, off, h1, h2, h3⟩
  · exact Or.inl h
  · exact Or.inr ⟨b, off, h1, Nat.lt_of_lt_of_le h2 k.size, fun i hi => by rw [k.cell (a := ⟨b, off + i, none⟩) h2]; exact h3 i hi⟩
theorem NtAns.some {f : Nat → Nat} {len : Nat} {w w' : World} {e : Ending} (h : NtAns f len w e w') : ∃ (T : ByteArray) (ok : Bool), e = .returned (.tuple #[.string T, .bool ok]) ∧ w.Since w.heap.size w' ∧ Hid (T = (if len ≤ 256 then ⟨(textL (hx8 f) len).toArray⟩ else ⟨#[]⟩) ∧ ok = decide (len ≤ 256)) :=
  ⟨_, _, h.1, h.2, Lib.hid ⟨rfl, rfl⟩⟩

set_option maxRecDepth 20000 in
theorem walk_FnExactNumbersText (a0 : Option Addr) (len0 cap0 : Nat) (f : Nat → Nat) (w : World) (ht : Tz w) (w1 : SrcF w a0 len0 f ∧ ∀ i, f i < 4294967296) :
    Calls Tryd.prog 7 #[.slice a0 len0 cap0] w fun e w' => e = .returned (.bool true) ∧ Below w.heap.size w w' := by
  obtain ⟨w0, hf⟩ := w1
  have HF := Lib.hid hf
  have HT := Lib.hid ht
  clear hf ht
  by_cases hl : len0 ≤ 1048576
  · have hl' : ¬ (1048576 : Int) < (len0 : Int) := by omega
    have S0 : w.Since w.heap.size w := World.Since.refl _ _
    have T0 : Stage 0 := trivial
    go_enter Tryd.func7, Tryd.ntmps7
    go_wp2_with (first
      | (go_at_call 23; clear T0; refine (toF _ _ _ f _ hl (srcF_since w0 S0)).mono ?_; rintro e v1 ⟨rfl, hM⟩; have S1 := since_up S0 hM.1; have R1 := rowF_made hM; have T1 : Stage 1 := trivial; clear hM)
      | (go_at_call 22; clear T1; refine (ntS _ _ _ _ f _ HF.out hl R1.2 R1.1).mono ?_; rintro e v2 hA; obtain ⟨T, ok, rfl, hS, HA⟩ := hA.some; have S2 := since_up S1 hS; have T2 : Stage 2 := trivial; clear hA)
      | (go_at_call 23; clear T2; refine (toF _ _ _ f _ hl (srcF_since w0 S2)).mono ?_; rintro e v3 ⟨rfl, hM⟩; have S3 := since_up S2 hM.1; have R3 := rowF_made hM; have T3 : Stage 3 := trivial; clear hM)
      | (go_at_call 24; clear T3; refine (ntI _ _ _ _ f _ HF.out hl (HT.out.since S3) R3.2 R3.1).mono ?_; rintro e v4 hA; obtain ⟨T', ok', rfl, hS', HA'⟩ := hA.some; have e1 : T' = T := HA'.out.1.trans HA.out.1.symm; have e2 : ok' = ok := HA'.out.2.trans HA.out.2.symm; subst e1; subst e2; have S4 := since_up S3 hS'; have R4 := rowF_since R3 hS'; have T4 : Stage 4 := trivial; clear hA)
      | (go_at_call 23; clear T4; refine (toF _ _ _ f _ hl (srcF_since w0 S4)).mono ?_; rintro e v5 ⟨rfl, hM⟩; have S5 := since_up S4 hM.1; have R5 := rowF_made hM; have R5b := rowF_since R4 hM.1; have T5 : Stage 5 := trivial; clear hM)
      | (go_at_call 25; clear T5; refine (eqF _ _ _ _ _ _ _ f _ hl R5b.2 R5.2).mono ?_; rintro e w' ⟨rfl, n4, rfl⟩; have T6 : Stage 6 := trivial)
      | go_in)
    all_goals go_ret
    all_goals exact ⟨rfl, below_of_since (since_drewN S5 _)⟩
  · have hl' : (1048576 : Int) < (len0 : Int) := by omega
    go_enter Tryd.func7, Tryd.ntmps7
    go_wp2
    go_ret
    exact ⟨rfl, Below.refl _ _⟩
end Go.Proofs.YtmlodheanckadaaDoor
