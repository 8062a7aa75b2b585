/-
  Walk of the law FnExactReadDecimal, where the library's variables hold what they were laid with: for every text it returns true and writes nothing that was there. No condition.
-/
import Derived.Test.YtmlodheanckadaaDoorWkRd
namespace Go.Proofs.YtmlodheanckadaaDoor
open Go.RowKit Go.Deep
set_option linter.unusedVariables false
set_option linter.unusedSimpArgs false

theorem ValAns.some {s : ByteArray} {w w' : World} {e : Ending} {n : Int} (h : ValAns s w e w') (hn : IsDec s n) : e = .returned (.tuple #[.int .i64 n, .bool true]) ∧ w.Since w.heap.size w' := by
  obtain ⟨hS, ⟨m, hm, he⟩ | ⟨hno, _⟩⟩ := h
  · rw [show n = m from hn.spelt.symm.trans hm.spelt]; exact ⟨he, hS⟩
  · exact absurd hn (hno n)
theorem ValAns.none {s : ByteArray} {w w' : World} {e : Ending} (h : ValAns s w e w') (hn : ∀ n, ¬ IsDec s n) : e = .returned (.tuple #[.int .i64 0, .bool false]) ∧ w.Since w.heap.size w' := by
  obtain ⟨hS, ⟨m, hm, he⟩ | ⟨_, he⟩⟩ := h
  · exact absurd hm (hn m)
  · exact ⟨he, hS⟩
theorem valSp (s : ByteArray) (w : World) (hs : s.size ≤ 1048576) : Calls Tryd.prog 12 #[.string s] w (ValAns s w) := by
  by_cases hE : ∃ n, IsDec s n
  · obtain ⟨n, hn⟩ := hE
    have HN := Lib.hid hn
    clear hn
    go_enter Tryd.func12, Tryd.ntmps12
    go_wp2_with (go_at_call 37; refine (valS s _ (by unfold maxLen; omega)).mono ?_; rintro e w' hv; obtain ⟨rfl, S1⟩ := hv.some HN.out)
    go_ret2
    exact ⟨S1, .inl ⟨n, HN.out, rfl⟩⟩
  · have hno : ∀ n, ¬ IsDec s n := fun n h => hE ⟨n, h⟩
    have HN := Lib.hid hno
    clear hno hE
    go_enter Tryd.func12, Tryd.ntmps12
    go_wp2_with (go_at_call 37; refine (valS s _ (by unfold maxLen; omega)).mono ?_; rintro e w' hv; obtain ⟨rfl, S1⟩ := hv.none HN.out)
    go_ret2
    exact ⟨S1, .inr ⟨HN.out, rfl⟩⟩

theorem walk_FnExactReadDecimal (s : ByteArray) (hs : s.size ≤ maxLen) (w : World) (hp : Pow w) (he : Errs w) :
    Calls Tryd.prog 4 #[.string s] w fun e w' => e = .returned (.bool true) ∧ Below w.heap.size w w' := by
  unfold maxLen at hs
  by_cases hl : 1048576 < s.size
  · have hl' : (1048576 : Int) < (s.size : Int) := by omega
    go_enter Tryd.func4, Tryd.ntmps4
    go_wp2
    go_ret
    exact ⟨rfl, Below.refl _ _⟩
  · have hl' : ¬ (1048576 : Int) < (s.size : Int) := by omega
    have hs' : s.size ≤ 1048576 := by omega
    by_cases hE : ∃ n, IsDec s n
    · obtain ⟨n, hn⟩ := hE
      have HN := Lib.hid hn
      clear hn
      go_enter Tryd.func4, Tryd.ntmps4
      go_wp2_with (first
        | (go_at_call 12; refine (valSp s _ hs').mono ?_; rintro e w1 hv; obtain ⟨rfl, S1⟩ := hv.some HN.out; clear hv; have hp1 := hp.since S1; have he1 := he.since S1)
        | (go_at_call 13; refine (valI s _ hs' hp1 he1).mono ?_; rintro e w2 hv; obtain ⟨rfl, S2⟩ := hv.some HN.out; clear hv)
        | go_in)
      go_ret
      exact ⟨rfl, below_of_since (since_up S1 S2)⟩
    · have hno : ∀ n, ¬ IsDec s n := fun n h => hE ⟨n, h⟩
      have HN := Lib.hid hno
      clear hno hE
      go_enter Tryd.func4, Tryd.ntmps4
      go_wp2_with (first
        | (go_at_call 12; refine (valSp s _ hs').mono ?_; rintro e w1 hv; obtain ⟨rfl, S1⟩ := hv.none HN.out; clear hv; have hp1 := hp.since S1; have he1 := he.since S1)
        | (go_at_call 13; refine (valI s _ hs' hp1 he1).mono ?_; rintro e w2 hv; obtain ⟨rfl, S2⟩ := hv.none HN.out; clear hv)
        | go_in)
      go_ret
      exact ⟨rfl, below_of_since (since_up S1 S2)⟩
end Go.Proofs.YtmlodheanckadaaDoor
