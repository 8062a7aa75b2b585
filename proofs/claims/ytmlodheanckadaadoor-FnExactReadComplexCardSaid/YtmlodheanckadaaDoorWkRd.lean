/-
  Walk of impl.ReadDecimal, where the library's variables hold what they were laid with: the number with a decimal text. No condition but the text's length (2^20).
-/
import Derived.Test.YtmlodheanckadaaDoorWkVal
namespace Go.Proofs.YtmlodheanckadaaDoor
open Go.RowKit Go.Deep
set_option linter.unusedVariables false
set_option linter.unusedSimpArgs false

theorem gSyn : Tryd.prog.globalNamed "strconv.ErrSyntax" = some 2 := by kernel_rfl
theorem gRan : Tryd.prog.globalNamed "strconv.ErrRange" = some 3 := by kernel_rfl
/-- The library's two errors hold interface values. -/
def Errs (w : World) : Prop := (∃ t p, w.var? Tryd.prog "strconv.ErrSyntax" = some #[.iface t p]) ∧ (∃ t p, w.var? Tryd.prog "strconv.ErrRange" = some #[.iface t p])
theorem var_since {w u : World} {n : String} {g : Nat} {v : Value} (hg : Tryd.prog.globalNamed n = some g) (h : w.var? Tryd.prog n = some #[v]) (s : w.Since w.heap.size u) : u.var? Tryd.prog n = some #[v] := by
  have hc := World.var?_cell hg h 0
  have := World.block_lt_of_cell? _ _ (show w.cell? ⟨g, 0, none⟩ = some v by simpa using hc)
  rw [s.var hg this]
  exact h
theorem Errs.since {w u : World} (h : Errs w) (s : w.Since w.heap.size u) : Errs u := by
  obtain ⟨⟨t, p, h1⟩, t', p', h2⟩ := h
  exact ⟨⟨t, p, var_since gSyn h1 s⟩, t', p', var_since gRan h2 s⟩

theorem since_bytes (w : World) (t : TypeId) (s : ByteArray) : w.Since w.heap.size (Lib.bytesWorld w t s) :=
  ⟨rfl, rfl, rfl, by rw [Lib.bytesWorld_size]; omega, fun k hk => Lib.bytesWorld_at_old w t s k hk⟩

theorem parseOk (s : ByteArray) (v : Int) (w : World) (hs : s.size ≤ 1048576) (h : Lib.parseIntB 64 s.data.toList = .ok v) :
    Calls Tryd.prog 38 #[.string s, .int .i64 10, .int .i64 64] w fun e w' => e = .returned (.tuple #[.int .i64 v, .nilIface]) ∧ w.Since w.heap.size w' := by
  refine (Any.strconv_ParseInt_10_at64_ok Tryd.laysC174 s (by omega) v h w).mono ?_
  rintro e w' ⟨rfl, hw⟩
  refine ⟨rfl, ?_⟩
  rcases hw with hw | ⟨t, hw⟩
  · rw [hw]; exact World.Since.refl _ _
  · rw [hw]; exact since_bytes _ _ _
theorem parseErr (s : ByteArray) (w : World) (hs : s.size ≤ 1048576) (he : Errs w) (h : ∀ v, Lib.parseIntB 64 s.data.toList ≠ .ok v) :
    Calls Tryd.prog 38 #[.string s, .int .i64 10, .int .i64 64] w fun e w' => ∃ v t p, e = .returned (.tuple #[.int .i64 v, .iface t p]) ∧ w.Since w.heap.size w' := by
  obtain ⟨⟨t1, p1, h1⟩, t2, p2, h2⟩ := he
  rcases hx : Lib.parseIntB 64 s.data.toList with v | _ | _
  · exact absurd hx (h v)
  · refine (Any.strconv_ParseInt_10_at64_syntax_var Tryd.laysC174 s (by omega) hx t1 p1 w h1).mono ?_
    rintro e w' ⟨N, rfl, _, _, hb⟩
    exact ⟨_, _, _, rfl, since_of_below hb⟩
  · refine (Any.strconv_ParseInt_10_at64_range_var Tryd.laysC174 s (by omega) hx t2 p2 w h2).mono ?_
    rintro e w' ⟨N, rfl, _, _, hb⟩
    exact ⟨_, _, _, rfl, since_of_below hb⟩

theorem isValW (n : Int) (w : World) : Calls Tryd.prog 39 #[.int .i64 n] w fun e w' => e = .returned (.bool (decide (-1000000000000000 ≤ n) && decide (n ≤ 1000000000000000))) ∧ w' = w := by
  by_cases h1 : -1000000000000000 ≤ n <;> by_cases h2 : n ≤ 1000000000000000
  all_goals go_enter Tryd.func39, Tryd.ntmps39
  all_goals go_wp2
  all_goals go_ret
  all_goals simp [h1, h2]

set_option maxRecDepth 20000 in
theorem valI (s : ByteArray) (w : World) (hs : s.size ≤ 1048576) (hp : Pow w) (he : Errs w) :
    Calls Tryd.prog 13 #[.string s] w (ValAns s w) := by
  by_cases hok : ∃ v, Lib.parseIntB 64 s.data.toList = .ok v
  · obtain ⟨v, hv⟩ := hok
    have HV := Lib.hid hv
    have hu : ∀ n, IsDec s n → n = v := fun n h => by have := h.parse; rw [hv] at this; injection this with e; exact e.symm
    have HU := Lib.hid hu
    clear hu
    clear hv
    by_cases hR : -1000000000000000 ≤ v ∧ v ≤ 1000000000000000
    · have hRb : (decide (-1000000000000000 ≤ v) && decide (v ≤ 1000000000000000)) = true := by simp [hR]
      have HR := Lib.hid hR
      clear hR
      cases hB : (Lib.itoa v == s.toList)
      all_goals
        have HB := Lib.hid hB
        go_enter Tryd.func13, Tryd.ntmps13
        go_wp2_with (first
          | (go_at_call 38; refine (parseOk s v _ hs HV.out).mono ?_; rintro e w1 ⟨rfl, S1⟩; have hp1 := hp.since S1)
          | (go_at_call 39; refine (isValW _ _).mono ?_; rintro e w' ⟨rfl, hw⟩; subst w'; rw [hRb])
          | (go_at_call 11; refine (decI v (by have := HR.out; omega) (by have := HR.out; omega) _ hp1).mono ?_; rintro e w2 ⟨rfl, S2⟩)
          | go_in)
        go_ret2
        first
          | exact ⟨since_up S1 S2, .inl ⟨v, ⟨HR.out.1, HR.out.2, eqB_true HB.out⟩, rfl⟩⟩
          | exact ⟨since_up S1 S2, .inr ⟨fun n h => eqB_false HB.out (by have := HU.out n h; rw [← this]; exact h.2.2), rfl⟩⟩
    · have hRb : (decide (-1000000000000000 ≤ v) && decide (v ≤ 1000000000000000)) = false := by
        rw [Bool.and_eq_false_iff, decide_eq_false_iff_not, decide_eq_false_iff_not]; omega
      have HR := Lib.hid hR
      clear hR
      go_enter Tryd.func13, Tryd.ntmps13
      go_wp2_with (first
        | (go_at_call 38; refine (parseOk s v _ hs HV.out).mono ?_; rintro e w1 ⟨rfl, S1⟩)
        | (go_at_call 39; refine (isValW _ _).mono ?_; rintro e w' ⟨rfl, hw⟩; subst w'; rw [hRb])
        | go_in)
      go_ret2
      exact ⟨S1, .inr ⟨fun n h => HR.out (by have := HU.out n h; rw [← this]; exact ⟨h.1, h.2.1⟩), rfl⟩⟩
  · have hno : ∀ v, Lib.parseIntB 64 s.data.toList ≠ .ok v := fun v h => hok ⟨v, h⟩
    have HN := Lib.hid hno
    clear hok hno
    go_enter Tryd.func13, Tryd.ntmps13
    go_wp2_with (first
      | (go_at_call 38; refine (parseErr s _ hs he HN.out).mono ?_; rintro e w1 ⟨v, t, p, rfl, S1⟩)
      | go_in)
    go_ret2
    exact ⟨S1, .inr ⟨fun n h => HN.out n h.parse, rfl⟩⟩
end Go.Proofs.YtmlodheanckadaaDoor
