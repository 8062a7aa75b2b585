/-
  Walk of spec.l01CRead: the complex numbers with a text. No condition but the text's length (2^20).
-/
import Derived.Test.YtmlodheanckadaaDoorWkRc
namespace Go.Proofs.YtmlodheanckadaaDoor
open Go.RowKit Go.Deep
set_option linter.unusedVariables false
set_option linter.unusedSimpArgs false

theorem infoC64 : (Tryd.prog.info? 64).map (fun i => (i.zero, i.size, i.bytes)) = some (some (.complex .f32 0 0), 1, 8) := by kernel_rfl
/-- A complex number as a value. -/
def cv (z : Nat × Nat) : Value := .complex .f32 z.1 z.2
/-- zs are the numbers that a text holds. -/
def RcOk (s : ByteArray) (zs : List (Nat × Nat)) : Prop := (IsNone s = true ∧ zs = []) ∨ (IsNone s = false ∧ (cutB s).length ≤ 256 ∧ cplxC.Up (cutB s) (cutB s).length zs)
theorem rcOk_uniq {s : ByteArray} {ns ms : List (Nat × Nat)} (h : RcOk s ns) (h' : RcOk s ms) : ns = ms := by
  rcases h with ⟨h1, rfl⟩ | ⟨h1, h2, h3⟩
  · rcases h' with ⟨_, rfl⟩ | ⟨h1', _⟩
    · rfl
    · rw [h1] at h1'; cases h1'
  · rcases h' with ⟨h1', _⟩ | ⟨_, _, h3'⟩
    · rw [h1] at h1'; cases h1'
    · exact cplxC.up_uniq h3 h3'
/-- A row of complex64 where it lies, whole: it may be written. -/
def RowWC (u : World) (g : Nat) (zs : List (Nat × Nat)) : Prop := zs = [] ∨ ∃ N V, u.rowIs g 64 N V ∧ zs.length ≤ N ∧ ∀ (i : Nat) z, zs[i]? = some z → V i = cv z
theorem outAt_rowC {w wr : World} {b : Nat} {v : Value} {zs : List (Nat × Nat)} (h : OutAt w wr b 64 v (zs.map cv)) (hb : b < w.heap.size) :
    ∃ g cap, v = .slice (some ⟨g, 0, none⟩) zs.length cap ∧ b ≤ g ∧ g < wr.heap.size ∧ RowWC wr g zs := by
  rcases h with ⟨h1, rfl, hS⟩ | ⟨hS, _, _, hO, hn⟩
  · have : zs = [] := by simpa using h1
    subst this
    exact ⟨b, 0, rfl, Nat.le_refl _, Nat.lt_of_lt_of_le hb hS.size, .inl rfl⟩
  · rcases hO.2 with ⟨h0, _⟩ | ⟨g, cap, cur, rfl, hbg, hg, hnc, hcm, hcs, htake⟩
    · exact absurd h0 hn
    · rw [List.length_map] at hnc htake ⊢
      rw [Nat.mul_one] at hcs htake
      refine ⟨g, cap, rfl, by omega, (Array.getElem?_eq_some_iff.1 hg).1, .inr ⟨cap, fun i => (cur[i]?).getD (.int .i64 0), ⟨cur, hg, hcs, fun i hi => ?_⟩, hnc, fun i n hin => ?_⟩⟩
      · have : i < cur.size := by omega
        simp [this]
      · have hi : i < zs.length := (List.getElem?_eq_some_iff.1 hin).1
        have e : (zs.map cv)[i]? = some (cv n) := by rw [List.getElem?_map, hin]; rfl
        rw [← htake, List.getElem?_take, if_pos hi] at e
        have e' : cur[i]? = some (cv n) := by simpa using e
        show (cur[i]?).getD _ = _
        rw [e']
        rfl
/-- What both of them answer. -/
def RcAns (s : ByteArray) (w : World) (e : Ending) (w' : World) : Prop :=
  w.Since w.heap.size w' ∧ ((∃ zs g cap, RcOk s zs ∧ e = .returned (.tuple #[.slice (some ⟨g, 0, none⟩) zs.length cap, .bool true]) ∧ w.heap.size ≤ g ∧ g < w'.heap.size ∧ RowWC w' g zs) ∨ ((∀ zs, ¬ RcOk s zs) ∧ e = .returned (.tuple #[.slice none 0 0, .bool false])))

set_option maxHeartbeats 4000000 in
set_option maxRecDepth 20000 in
theorem rcS (s : ByteArray) (w : World) (hs : s.size ≤ 1048576) :
    Calls Tryd.prog 54 #[.string s] w (RcAns s w) := by
  have hst := ownV_start w 64
  cases hn : IsNone s
  · have HN := Lib.hid hn
    unfold IsNone at hn
    obtain ⟨N, hN⟩ : ∃ N, (cutB s).length = N := ⟨_, rfl⟩
    by_cases h64 : 256 < N
    · have h64' : (256 : Int) < (N : Int) := by omega
      go_enter Tryd.func54, Tryd.ntmps54
      go_wp2_with (first
        | (go_at_call 62; refine (cutS s _ hs).mono ?_; rintro e w1 ⟨v, rfl, hO⟩; obtain ⟨g, cap, rfl, hBg, hg, hc⟩ := hO.open; rw [List.length_map, hN]; have HO1 := Lib.hid hO.1; clear hO hc)
        | go_in)
      go_ret2
      exact ⟨since_up hst.1 HO1.out, .inr ⟨fun ns h => by
        rcases h with ⟨h1, _⟩ | ⟨_, h2, _⟩
        · rw [HN.out] at h1; cases h1
        · omega, rfl⟩⟩
    · have h64' : ¬ (256 : Int) < (N : Int) := by omega
      go_enter Tryd.func54, Tryd.ntmps54
      go_wp2_with (first
        | (go_at_call 62; refine (cutS s _ hs).mono ?_; rintro e w1 ⟨v, rfl, hO⟩; obtain ⟨g, cap, rfl, hBg, hg, hc⟩ := hO.open; rw [List.length_map, hN]; have HO1 := Lib.hid hO.1; have HC := Lib.hid hc; clear hO hc)
        | go_in)
      have hw1 : w.heap.size < w1.heap.size := by have := HO1.out.size; simp at this; omega
      have SW1 := since_up hst.1 HO1.out
      clear hst
      go_loopg [4, 6] N (fun gg o i wr => ∃ (k : Nat) (ns : List (Nat × Nat)), k ≤ N ∧ gg = N - k ∧ i = .int .i64 k ∧ cplxC.Up (cutB s) k ns ∧ OutAt w1 wr w.heap.size 64 o (ns.map cv))
      case atStart => exact ⟨0, [], Nat.zero_le _, rfl, rfl, cplxC.up_zero _, .inl ⟨rfl, rfl, World.Since.refl _ _⟩⟩
      case round =>
        obtain ⟨k, ns, hk, rfl, rfl, hG, hO⟩ := hrel
        have HG := Lib.hid hG
        have HO := Lib.hid hO
        have hlen := hG.1
        have SWr := SW1.trans (since_mono hO.since SW1.size)
        clear hG hO
        by_cases hlt : k < N
        · obtain ⟨x, hx⟩ : ∃ x, (cutB s)[k]? = some x := ⟨_, List.getElem?_eq_getElem (by omega)⟩
          have hxs : x.size ≤ 1048576 := Nat.le_trans (cutB_size (List.mem_of_getElem? hx)) hs
          have g1 : wr.cell? ⟨g, k, none⟩ = some (.string x) := by
            have h1 := HC.out k (.string x) (by rw [List.getElem?_map, hx]; rfl)
            rw [Addr.add_lit, Nat.zero_add] at h1
            rw [HO.out.since.cell (a := ⟨g, k, none⟩) hg]
            exact h1
          have hbad : (∀ z, ¬ cplxC.Is x z) → ∀ ns, ¬ RcOk s ns := fun hd ns h => by
            rcases h with ⟨h1, _⟩ | ⟨_, _, h3⟩
            · rw [HN.out] at h1; cases h1
            · exact cplxC.up_bad hx hd ns h3
          have HX := Lib.hid hx
          have HB := Lib.hid hbad
          clear hx hbad
          obtain ⟨i0, hi, hz0, hz1, hz2⟩ := info_parts infoC64
          have I0 := Lib.hid hi; have I1 := Lib.hid hz0; have I2 := Lib.hid hz1; have I3 := Lib.hid hz2
          clear hi hz0 hz1 hz2
          by_cases h8 : x.size = 16
          · have hA8 := ext_size x 0 8 (by omega) (by omega)
            have hB8 := ext_size x 8 16 (by omega) (by omega)
            have hcx := cplx_is x h8
            obtain ⟨A, hA⟩ : ∃ A, x.extract 0 8 = A := ⟨_, rfl⟩
            obtain ⟨B, hB⟩ : ∃ B, x.extract 8 16 = B := ⟨_, rfl⟩
            rw [hA] at hA8 hcx
            rw [hB] at hB8 hcx
            have HCx := Lib.hid hcx
            have HA8 : Hid (A.size = 8) := Lib.hid (by omega)
            have HB8 : Hid (B.size = 8) := Lib.hid (by omega)
            clear hcx hA8 hB8
            by_cases hEa : ∃ a, numC.Is A a
            · obtain ⟨a, ha⟩ := hEa
              have Ha := Lib.hid ha
              clear ha
              by_cases hEb : ∃ b, numC.Is B b
              · obtain ⟨b, hb⟩ := hEb
                have Hb := Lib.hid hb
                clear hb
                have T0 : Stage 0 := trivial
                go_wp2_with (first
                  | (go_at_call 72; clear T0; refine (dg_yes HA8.out _ Ha.out).mono ?_; rintro e w' ⟨rfl, hw⟩; subst w')
                  | (go_at_call 72; refine (dg_yes HB8.out _ Hb.out).mono ?_; rintro e w' ⟨rfl, hw⟩; subst w')
                  | (at_builtin; refine wpList_append_out _ rfl _ _ 44 rfl wr w1 w.heap.size 64 i0 (.complex .f32 0 0) 8 Tryd.underlying44 I0.out I1.out I2.out I3.out (by decide) rfl _ _ rfl HO.out (by rw [List.length_map]; omega) 1 (.complex .f32 a b) rfl rfl rfl ?_; intro v' w3 hst)
                  | go_in)
                go_roundg (N - (k + 1))
                case measure => omega
                case rel => exact ⟨k + 1, ns ++ [(a, b)], by omega, rfl, congrArg (Value.int .i64) (by omega), cplxC.up_step HG.out HX.out ((HCx.out a b).2 ⟨Ha.out, Hb.out⟩), .inr (by rw [List.map_append]; exact hst)⟩
              · have hno : ∀ n, ¬ numC.Is B n := fun n h => hEb ⟨n, h⟩
                have Hb := Lib.hid hno
                clear hno hEb
                have T0 : Stage 0 := trivial
                go_wp2_with (first
                  | (go_at_call 72; clear T0; refine (dg_yes HA8.out _ Ha.out).mono ?_; rintro e w' ⟨rfl, hw⟩; subst w')
                  | (go_at_call 72; refine (dg_no HB8.out _ Hb.out).mono ?_; rintro e w' ⟨rfl, hw⟩; subst w')
                  | go_in)
                go_ret2
                exact ⟨SWr, .inr ⟨HB.out (fun z hz => Hb.out z.2 ((HCx.out z.1 z.2).1 hz).2), rfl⟩⟩
            · have hno : ∀ n, ¬ numC.Is A n := fun n h => hEa ⟨n, h⟩
              have Ha := Lib.hid hno
              clear hno hEa
              by_cases hEb : ∃ b, numC.Is B b
              · obtain ⟨b, hb⟩ := hEb
                have Hb := Lib.hid hb
                clear hb
                have T0 : Stage 0 := trivial
                go_wp2_with (first
                  | (go_at_call 72; clear T0; refine (dg_no HA8.out _ Ha.out).mono ?_; rintro e w' ⟨rfl, hw⟩; subst w')
                  | (go_at_call 72; refine (dg_yes HB8.out _ Hb.out).mono ?_; rintro e w' ⟨rfl, hw⟩; subst w')
                  | go_in)
                go_ret2
                exact ⟨SWr, .inr ⟨HB.out (fun z hz => Ha.out z.1 ((HCx.out z.1 z.2).1 hz).1), rfl⟩⟩
              · have hno : ∀ n, ¬ numC.Is B n := fun n h => hEb ⟨n, h⟩
                have Hb := Lib.hid hno
                clear hno hEb
                have T0 : Stage 0 := trivial
                go_wp2_with (first
                  | (go_at_call 72; clear T0; refine (dg_no HA8.out _ Ha.out).mono ?_; rintro e w' ⟨rfl, hw⟩; subst w')
                  | (go_at_call 72; refine (dg_no HB8.out _ Hb.out).mono ?_; rintro e w' ⟨rfl, hw⟩; subst w')
                  | go_in)
                go_ret2
                exact ⟨SWr, .inr ⟨HB.out (fun z hz => Ha.out z.1 ((HCx.out z.1 z.2).1 hz).1), rfl⟩⟩
          · have h8b : ((x.size : Int) == 16) = false := beq_false_of_ne (by omega)
            have hno : ∀ z, ¬ cplxC.Is x z := fun z hI => h8 hI.size
            have HNo := Lib.hid hno
            clear hno
            go_wp2
            go_ret2
            exact ⟨SWr, .inr ⟨HB.out HNo.out, rfl⟩⟩
        · obtain rfl : k = N := by omega
          obtain ⟨g', cap', rfl, hb', hg', hR⟩ := outAt_rowC HO.out hw1
          go_wp2
          go_ret2
          exact ⟨SWr, .inl ⟨ns, g', cap', .inr ⟨HN.out, by omega, by rw [hN]; exact HG.out⟩, rfl, hb', hg', hR⟩⟩
  · have HN := Lib.hid hn
    unfold IsNone at hn
    go_enter Tryd.func54, Tryd.ntmps54
    go_wp2
    go_ret2
    exact ⟨hst.1, .inl ⟨[], _, 0, .inl ⟨HN.out, rfl⟩, rfl, Nat.le_refl _, by simp, .inl rfl⟩⟩
end Go.Proofs.YtmlodheanckadaaDoor
