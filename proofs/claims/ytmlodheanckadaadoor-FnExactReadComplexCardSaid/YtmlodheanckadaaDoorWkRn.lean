/-
  Walk of spec.l01NRead: the numbers with a text. No condition but the text's length (2^20).
-/
import Derived.Test.YtmlodheanckadaaDoorCodec
import Derived.Test.YtmlodheanckadaaDoorWkRl
import Derived.Test.YtmlodheanckadaaDoorWkRh
import Derived.Test.YtmlodheanckadaaDoorWkBits
import Derived.Test.YtmlodheanckadaaDoorWkTo
import Derived.Outline
namespace Go.Proofs.YtmlodheanckadaaDoor
open Go.RowKit Go.Deep
set_option linter.unusedVariables false
set_option linter.unusedSimpArgs false

/-- Numbers and their 8 digits. -/
def numC : Codec Nat where
  enc n := hexN 8 n
  norm n := Fl.can .f32 n
  rng n := n < 4294967296
  pv := hexV
  len := 8
  hlen n := hexN_len 8 n
  h44 n := hexN_no44 8 n
  hpv n hn := hexV_hexN _ n hn rfl
  hrng x hx := hexV_lt x hx
  hnorm n hn := Fl.can32_lt hn

theorem fromS (n : Nat) (hn : n < 4294967296) (w : World) : Calls Tryd.prog 67 #[.int .i64 (n : Nat)] w fun e w' => e = .returned (.float .f32 n) ∧ w' = w := by
  go_enter Tryd.func67, Tryd.ntmps67
  go_wp2
  go_ret
  exact ⟨rfl, rfl⟩
theorem infoF32 : (Tryd.prog.info? 56).map (fun i => (i.zero, i.size, i.bytes)) = some (some (.float .f32 0), 1, 4) := by kernel_rfl

/-- ns are the numbers that a text holds. -/
def RnOk (s : ByteArray) (ns : List Nat) : Prop := (IsNone s = true ∧ ns = []) ∨ (IsNone s = false ∧ (cutB s).length ≤ 256 ∧ numC.Up (cutB s) (cutB s).length ns)
theorem rnOk_uniq {s : ByteArray} {ns ms : List Nat} (h : RnOk s ns) (h' : RnOk s ms) : ns = ms := by
  rcases h with ⟨h1, rfl⟩ | ⟨h1, h2, h3⟩
  · rcases h' with ⟨_, rfl⟩ | ⟨h1', _⟩
    · rfl
    · rw [h1] at h1'; cases h1'
  · rcases h' with ⟨h1', _⟩ | ⟨_, _, h3'⟩
    · rw [h1] at h1'; cases h1'
    · exact numC.up_uniq h3 h3'
/-- A row of float32 where it lies, whole: it may be written. -/
def RowWN (u : World) (g : Nat) (ns : List Nat) : Prop := ns = [] ∨ ∃ N V, u.rowIs g 56 N V ∧ ns.length ≤ N ∧ ∀ i n, ns[i]? = some n → V i = .float .f32 n
theorem outAt_rowN {w wr : World} {b : Nat} {v : Value} {ns : List Nat} (h : OutAt w wr b 56 v (ns.map (Value.float .f32))) (hb : b < w.heap.size) :
    ∃ g cap, v = .slice (some ⟨g, 0, none⟩) ns.length cap ∧ b ≤ g ∧ g < wr.heap.size ∧ RowWN wr g ns := by
  rcases h with ⟨h1, rfl, hS⟩ | ⟨hS, _, _, hO, hn⟩
  · have : ns = [] := by simpa using h1
    subst this
    exact ⟨b, 0, rfl, Nat.le_refl _, Nat.lt_of_lt_of_le hb hS.size, .inl rfl⟩
  · rcases hO.2 with ⟨h0, _⟩ | ⟨g, cap, cur, rfl, hbg, hg, hnc, hcm, hcs, htake⟩
    · exact absurd h0 hn
    · rw [List.length_map] at hnc htake ⊢
      rw [Nat.mul_one] at hcs htake
      refine ⟨g, cap, rfl, by omega, (Array.getElem?_eq_some_iff.1 hg).1, .inr ⟨cap, fun i => (cur[i]?).getD (.int .i64 0), ⟨cur, hg, hcs, fun i hi => ?_⟩, hnc, fun i n hin => ?_⟩⟩
      · have : i < cur.size := by omega
        simp [this]
      · have hi : i < ns.length := (List.getElem?_eq_some_iff.1 hin).1
        have e : (ns.map (Value.float .f32))[i]? = some (.float .f32 n) := by rw [List.getElem?_map, hin]; rfl
        rw [← htake, List.getElem?_take, if_pos hi] at e
        have e' : cur[i]? = some (.float .f32 n) := by simpa using e
        show (cur[i]?).getD _ = _
        rw [e']
        rfl
/-- What both of them answer. -/
def RnAns (s : ByteArray) (w : World) (e : Ending) (w' : World) : Prop :=
  w.Since w.heap.size w' ∧ ((∃ ns g cap, RnOk s ns ∧ e = .returned (.tuple #[.slice (some ⟨g, 0, none⟩) ns.length cap, .bool true]) ∧ w.heap.size ≤ g ∧ g < w'.heap.size ∧ RowWN w' g ns) ∨ ((∀ ns, ¬ RnOk s ns) ∧ e = .returned (.tuple #[.slice none 0 0, .bool false])))

set_option maxHeartbeats 4000000 in
set_option maxRecDepth 20000 in
theorem rnS (s : ByteArray) (w : World) (hs : s.size ≤ 1048576) :
    Calls Tryd.prog 51 #[.string s] w (RnAns s w) := by
  have hst := ownV_start w 56
  cases hn : IsNone s
  · have HN := Lib.hid hn
    unfold IsNone at hn
    obtain ⟨N, hN⟩ : ∃ N, (cutB s).length = N := ⟨_, rfl⟩
    by_cases h64 : 256 < N
    · have h64' : (256 : Int) < (N : Int) := by omega
      go_enter Tryd.func51, Tryd.ntmps51
      go_wp2_with (first
        | (go_at_call 62; refine (cutS s _ hs).mono ?_; rintro e w1 ⟨v, rfl, hO⟩; obtain ⟨g, cap, rfl, hBg, hg, hc⟩ := hO.open; rw [List.length_map, hN]; have HO1 := Lib.hid hO.1; clear hO hc)
        | go_in)
      go_ret2
      exact ⟨since_up hst.1 HO1.out, .inr ⟨fun ns h => by
        rcases h with ⟨h1, _⟩ | ⟨_, h2, _⟩
        · rw [HN.out] at h1; cases h1
        · omega, rfl⟩⟩
    · have h64' : ¬ (256 : Int) < (N : Int) := by omega
      go_enter Tryd.func51, Tryd.ntmps51
      go_wp2_with (first
        | (go_at_call 62; refine (cutS s _ hs).mono ?_; rintro e w1 ⟨v, rfl, hO⟩; obtain ⟨g, cap, rfl, hBg, hg, hc⟩ := hO.open; rw [List.length_map, hN]; have HO1 := Lib.hid hO.1; have HC := Lib.hid hc; clear hO hc)
        | go_in)
      have hw1 : w.heap.size < w1.heap.size := by have := HO1.out.size; simp at this; omega
      have SW1 := since_up hst.1 HO1.out
      clear hst
      go_loopg [4, 6] N (fun gg o i wr => ∃ (k : Nat) (ns : List Nat), k ≤ N ∧ gg = N - k ∧ i = .int .i64 k ∧ numC.Up (cutB s) k ns ∧ OutAt w1 wr w.heap.size 56 o (ns.map (Value.float .f32)))
      case atStart => exact ⟨0, [], Nat.zero_le _, rfl, rfl, numC.up_zero _, .inl ⟨rfl, rfl, World.Since.refl _ _⟩⟩
      case round =>
        obtain ⟨k, ns, hk, rfl, rfl, hG, hO⟩ := hrel
        have HG := Lib.hid hG
        have HO := Lib.hid hO
        have hlen := hG.1
        have SWr := SW1.trans (since_mono hO.since SW1.size)
        clear hG hO
        by_cases hlt : k < N
        · obtain ⟨x, hx⟩ : ∃ x, (cutB s)[k]? = some x := ⟨_, List.getElem?_eq_getElem (by omega)⟩
          have hxs : x.size ≤ 1048576 := Nat.le_trans (cutB_size (List.mem_of_getElem? hx)) hs
          have g1 : wr.cell? ⟨g, k, none⟩ = some (.string x) := by
            have h1 := HC.out k (.string x) (by rw [List.getElem?_map, hx]; rfl)
            rw [Addr.add_lit, Nat.zero_add] at h1
            rw [HO.out.since.cell (a := ⟨g, k, none⟩) hg]
            exact h1
          have hbad : (∀ n, ¬ numC.Is x n) → ∀ ns, ¬ RnOk s ns := fun hd ns h => by
            rcases h with ⟨h1, _⟩ | ⟨_, _, h3⟩
            · rw [HN.out] at h1; cases h1
            · exact numC.up_bad hx hd ns h3
          have HX := Lib.hid hx
          have HB := Lib.hid hbad
          clear hx hbad
          obtain ⟨i0, hi, hz0, hz1, hz2⟩ := info_parts infoF32
          have I0 := Lib.hid hi; have I1 := Lib.hid hz0; have I2 := Lib.hid hz1; have I3 := Lib.hid hz2
          clear hi hz0 hz1 hz2
          by_cases h8 : x.size = 8
          · obtain ⟨wo, rfl⟩ : ∃ x, x = wr := ⟨_, rfl⟩
            have hxl : x.data.toList.length = 8 := by rw [← h8]; simp
            have HXL := Lib.hid hxl
            clear hxl
            go_wp2
            go_loopg [7, 8] 8 (fun gg nv kv wr => ∃ (q n : Nat), q ≤ 8 ∧ gg = 8 - q ∧ kv = .int .i64 q ∧ nv = .int .i64 (n : Nat) ∧ SmallUp x.data.toList q n ∧ wr = wo)
            case atStart => exact ⟨0, 0, by omega, rfl, rfl, rfl, smallUp_zero _, rfl⟩
            case round =>
              obtain ⟨q, n, hq, rfl, rfl, rfl, hU, rfl⟩ := hrel
              have HU := Lib.hid hU
              have hn0 := hU.1
              clear hU
              by_cases hq8 : q < 8
              · have hn7 : n < 268435456 := by
                  have e : (16 : Nat) ^ q ≤ 16 ^ 7 := Nat.pow_le_pow_right (by decide) (by omega)
                  have e2 : (16 : Nat) ^ 7 = 268435456 := by decide
                  omega
                clear hn0
                have hqx : q < x.size := by omega
                have hge : x.data.toList[q]? = some (x[q]'hqx) := by
                  rw [List.getElem?_eq_getElem (by rw [HXL.out]; omega)]; rfl
                have hbadc : dgS (x[q]'hqx).toNat = none → ∀ m, ¬ numC.Is x m := fun h m hI => by
                  have e : x.data.toList = hexN 8 m := by rw [hI.2.2]; rfl
                  rw [e] at hge
                  obtain ⟨d, hd'⟩ := hexN_get hge
                  rw [h] at hd'; cases hd'
                have hstep : ∀ d, dgS (x[q]'hqx).toNat = some d → SmallUp x.data.toList (q + 1) (16 * n + d) := fun d hd' => smallUp_step HU.out hge hd'
                obtain ⟨c, hc⟩ : ∃ c : Nat, (x[q]'hqx).toNat = c := ⟨_, rfl⟩
                rw [hc] at hbadc hstep
                have HBc := Lib.hid hbadc
                have HSt := Lib.hid hstep
                clear hbadc hstep hge
                by_cases h1 : 48 ≤ c ∧ c ≤ 57
                · have hd1 : (48 : Int) ≤ (c : Int) := by omega
                  have hd2 : (c : Int) ≤ 57 := by omega
                  have hd3 : ¬ (97 : Int) ≤ (c : Int) := by omega
                  have HD : Hid (dgS c = some (c - 48)) := Lib.hid (by unfold dgS; rw [if_pos h1])
                  clear h1
                  go_wp2
                  go_roundg (8 - (q + 1))
                  all_goals first
                    | omega
                    | exact ⟨q + 1, 16 * n + (c - 48), by omega, rfl, congrArg (Value.int .i64) (by omega), congrArg (Value.int .i64) (by omega), HSt.out _ HD.out, rfl⟩
                · by_cases h2 : 97 ≤ c ∧ c ≤ 102
                  · have hd1 : (48 : Int) ≤ (c : Int) := by omega
                    have hd2 : ¬ (c : Int) ≤ 57 := by omega
                    have hd3 : (97 : Int) ≤ (c : Int) := by omega
                    have hd4 : (c : Int) ≤ 102 := by omega
                    have HD : Hid (dgS c = some (c - 97 + 10)) := Lib.hid (by unfold dgS; rw [if_neg h1, if_pos h2])
                    clear h1 h2
                    go_wp2
                    go_roundg (8 - (q + 1))
                    all_goals first
                      | omega
                      | exact ⟨q + 1, 16 * n + (c - 97 + 10), by omega, rfl, congrArg (Value.int .i64) (by omega), congrArg (Value.int .i64) (by omega), HSt.out _ HD.out, rfl⟩
                  · have HD : Hid (dgS c = none) := Lib.hid (by unfold dgS; rw [if_neg h1, if_neg h2])
                    rcases Nat.lt_or_ge c 48 with h3 | h3
                    · have hd1 : ¬ (48 : Int) ≤ (c : Int) := by omega
                      have hd3 : ¬ (97 : Int) ≤ (c : Int) := by omega
                      clear h1 h2
                      go_wp2
                      go_ret2
                      exact ⟨SWr, .inr ⟨HB.out (HBc.out HD.out), rfl⟩⟩
                    · have hd1 : (48 : Int) ≤ (c : Int) := by omega
                      have hd2 : ¬ (c : Int) ≤ 57 := by omega
                      rcases Nat.lt_or_ge c 97 with h4 | h4
                      · have hd3 : ¬ (97 : Int) ≤ (c : Int) := by omega
                        clear h1 h2
                        go_wp2
                        go_ret2
                        exact ⟨SWr, .inr ⟨HB.out (HBc.out HD.out), rfl⟩⟩
                      · have hd3 : (97 : Int) ≤ (c : Int) := by omega
                        have hd4 : ¬ (c : Int) ≤ 102 := by omega
                        clear h1 h2
                        go_wp2
                        go_ret2
                        exact ⟨SWr, .inr ⟨HB.out (HBc.out HD.out), rfl⟩⟩
              · obtain rfl : q = 8 := by omega
                have hn32 : n < 4294967296 := by have e : (16 : Nat) ^ 8 = 4294967296 := by decide
                                                 omega
                have hxe : x = ⟨(hexN 8 n).toArray⟩ := by
                  have e := HU.out.2
                  rw [List.take_of_length_le (by rw [HXL.out]; omega)] at e
                  rw [← e]
                by_cases hcn : Fl.can .f32 n = n
                · have hIs : numC.Is x n := ⟨hn32, hcn, hxe⟩
                  have HI := Lib.hid hIs
                  have HCn := Lib.hid hcn
                  clear hIs hxe hcn hn0
                  go_wp2_with (first
                    | (go_at_call 67; refine (fromS n hn32 _).mono ?_; rintro e w' ⟨rfl, hw⟩; subst w')
                    | (go_at_call 68; refine (bitsS n hn32 _).mono ?_; rintro e w' ⟨rfl, hw⟩; subst w'; rw [HCn.out])
                    | (at_builtin; refine wpList_append_out _ rfl _ _ 36 rfl wr w1 w.heap.size 56 i0 (.float .f32 0) 4 Tryd.underlying36 I0.out I1.out I2.out I3.out (by decide) rfl _ _ rfl HO.out (by rw [List.length_map]; omega) 1 (.float .f32 n) rfl rfl rfl ?_; intro v' w3 hst)
                    | go_in)
                  go_roundg (N - (k + 1))
                  case measure => omega
                  case rel => exact ⟨k + 1, ns ++ [n], by omega, rfl, congrArg (Value.int .i64) (by omega), numC.up_step HG.out HX.out HI.out, .inr (by rw [List.map_append]; exact hst)⟩
                · have hno : ∀ m, ¬ numC.Is x m := fun m hI => by
                    have e : hexN 8 n = hexN 8 m := by
                      have := hxe.symm.trans hI.2.2
                      have := congrArg (fun b : ByteArray => b.data.toList) this
                      simpa [numC] using this
                    have e2 : (16 : Nat) ^ 8 = 4294967296 := by decide
                    have e3 := hexN_inj (by omega) (by have := hI.1; simp only [numC] at this; omega) e
                    rw [e3] at hcn
                    exact hcn hI.2.1
                  have HNo := Lib.hid hno
                  obtain ⟨m, hm⟩ : ∃ m, Fl.can .f32 n = m := ⟨_, rfl⟩
                  have hmn : ((m : Int) == (n : Int)) = false := beq_false_of_ne (fun e => hcn (by rw [hm]; omega))
                  have hmn' : ¬ m = n := fun e => hcn (by rw [hm]; exact e)
                  clear hno hxe hcn hn0
                  go_wp2_with (first
                    | (go_at_call 67; refine (fromS n hn32 _).mono ?_; rintro e w' ⟨rfl, hw⟩; subst w')
                    | (go_at_call 68; refine (bitsS n hn32 _).mono ?_; rintro e w' ⟨rfl, hw⟩; subst w'; rw [hm])
                    | go_in)
                  go_ret2
                  exact ⟨SWr, .inr ⟨HB.out HNo.out, rfl⟩⟩
          · have h8b : ((x.size : Int) == 8) = false := beq_false_of_ne (by omega)
            have hno : ∀ m, ¬ numC.Is x m := fun m hI => h8 hI.size
            have HNo := Lib.hid hno
            clear hno
            go_wp2
            go_ret2
            exact ⟨SWr, .inr ⟨HB.out HNo.out, rfl⟩⟩
        · obtain rfl : k = N := by omega
          obtain ⟨g', cap', rfl, hb', hg', hR⟩ := outAt_rowN HO.out hw1
          go_wp2
          go_ret2
          exact ⟨SWr, .inl ⟨ns, g', cap', .inr ⟨HN.out, by omega, by rw [hN]; exact HG.out⟩, rfl, hb', hg', hR⟩⟩
  · have HN := Lib.hid hn
    unfold IsNone at hn
    go_enter Tryd.func51, Tryd.ntmps51
    go_wp2
    go_ret2
    exact ⟨hst.1, .inl ⟨[], _, 0, .inl ⟨HN.out, rfl⟩, rfl, Nat.le_refl _, by simp, .inl rfl⟩⟩
end Go.Proofs.YtmlodheanckadaaDoor
