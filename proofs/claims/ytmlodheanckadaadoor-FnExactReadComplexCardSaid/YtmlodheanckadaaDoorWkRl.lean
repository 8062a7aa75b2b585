/-
  Walks below the law FnExactReadList. No condition but what each theorem names.
-/
import Derived.Test.YtmlodheanckadaaDoorWkCut
import Derived.Test.YtmlodheanckadaaDoorWkRdT
import Derived.Test.YtmlodheanckadaaDoorWkI
import Derived.Test.YtmlodheanckadaaDoorOwn2
import Derived.Outline
namespace Go.Proofs.YtmlodheanckadaaDoor
open Go.RowKit Go.Deep
set_option linter.unusedVariables false
set_option linter.unusedSimpArgs false

/-- internal/bytealg.MaxLen holds some number. -/
def MaxL (w : World) : Prop := ∃ m, w.cell? ⟨6, 0, none⟩ = some (.int .i64 m)
theorem MaxL.since {w u : World} (h : MaxL w) (s : w.Since w.heap.size u) : MaxL u := by
  obtain ⟨m, hm⟩ := h
  exact ⟨m, (s.cell (World.block_lt_of_cell? _ _ hm)).trans hm⟩

def IsNone (s : ByteArray) : Bool := s.toList == [110, 111, 110, 101]

theorem splitW (s : ByteArray) (w : World) (hs : s.size ≤ 1048576) (hm : MaxL w) :
    Calls Tryd.prog 69 #[.string s, .string ⟨#[44]⟩] w fun e w' => e = .returned (.slice (some ⟨w.heap.size, 0, none⟩) (cutB s).length (cutB s).length) ∧ w.Since w.heap.size w' ∧ w.heap.size < w'.heap.size ∧ ∀ (j : Nat) x, (cutB s)[j]? = some x → w'.cell? ⟨w.heap.size, 0 + j, none⟩ = some (.string x) := by
  obtain ⟨m, hm⟩ := hm
  refine (Tryd.strings_Split s ⟨#[44]⟩ m w (by omega) hm (by decide)).mono ?_
  rintro e w' ⟨rfl, hw⟩
  rw [splitB_cut] at hw
  have hl : Lib.countB s ⟨#[44]⟩ + 1 = (cutB s).length := by rw [cutB_len, countB_comma]
  rw [hl]
  subst hw
  refine ⟨rfl, (World.Since.refl _ w).alloc (Nat.le_refl _) _, by simp, fun j x hx => ?_⟩
  rw [World.cell?_alloc_at _ _ _ _ rfl, Nat.zero_add]
  simp [hx]

theorem piecesW (s : ByteArray) (w : World) (hs : s.size ≤ 1048576) (hm : MaxL w) (hn : IsNone s = false) :
    Calls Tryd.prog 52 #[.string s] w fun e w' => e = .returned (.slice (some ⟨w.heap.size, 0, none⟩) (cutB s).length (cutB s).length) ∧ w.Since w.heap.size w' ∧ w.heap.size < w'.heap.size ∧ ∀ (j : Nat) x, (cutB s)[j]? = some x → w'.cell? ⟨w.heap.size, 0 + j, none⟩ = some (.string x) := by
  unfold IsNone at hn
  obtain ⟨N, hN⟩ : ∃ N, (cutB s).length = N := ⟨_, rfl⟩
  have HN := Lib.hid hN
  have HS := Lib.hid (splitW s w hs hm)
  have HS' := HS.out
  rw [hN] at HS' ⊢
  have HS2 := Lib.hid HS'
  clear HS HS' hN
  go_enter Tryd.func52, Tryd.ntmps52
  go_wp2_with (go_at_call 69; refine HS2.out.mono ?_; rintro e w' ⟨rfl, h1, h2, h3⟩; have H3 := Lib.hid h3; clear h3)
  go_ret
  exact ⟨rfl, h1, h2, H3.out⟩
theorem piecesNone (s : ByteArray) (w : World) (hn : IsNone s = true) :
    Calls Tryd.prog 52 #[.string s] w fun e w' => e = .returned (.slice none 0 0) ∧ w' = w := by
  unfold IsNone at hn
  go_enter Tryd.func52, Tryd.ntmps52
  go_wp2
  go_ret
  exact ⟨rfl, rfl⟩

/-- The numbers of the first pieces. -/
def GoodUp (P : List ByteArray) (k : Nat) (ns : List Int) : Prop := ns.length = k ∧ ∀ (i : Nat) x n, P[i]? = some x → ns[i]? = some n → IsDec x n
theorem goodUp_zero (P : List ByteArray) : GoodUp P 0 [] := ⟨rfl, fun i x n _ h => by simp at h⟩
theorem goodUp_step {P : List ByteArray} {k : Nat} {ns : List Int} {x : ByteArray} {n : Int} (h : GoodUp P k ns) (hx : P[k]? = some x) (hd : IsDec x n) : GoodUp P (k + 1) (ns ++ [n]) := by
  obtain ⟨h1, h2⟩ := h
  refine ⟨by simp [h1], fun i y m hy hm => ?_⟩
  by_cases e : i < k
  · rw [List.getElem?_append_left (by omega)] at hm
    exact h2 i y m hy hm
  · have hi : i < (ns ++ [n]).length := (List.getElem?_eq_some_iff.1 hm).1
    rw [List.length_append, List.length_singleton] at hi
    obtain rfl : i = k := by omega
    rw [hx] at hy
    rw [List.getElem?_append_right (by omega), h1, Nat.sub_self] at hm
    obtain rfl := Option.some.inj hy
    obtain rfl := Option.some.inj hm
    exact hd
theorem goodUp_bad {P : List ByteArray} {k : Nat} {x : ByteArray} (hx : P[k]? = some x) (hd : ∀ n, ¬ IsDec x n) : ∀ ns, ¬ GoodUp P P.length ns := by
  rintro ns ⟨h1, h2⟩
  have hk : k < P.length := (List.getElem?_eq_some_iff.1 hx).1
  exact hd _ (h2 k x _ hx (List.getElem?_eq_getElem (by omega)))
theorem goodUp_uniq {P : List ByteArray} {ns ms : List Int} (h : GoodUp P P.length ns) (h' : GoodUp P P.length ms) : ns = ms := by
  apply List.ext_getElem (by rw [h.1, h'.1])
  intro i hi hi'
  have hp : i < P.length := by rw [← h.1]; exact hi
  have a := h.2 i _ _ (List.getElem?_eq_getElem hp) (List.getElem?_eq_getElem hi)
  have b := h'.2 i _ _ (List.getElem?_eq_getElem hp) (List.getElem?_eq_getElem hi')
  exact a.spelt.symm.trans b.spelt

/-- ns are the numbers that a text holds. -/
def RdOk (s : ByteArray) (ns : List Int) : Prop := (IsNone s = true ∧ ns = []) ∨ (IsNone s = false ∧ (cutB s).length ≤ 64 ∧ GoodUp (cutB s) (cutB s).length ns)
theorem rdOk_uniq {s : ByteArray} {ns ms : List Int} (h : RdOk s ns) (h' : RdOk s ms) : ns = ms := by
  rcases h with ⟨h1, rfl⟩ | ⟨h1, h2, h3⟩
  · rcases h' with ⟨_, rfl⟩ | ⟨h1', _⟩
    · rfl
    · rw [h1] at h1'; cases h1'
  · rcases h' with ⟨h1', _⟩ | ⟨_, _, h3'⟩
    · rw [h1] at h1'; cases h1'
    · exact goodUp_uniq h3 h3'

/-- A row of int64 where it lies, whole: it may be written. -/
def RowWI (u : World) (g : Nat) (ns : List Int) : Prop := ns = [] ∨ ∃ N V, u.rowIs g 2 N V ∧ ns.length ≤ N ∧ ∀ i n, ns[i]? = some n → V i = .int .i64 n
theorem outAt_row {w wr : World} {b : Nat} {v : Value} {ns : List Int} (h : OutAt w wr b 2 v (ns.map (Value.int .i64))) (hb : b < w.heap.size) :
    ∃ g cap, v = .slice (some ⟨g, 0, none⟩) ns.length cap ∧ b ≤ g ∧ g < wr.heap.size ∧ RowWI wr g ns := by
  rcases h with ⟨h1, rfl, hS⟩ | ⟨hS, _, _, hO, hn⟩
  · have : ns = [] := by simpa using h1
    subst this
    exact ⟨b, 0, rfl, Nat.le_refl _, Nat.lt_of_lt_of_le hb hS.size, .inl rfl⟩
  · rcases hO.2 with ⟨h0, _⟩ | ⟨g, cap, cur, rfl, hbg, hg, hnc, hcm, hcs, htake⟩
    · exact absurd h0 hn
    · rw [List.length_map] at hnc htake ⊢
      rw [Nat.mul_one] at hcs htake
      refine ⟨g, cap, rfl, by omega, (Array.getElem?_eq_some_iff.1 hg).1, .inr ⟨cap, fun i => (cur[i]?).getD (.int .i64 0), ⟨cur, hg, hcs, fun i hi => ?_⟩, hnc, fun i n hin => ?_⟩⟩
      · have : i < cur.size := by omega
        simp [this]
      · have hi : i < ns.length := (List.getElem?_eq_some_iff.1 hin).1
        have e : (ns.map (Value.int .i64))[i]? = some (.int .i64 n) := by rw [List.getElem?_map, hin]; rfl
        rw [← htake, List.getElem?_take, if_pos hi] at e
        have e' : cur[i]? = some (.int .i64 n) := by simpa using e
        show (cur[i]?).getD _ = _
        rw [e']
        rfl
theorem infoI64 : (Tryd.prog.info? 2).map (fun i => (i.zero, i.size, i.bytes)) = some (some (.int .i64 0), 1, 8) := by kernel_rfl

/-- What both of them answer. -/
def RlAns (s : ByteArray) (w : World) (e : Ending) (w' : World) : Prop :=
  w.Since w.heap.size w' ∧ ((∃ ns g cap, RdOk s ns ∧ e = .returned (.tuple #[.slice (some ⟨g, 0, none⟩) ns.length cap, .bool true]) ∧ w.heap.size ≤ g ∧ g < w'.heap.size ∧ RowWI w' g ns) ∨ ((∀ ns, ¬ RdOk s ns) ∧ e = .returned (.tuple #[.slice none 0 0, .bool false])))

set_option maxRecDepth 20000 in
theorem rlS (s : ByteArray) (w : World) (hs : s.size ≤ 1048576) :
    Calls Tryd.prog 44 #[.string s] w (RlAns s w) := by
  have hst := ownV_start w 2
  cases hn : IsNone s
  · have HN := Lib.hid hn
    unfold IsNone at hn
    obtain ⟨N, hN⟩ : ∃ N, (cutB s).length = N := ⟨_, rfl⟩
    by_cases h64 : 64 < N
    · have h64' : (64 : Int) < (N : Int) := by omega
      go_enter Tryd.func44, Tryd.ntmps44
      go_wp2_with (first
        | (go_at_call 62; refine (cutS s _ hs).mono ?_; rintro e w1 ⟨v, rfl, hO⟩; obtain ⟨g, cap, rfl, hBg, hg, hc⟩ := hO.open; rw [List.length_map, hN]; have HO1 := Lib.hid hO.1; clear hO hc)
        | go_in)
      go_ret2
      exact ⟨since_up hst.1 HO1.out, .inr ⟨fun ns h => by
        rcases h with ⟨h1, _⟩ | ⟨_, h2, _⟩
        · rw [HN.out] at h1; cases h1
        · omega, rfl⟩⟩
    · have h64' : ¬ (64 : Int) < (N : Int) := by omega
      go_enter Tryd.func44, Tryd.ntmps44
      go_wp2_with (first
        | (go_at_call 62; refine (cutS s _ hs).mono ?_; rintro e w1 ⟨v, rfl, hO⟩; obtain ⟨g, cap, rfl, hBg, hg, hc⟩ := hO.open; rw [List.length_map, hN]; have HO1 := Lib.hid hO.1; have HC := Lib.hid hc; clear hO hc)
        | go_in)
      have hw1 : w.heap.size < w1.heap.size := by have := HO1.out.size; simp at this; omega
      have SW1 := since_up hst.1 HO1.out
      clear hst
      go_loopg [4, 6] N (fun gg o i wr => ∃ (k : Nat) (ns : List Int), k ≤ N ∧ gg = N - k ∧ i = .int .i64 k ∧ GoodUp (cutB s) k ns ∧ OutAt w1 wr w.heap.size 2 o (ns.map (Value.int .i64)))
      case atStart => exact ⟨0, [], Nat.zero_le _, rfl, rfl, goodUp_zero _, .inl ⟨rfl, rfl, World.Since.refl _ _⟩⟩
      case round =>
        obtain ⟨k, ns, hk, rfl, rfl, hG, hO⟩ := hrel
        have HG := Lib.hid hG
        have HO := Lib.hid hO
        have hlen := hG.1
        clear hG hO
        by_cases hlt : k < N
        · obtain ⟨x, hx⟩ : ∃ x, (cutB s)[k]? = some x := ⟨_, List.getElem?_eq_getElem (by omega)⟩
          have hxs : x.size ≤ 1048576 := Nat.le_trans (cutB_size (List.mem_of_getElem? hx)) hs
          have g1 : wr.cell? ⟨g, k, none⟩ = some (.string x) := by
            have h1 := HC.out k (.string x) (by rw [List.getElem?_map, hx]; rfl)
            rw [Addr.add_lit, Nat.zero_add] at h1
            rw [HO.out.since.cell (a := ⟨g, k, none⟩) hg]
            exact h1
          have HX := Lib.hid hx
          clear hx
          obtain ⟨i0, hi, hz0, hz1, hz2⟩ := info_parts infoI64
          have I0 := Lib.hid hi; have I1 := Lib.hid hz0; have I2 := Lib.hid hz1; have I3 := Lib.hid hz2
          clear hi hz0 hz1 hz2
          by_cases hE : ∃ n, IsDec x n
          · obtain ⟨n, hD⟩ := hE
            have HD := Lib.hid hD
            clear hD
            go_wp2_with (first
              | (go_at_call 37; refine (valS x _ (by unfold maxLen; omega)).mono ?_; rintro e w2 hv; obtain ⟨rfl, S2⟩ := hv.some HD.out; have HO2 := Lib.hid (outAt_since HO.out S2); clear hv S2)
              | (at_builtin; refine wpList_append_out _ rfl _ _ 27 rfl w2 w1 w.heap.size 2 i0 (.int .i64 0) 8 Tryd.underlying27 I0.out I1.out I2.out I3.out (by decide) rfl _ _ rfl HO2.out (by rw [List.length_map]; omega) 1 (.int .i64 n) rfl rfl rfl ?_; intro v' w3 hst)
              | go_in)
            go_roundg (N - (k + 1))
            case measure => omega
            case rel => exact ⟨k + 1, ns ++ [n], by omega, rfl, congrArg (Value.int .i64) (by omega), goodUp_step HG.out HX.out HD.out, .inr (by rw [List.map_append]; exact hst)⟩
          · have hno : ∀ n, ¬ IsDec x n := fun n h => hE ⟨n, h⟩
            have HD := Lib.hid hno
            clear hno hE
            go_wp2_with (first
              | (go_at_call 37; refine (valS x _ (by unfold maxLen; omega)).mono ?_; rintro e w2 hv; obtain ⟨rfl, S2⟩ := hv.none HD.out; clear hv)
              | go_in)
            go_ret2
            exact ⟨since_up (SW1.trans (since_mono HO.out.since SW1.size)) S2, .inr ⟨fun ns h => by
              rcases h with ⟨h1, _⟩ | ⟨_, _, h3⟩
              · rw [HN.out] at h1; cases h1
              · exact goodUp_bad HX.out HD.out ns h3, rfl⟩⟩
        · obtain rfl : k = N := by omega
          obtain ⟨g', cap', rfl, hb', hg', hR⟩ := outAt_row HO.out hw1
          go_wp2
          go_ret2
          exact ⟨SW1.trans (since_mono HO.out.since SW1.size), .inl ⟨ns, g', cap', .inr ⟨HN.out, by omega, by rw [hN]; exact HG.out⟩, rfl, hb', hg', hR⟩⟩
  · have HN := Lib.hid hn
    unfold IsNone at hn
    go_enter Tryd.func44, Tryd.ntmps44
    go_wp2
    go_ret2
    exact ⟨hst.1, .inl ⟨[], _, 0, .inl ⟨HN.out, rfl⟩, rfl, Nat.le_refl _, by simp, .inl rfl⟩⟩
end Go.Proofs.YtmlodheanckadaaDoor
