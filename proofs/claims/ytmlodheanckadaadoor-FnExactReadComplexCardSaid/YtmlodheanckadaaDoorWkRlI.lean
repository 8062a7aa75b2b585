/-
  Walks of impl.readList and impl.ReadList, where the library's variables hold what they were laid with. No condition but the text's length (2^20).
-/
import Derived.Test.YtmlodheanckadaaDoorWkRl
import Derived.Outline
namespace Go.Proofs.YtmlodheanckadaaDoor
open Go.RowKit Go.Deep
set_option linter.unusedVariables false
set_option linter.unusedSimpArgs false

/-- What impl.readList answers: however many numbers there are. -/
def RiOk (s : ByteArray) (ns : List Int) : Prop := (IsNone s = true ∧ ns = []) ∨ (IsNone s = false ∧ GoodUp (cutB s) (cutB s).length ns)
def RiAns (s : ByteArray) (w : World) (e : Ending) (w' : World) : Prop :=
  w.Since w.heap.size w' ∧ ((∃ ns g cap, RiOk s ns ∧ e = .returned (.tuple #[.slice (some ⟨g, 0, none⟩) ns.length cap, .bool true]) ∧ w.heap.size ≤ g ∧ g < w'.heap.size ∧ RowWI w' g ns) ∨ ((∀ ns, ¬ RiOk s ns) ∧ e = .returned (.tuple #[.slice none 0 0, .bool false])))

set_option maxRecDepth 20000 in
theorem riW (s : ByteArray) (w : World) (hs : s.size ≤ 1048576) (hp : Pow w) (he : Errs w) (hm : MaxL w) :
    Calls Tryd.prog 45 #[.string s] w (RiAns s w) := by
  have hst := ownV_start w 2
  cases hn : IsNone s
  · have HN := Lib.hid hn
    have hm1 := hm.since hst.1
    obtain ⟨N, hN⟩ : ∃ N, (cutB s).length = N := ⟨_, rfl⟩
    have hNs : N ≤ 1048577 := by
      rw [← hN, cutB_len]
      have := List.count_le_length (a := (44 : UInt8)) (l := s.data.toList)
      have e : s.data.toList.length = s.size := by simp
      omega
    clear hn
    go_enter Tryd.func45, Tryd.ntmps45
    go_wp2_with (first
      | (go_at_call 52; refine (piecesW s _ hs hm1 HN.out).mono ?_; rintro e w1 ⟨rfl, hS1, hg, hc⟩; rw [hN]; have HO1 := Lib.hid hS1; have HC := Lib.hid hc; clear hS1 hc)
      | go_in)
    have hsz1 : (w.alloc (.cells #[] 2)).heap.size = w.heap.size + 1 := by simp
    have hw1 : w.heap.size < w1.heap.size := by have := HO1.out.size; omega
    have hg2 : w.heap.size + 1 < w1.heap.size := by omega
    have SW1 := since_up hst.1 HO1.out
    clear hst hg
    go_loopg [4, 13] N (fun gg o i wr => ∃ (k : Nat) (ns : List Int), k ≤ N ∧ gg = N - k ∧ i = .int .i64 k ∧ GoodUp (cutB s) k ns ∧ OutAt w1 wr w.heap.size 2 o (ns.map (Value.int .i64)))
    case atStart => exact ⟨0, [], Nat.zero_le _, rfl, rfl, goodUp_zero _, .inl ⟨rfl, rfl, World.Since.refl _ _⟩⟩
    case round =>
      obtain ⟨k, ns, hk, rfl, rfl, hG, hO⟩ := hrel
      have HG := Lib.hid hG
      have HO := Lib.hid hO
      have hlen := hG.1
      have SWr := SW1.trans (since_mono hO.since SW1.size)
      clear hG hO
      by_cases hlt : k < N
      · obtain ⟨x, hx⟩ : ∃ x, (cutB s)[k]? = some x := ⟨_, List.getElem?_eq_getElem (by omega)⟩
        have hxs : x.size ≤ 1048576 := Nat.le_trans (cutB_size (List.mem_of_getElem? hx)) hs
        have g1 : wr.cell? ⟨w.heap.size + 1, k, none⟩ = some (.string x) := by
          have h1 := HC.out k x hx
          rw [Nat.zero_add, hsz1] at h1
          rw [HO.out.since.cell (a := ⟨w.heap.size + 1, k, none⟩) hg2]
          exact h1
        have HX := Lib.hid hx
        have hpr := hp.since SWr
        have her := he.since SWr
        clear hx hp he
        obtain ⟨i0, hi, hz0, hz1, hz2⟩ := info_parts infoI64
        have I0 := Lib.hid hi; have I1 := Lib.hid hz0; have I2 := Lib.hid hz1; have I3 := Lib.hid hz2
        clear hi hz0 hz1 hz2
        by_cases hE : ∃ n, IsDec x n
        · obtain ⟨n, hD⟩ := hE
          have HD := Lib.hid hD
          clear hD
          go_wp2_with (first
            | (go_at_call 13; refine (valI x _ hxs hpr her).mono ?_; rintro e w2 hv; obtain ⟨rfl, S2⟩ := hv.some HD.out; have HO2 := Lib.hid (outAt_since HO.out S2); clear hv S2)
            | (at_builtin; refine wpList_append_out _ rfl _ _ 27 rfl w2 w1 w.heap.size 2 i0 (.int .i64 0) 8 Tryd.underlying27 I0.out I1.out I2.out I3.out (by decide) rfl _ _ rfl HO2.out (by rw [List.length_map]; omega) 1 (.int .i64 n) rfl rfl rfl ?_; intro v' w3 hst)
            | go_in)
          go_roundg (N - (k + 1))
          case measure => omega
          case rel => exact ⟨k + 1, ns ++ [n], by omega, rfl, congrArg (Value.int .i64) (by omega), goodUp_step HG.out HX.out HD.out, .inr (by rw [List.map_append]; exact hst)⟩
        · have hno : ∀ n, ¬ IsDec x n := fun n h => hE ⟨n, h⟩
          have HD := Lib.hid hno
          clear hno hE
          go_wp2_with (first
            | (go_at_call 13; refine (valI x _ hxs hpr her).mono ?_; rintro e w2 hv; obtain ⟨rfl, S2⟩ := hv.none HD.out; clear hv)
            | go_in)
          go_ret2
          exact ⟨since_up SWr S2, .inr ⟨fun ns h => by
            rcases h with ⟨h1, _⟩ | ⟨_, h3⟩
            · rw [HN.out] at h1; cases h1
            · exact goodUp_bad HX.out HD.out ns h3, rfl⟩⟩
      · obtain rfl : k = N := by omega
        obtain ⟨g', cap', rfl, hb', hg', hR⟩ := outAt_row HO.out hw1
        go_wp2
        go_ret2
        exact ⟨SWr, .inl ⟨ns, g', cap', .inr ⟨HN.out, by rw [hN]; exact HG.out⟩, rfl, hb', hg', hR⟩⟩
  · have HN := Lib.hid hn
    clear hn
    go_enter Tryd.func45, Tryd.ntmps45
    go_wp2_with (first
      | (go_at_call 52; refine (piecesNone s _ HN.out).mono ?_; rintro e w1 ⟨rfl, hw⟩; subst w1)
      | go_in)
    go_loopg [4, 13] 0 (fun gg o i wr => i = .int .i64 0 ∧ o = .slice (some ⟨w.heap.size, 0, none⟩) 0 0 ∧ wr = w.alloc (.cells #[] 2))
    case atStart => exact ⟨rfl, rfl, rfl⟩
    case round =>
      obtain ⟨rfl, rfl, rfl⟩ := hrel
      have HT := Lib.hid hst.1
      clear hst
      go_wp2
      go_ret2
      exact ⟨HT.out, .inl ⟨[], _, 0, .inl ⟨HN.out, rfl⟩, rfl, Nat.le_refl _, by simp, .inl rfl⟩⟩

theorem riOk_len {s : ByteArray} {ns : List Int} (h : RiOk s ns) : RdOk s ns ↔ ns.length ≤ 64 := by
  rcases h with ⟨h1, rfl⟩ | ⟨h1, h2⟩
  · exact ⟨fun _ => by simp, fun _ => .inl ⟨h1, rfl⟩⟩
  · constructor
    · rintro (⟨h1', _⟩ | ⟨_, h3, h4⟩)
      · rw [h1] at h1'; cases h1'
      · rw [h4.1]; exact h3
    · intro h; exact .inr ⟨h1, by rw [← h2.1]; exact h, h2⟩
theorem rdOk_ri {s : ByteArray} {ns : List Int} (h : RdOk s ns) : RiOk s ns := by
  rcases h with h | ⟨h1, _, h3⟩
  · exact .inl h
  · exact .inr ⟨h1, h3⟩
theorem riOk_uniq {s : ByteArray} {ns ms : List Int} (h : RiOk s ns) (h' : RiOk s ms) : ns = ms := by
  rcases h with ⟨h1, rfl⟩ | ⟨h1, h3⟩
  · rcases h' with ⟨_, rfl⟩ | ⟨h1', _⟩
    · rfl
    · rw [h1] at h1'; cases h1'
  · rcases h' with ⟨h1', _⟩ | ⟨_, h3'⟩
    · rw [h1] at h1'; cases h1'
    · exact goodUp_uniq h3 h3'

theorem rlI (s : ByteArray) (w : World) (hs : s.size ≤ 1048576) (hp : Pow w) (he : Errs w) (hm : MaxL w) :
    Calls Tryd.prog 19 #[.string s] w (RlAns s w) := by
  by_cases hE : ∃ ns, RiOk s ns
  · obtain ⟨ns, hR⟩ := hE
    have HR := Lib.hid hR
    clear hR
    have hc : Calls Tryd.prog 45 #[.string s] w fun e w' => ∃ g cap, e = .returned (.tuple #[.slice (some ⟨g, 0, none⟩) ns.length cap, .bool true]) ∧ w.Since w.heap.size w' ∧ w.heap.size ≤ g ∧ g < w'.heap.size ∧ RowWI w' g ns :=
      (riW s w hs hp he hm).mono fun e w' ⟨hS, h⟩ => by
        rcases h with ⟨ms, g, cap, h1, h2, h3⟩ | ⟨h1, _⟩
        · rw [riOk_uniq HR.out h1]; exact ⟨g, cap, h2, hS, h3⟩
        · exact absurd HR.out (h1 ns)
    obtain ⟨N, hN⟩ : ∃ N, ns.length = N := ⟨_, rfl⟩
    rw [hN] at hc
    have HC := Lib.hid hc
    clear hc hp he hm
    by_cases h64 : 64 < N
    · have h64' : (64 : Int) < (N : Int) := by omega
      go_enter Tryd.func19, Tryd.ntmps19
      go_wp2_with (first
        | (go_at_call 45; refine HC.out.mono ?_; rintro e w' ⟨g, cap, rfl, hS, hg1, hg2, hR⟩; have HW := Lib.hid hR; clear hR)
        | go_in)
      go_ret2
      exact ⟨hS, .inr ⟨fun ms h => by
        have e := riOk_uniq HR.out (rdOk_ri h)
        rw [← e] at h
        have := (riOk_len HR.out).1 h
        omega, rfl⟩⟩
    · have h64' : ¬ (64 : Int) < (N : Int) := by omega
      go_enter Tryd.func19, Tryd.ntmps19
      go_wp2_with (first
        | (go_at_call 45; refine HC.out.mono ?_; rintro e w' ⟨g, cap, rfl, hS, hg1, hg2, hR⟩; have HW := Lib.hid hR; clear hR)
        | go_in)
      go_ret2
      exact ⟨hS, .inl ⟨ns, g, cap, (riOk_len HR.out).2 (by omega), by rw [hN]; rfl, hg1, hg2, HW.out⟩⟩
  · have hno : ∀ ns, ¬ RiOk s ns := fun ns h => hE ⟨ns, h⟩
    have hc : Calls Tryd.prog 45 #[.string s] w fun e w' => e = .returned (.tuple #[.slice none 0 0, .bool false]) ∧ w.Since w.heap.size w' :=
      (riW s w hs hp he hm).mono fun e w' ⟨hS, h⟩ => by
        rcases h with ⟨ms, g, cap, h1, _⟩ | ⟨_, h2⟩
        · exact absurd h1 (hno ms)
        · exact ⟨h2, hS⟩
    have HC := Lib.hid hc
    have HN := Lib.hid hno
    clear hc hp he hm hno hE
    go_enter Tryd.func19, Tryd.ntmps19
    go_wp2_with (first
      | (go_at_call 45; refine HC.out.mono ?_; rintro e w' ⟨rfl, hS⟩)
      | go_in)
    go_ret2
    exact ⟨hS, .inr ⟨fun ms h => HN.out ms (rdOk_ri h), rfl⟩⟩
end Go.Proofs.YtmlodheanckadaaDoor
