/-
  Walk of impl.ReadComplex, where the library's variables hold what they were laid with. No condition but the text's length (2^20).
-/
import Derived.Test.YtmlodheanckadaaDoorWkRcS
import Derived.Test.YtmlodheanckadaaDoorWkCt
import Derived.Outline
import Derived.Deep.RegionLaw
import Derived.Test.YtmlodheanckadaaDoorStepA
namespace Go.Proofs.YtmlodheanckadaaDoor
open Go.RowKit Go.Deep
set_option linter.unusedVariables false
set_option linter.unusedSimpArgs false

theorem rowWC_cells {u : World} {g : Nat} {ns : List (Nat × Nat)} (h : RowWC u g ns) : ∀ i, i < ns.length → u.cell? ⟨g, 0 + i, none⟩ = some (cv (ns.getD i (0, 0))) := by
  intro i hi
  rcases h with rfl | ⟨N, V, h1, h2, h3⟩
  · simp at hi
  · rw [Nat.zero_add, h1.cell (show i < N by omega), h3 i _ (List.getElem?_eq_getElem hi)]
    simp [hi]
theorem rowWC_since {u v : World} {g : Nat} {ns : List (Nat × Nat)} (h : RowWC u g ns) (hg : g < u.heap.size) (s : u.Since u.heap.size v) : RowWC v g ns := by
  rcases h with h | ⟨N, V, h1, h2⟩
  · exact .inl h
  · exact .inr ⟨N, V, h1.of_block (s.block g hg), h2⟩
theorem since_drew (w : World) : w.Since w.heap.size w.drew := ⟨rfl, rfl, rfl, Nat.le_refl _, fun _ _ => rfl⟩
/-- A pair of 32-bit words. -/
def md (z : Nat × Nat) : Nat × Nat := (z.1 % 4294967296, z.2 % 4294967296)
theorem md_lt (z : Nat × Nat) : (md z).1 < 4294967296 ∧ (md z).2 < 4294967296 := ⟨Nat.mod_lt _ (by decide), Nat.mod_lt _ (by decide)⟩
theorem md_of {z : Nat × Nat} (h : cplxC.rng z) : md z = z := by
  show (z.1 % 4294967296, z.2 % 4294967296) = z
  rw [Nat.mod_eq_of_lt h.1, Nat.mod_eq_of_lt h.2]
theorem ct_text (ns : List (Nat × Nat)) (s : ByteArray) (hlen : ns.length = (cutB s).length) (hv : ∀ (i : Nat) n, ns[i]? = some n → cplxC.at_ s i = n) (hr : ∀ (i : Nat) n, ns[i]? = some n → cplxC.rng n) :
    textL (hx16 fun i => md (ns.getD i (0, 0))) (cutB s).length = cplxC.text s := by
  have hp := Codec.cutB_pos s
  unfold textL
  rw [if_neg (by omega)]
  unfold Codec.text
  apply numsT_congr
  intro i hi
  have hi' : i < ns.length := by omega
  have e := List.getElem?_eq_getElem hi'
  have e1 : ns.getD i (0, 0) = ns[i] := by simp [hi']
  show hexN 8 (Fl.can .f32 (md (ns.getD i (0, 0))).1) ++ hexN 8 (Fl.can .f32 (md (ns.getD i (0, 0))).2) = cplxC.enc (cplxC.norm (cplxC.at_ s i))
  rw [e1, md_of (hr i _ e), hv i _ e]
  rfl

set_option maxHeartbeats 4000000 in
set_option maxRecDepth 20000 in
theorem rcI (s : ByteArray) (w : World) (hs : s.size ≤ 1048576) (ht : Tz w) (he : Errs w) (hm : MaxL w) :
    Calls Tryd.prog 31 #[.string s] w (RcAns s w) := by
  have hst := ownV_start w 64
  cases hn : IsNone s
  · have HN := Lib.hid hn
    have hm1 := hm.since hst.1
    obtain ⟨N, hN⟩ : ∃ N, (cutB s).length = N := ⟨_, rfl⟩
    clear hn
    go_enter Tryd.func31, Tryd.ntmps31
    go_wp2_with (first
      | (go_at_call 52; refine (piecesW s _ hs hm1 HN.out).mono ?_; rintro e w1 ⟨rfl, hS1, hg, hc⟩; rw [hN]; have HO1 := Lib.hid hS1; have HC := Lib.hid hc; clear hS1 hc)
      | go_in)
    have hsz1 : (w.alloc (.cells #[] 64)).heap.size = w.heap.size + 1 := by simp
    have hw1 : w.heap.size < w1.heap.size := by have := HO1.out.size; omega
    have hg2 : w.heap.size + 1 < w1.heap.size := by omega
    have SW1 := since_up hst.1 HO1.out
    have HT := Lib.hid ht
    have HE := Lib.hid he
    clear hst hg ht he hm hm1
    go_loopg [4, 13] N (fun gg o i wr => ∃ (k : Nat) (ns : List (Nat × Nat)), k ≤ N ∧ k ≤ 256 ∧ gg = N - k ∧ i = .int .i64 k ∧ ns.length = k ∧ (∀ (i : Nat) n, ns[i]? = some n → cplxC.at_ s i = n ∧ cplxC.rng n) ∧ (∀ (i : Nat) (x : ByteArray), i < k → (cutB s)[i]? = some x → x.size = 16) ∧ OutAt w1 wr w.heap.size 64 o (ns.map cv))
    case atStart => exact ⟨0, [], Nat.zero_le _, Nat.zero_le _, rfl, rfl, rfl, fun i n h => by simp at h, fun i x h => absurd h (Nat.not_lt_zero _), .inl ⟨rfl, rfl, World.Since.refl _ _⟩⟩
    case round =>
      obtain ⟨k, ns, hk, hk256, rfl, rfl, hlen, hV, hZ, hO⟩ := hrel
      obtain ⟨g', cap', hv, hb', hg', hR⟩ := outAt_rowC hO hw1
      rw [hlen] at hv
      subst hv
      have HO := Lib.hid hO
      have HV := Lib.hid hV
      have HZ := Lib.hid hZ
      have HRw := Lib.hid hR
      have SWr := SW1.trans (since_mono hO.since SW1.size)
      clear hO hV hZ hR
      by_cases hlt : k < N
      · obtain ⟨x, hx⟩ : ∃ x, (cutB s)[k]? = some x := ⟨_, List.getElem?_eq_getElem (by omega)⟩
        have g1 : wr.cell? ⟨w.heap.size + 1, k, none⟩ = some (.string x) := by
          have h1 := HC.out k x hx
          rw [Nat.zero_add, hsz1] at h1
          rw [HO.out.since.cell (a := ⟨w.heap.size + 1, k, none⟩) hg2]
          exact h1
        have her := HE.out.since SWr
        have HEr := Lib.hid her
        have HX := Lib.hid hx
        clear hx her
        obtain ⟨i0, hi, hz0, hz1, hz2⟩ := info_parts infoC64
        have I0 := Lib.hid hi; have I1 := Lib.hid hz0; have I2 := Lib.hid hz1; have I3 := Lib.hid hz2
        clear hi hz0 hz1 hz2
        have hxs : x.size ≤ 1048576 := Nat.le_trans (cutB_size (List.mem_of_getElem? HX.out)) hs
        by_cases h8 : x.size = 16
        · by_cases h256 : k = 256
          · subst h256
            have hno : ∀ ns, ¬ RcOk s ns := fun ns h => by
              rcases h with ⟨h1, _⟩ | ⟨_, h2, _⟩
              · rw [HN.out] at h1; cases h1
              · omega
            have HNo := Lib.hid hno
            clear hno
            go_wp2
            go_ret2
            exact ⟨SWr, .inr ⟨HNo.out, rfl⟩⟩
          · have h256b : ((k : Int) == 256) = false := beq_false_of_ne (by omega)
            have hat := (cplxC.at_some HX.out)
            have hrg : cplxC.rng (cplxC.at_ s k) := by rw [hat]; exact cplxC.hrng x h8
            have hA8 : (x.extract 0 8).size = 8 := by rw [ext_size x 0 8 (by omega) (by omega)]
            have hB8 : (x.extract 8 16).size = 8 := by rw [ext_size x 8 16 (by omega) (by omega)]
            have hra := readHexW _ hA8
            have hrb := readHexW _ hB8
            have hat' : cplxC.at_ s k = (hexV (x.extract 0 8), hexV (x.extract 8 16)) := hat
            obtain ⟨A, hA⟩ : ∃ A, x.extract 0 8 = A := ⟨_, rfl⟩
            obtain ⟨B, hB⟩ : ∃ B, x.extract 8 16 = B := ⟨_, rfl⟩
            rw [hA, hB] at hat'
            rw [hA] at hra hA8
            rw [hB] at hrb hB8
            obtain ⟨p, hp⟩ : ∃ p, hexV A = p := ⟨_, rfl⟩
            obtain ⟨q, hq⟩ : ∃ q, hexV B = q := ⟨_, rfl⟩
            rw [hp] at hra hat'
            rw [hq] at hrb hat'
            have HRa := Lib.hid hra
            have HRb := Lib.hid hrb
            have HAt := Lib.hid hat'
            have HRg := Lib.hid hrg
            clear hra hrb hat' hrg hat hp hq
            have T0 : Stage 0 := trivial
            go_wp2
            go_region_law (first
              | (refine step_append_out _ rfl _ _ 44 rfl w3 w1 w.heap.size 64 i0 (.complex .f32 0 0) 8 Tryd.underlying44 I0.out I1.out I2.out I3.out (by decide) rfl _ _ rfl HO3.out (by rw [List.length_map]; omega) 1 (.complex .f32 p q) rfl rfl rfl ?_; intro v' w4 hst)
              | (clear T0; go_simp; go_wp2_with (first | (go_at_call 53; refine (HRa.out _ ?_).mono ?_; exact HEr.out.since (since_drew _); rintro e w2 ⟨rfl, S1⟩; have S2 := since_up (since_drew _) S1; have HO2 := Lib.hid (outAt_since HO.out S2); have HE2 := Lib.hid (HEr.out.since S2); have T1 : Stage 1 := trivial) | go_in))
              | (clear T1; go_simp; go_wp2_with (first | (go_at_call 53; refine (HRb.out _ ?_).mono ?_; exact HE2.out; rintro e w3 ⟨rfl, S3⟩; have HO3 := Lib.hid (outAt_since HO2.out S3)) | go_in)))
            go_wp2
            go_roundg (N - (k + 1))
            case measure => omega
            case rel =>
              refine ⟨k + 1, ns ++ [(p, q)], by omega, by omega, rfl, congrArg (Value.int .i64) (by omega), by simp [hlen], fun i n hin => ?_, fun i y hi hy => ?_, .inr (by rw [List.map_append]; exact hst)⟩
              · by_cases hik : i < ns.length
                · rw [List.getElem?_append_left hik] at hin
                  exact HV.out i n hin
                · have hlt2 : i < (ns ++ [(p, q)]).length := (List.getElem?_eq_some_iff.1 hin).1
                  rw [List.length_append, List.length_singleton] at hlt2
                  obtain rfl : i = k := by omega
                  rw [List.getElem?_append_right (by omega), hlen, Nat.sub_self] at hin
                  obtain rfl := Option.some.inj hin
                  exact ⟨HAt.out, by rw [← HAt.out]; exact HRg.out⟩
              · by_cases hik : i < k
                · exact HZ.out i y hik hy
                · obtain rfl : i = k := by omega
                  rw [HX.out] at hy
                  obtain rfl := Option.some.inj hy
                  exact h8
        · have h8b : ((x.size : Int) == 16) = false := beq_false_of_ne (by omega)
          have hno : ∀ ns, ¬ RcOk s ns := fun ns h => by
            rcases h with ⟨h1, _⟩ | ⟨_, _, h3⟩
            · rw [HN.out] at h1; cases h1
            · exact h8 ((cplxC.fits_read h3).1 k x HX.out)
          have HNo := Lib.hid hno
          clear hno
          go_wp2
          go_ret2
          exact ⟨SWr, .inr ⟨HNo.out, rfl⟩⟩
      · obtain rfl : k = N := by omega
        have htx := ct_text ns s (by omega) (fun i n h => (HV.out i n h).1) (fun i n h => (HV.out i n h).2)
        have hcells : ∀ i, i < k → wr.cell? ⟨g', 0 + i, none⟩ = some (.complex .f32 (md (ns.getD i (0, 0))).1 (md (ns.getD i (0, 0))).2) := fun i hi => by
          have hi' : i < ns.length := by omega
          rw [rowWC_cells HRw.out i hi']
          have e := List.getElem?_eq_getElem hi'
          have e1 : ns.getD i (0, 0) = ns[i] := by simp [hi']
          rw [e1, md_of (HV.out i _ e).2]
          rfl
        have hnt := ctI g' 0 k cap' (fun i => md (ns.getD i (0, 0))) wr (fun i => md_lt _) hk256 (HT.out.since SWr) hcells hg'
        unfold CtAns at hnt
        rw [← hN, htx, hN] at hnt
        obtain ⟨tl, htl⟩ : ∃ tl, cplxC.text s = tl := ⟨_, rfl⟩
        rw [htl] at hnt
        have HTl := Lib.hid htl
        have HNt := Lib.hid hnt
        clear htx hcells hnt htl
        have hR2 := HRw.out
        cases hB : (tl == s.toList)
        · have hno : ∀ ns, ¬ RcOk s ns := fun ms h => by
            rcases h with ⟨h1, _⟩ | ⟨_, _, h3⟩
            · rw [HN.out] at h1; cases h1
            · have e := (cplxC.fits_read h3).2.1
              rw [HTl.out, ← ByteArray.toList_eq] at e
              rw [e] at hB
              simp at hB
          have HNo := Lib.hid hno
          clear hno
          go_wp2_with (first
            | (go_at_call 55; refine HNt.out.mono ?_; rintro e w2 ⟨rfl, S2⟩)
            | go_in)
          go_ret2
          exact ⟨since_up SWr S2, .inr ⟨HNo.out, rfl⟩⟩
        · have hst : s.data.toList = cplxC.text s := by rw [HTl.out, ← ByteArray.toList_eq]; exact (eq_of_beq hB).symm
          have hfit := cplxC.read_fits (fun i x hx => HZ.out i x (by rw [← hN]; exact (List.getElem?_eq_some_iff.1 hx).1) hx) hst
          have hup := cplxC.vals_up hfit
          have hns : ns = cplxC.vals s := by
            apply List.ext_getElem (by simp [Codec.vals]; omega)
            intro i h1 h2
            have := (HV.out i _ (List.getElem?_eq_getElem h1)).1
            rw [← this]
            simp [Codec.vals]
          have HUp : Hid (RcOk s ns) := Lib.hid (.inr ⟨HN.out, by omega, by rw [hns]; exact hup⟩)
          clear hst hfit hup hns
          go_wp2_with (first
            | (go_at_call 55; refine HNt.out.mono ?_; rintro e w2 ⟨rfl, S2⟩)
            | go_in)
          go_ret2
          exact ⟨since_up SWr S2, .inl ⟨ns, g', cap', HUp.out, by rw [hlen]; rfl, hb', Nat.lt_of_lt_of_le hg' S2.size, rowWC_since HRw.out hg' S2⟩⟩
  · have HN := Lib.hid hn
    have HT := Lib.hid ht
    have hnone : ([110, 111, 110, 101] == s.toList) = true := by
      unfold IsNone at hn
      rw [eq_of_beq hn]; rfl
    clear hn ht he hm
    go_enter Tryd.func31, Tryd.ntmps31
    go_wp2_with (first
      | (go_at_call 52; refine (piecesNone s _ HN.out).mono ?_; rintro e w1 ⟨rfl, hw⟩; subst w1)
      | go_in)
    go_loopg [4, 13] 0 (fun gg o i wr => i = .int .i64 0 ∧ o = .slice (some ⟨w.heap.size, 0, none⟩) 0 0 ∧ wr = w.alloc (.cells #[] 64))
    case atStart => exact ⟨rfl, rfl, rfl⟩
    case round =>
      obtain ⟨rfl, rfl, rfl⟩ := hrel
      have HS := Lib.hid hst.1
      have hnt := ctI w.heap.size 0 0 0 (fun i => (0, 0)) (w.alloc (.cells #[] 64)) (fun i => ⟨by decide, by decide⟩) (by decide) (HT.out.since hst.1) (fun i hi => absurd hi (Nat.not_lt_zero _)) (by simp)
      unfold CtAns at hnt
      have HNt := Lib.hid hnt
      clear hst hnt
      go_wp2_with (first
        | (go_at_call 55; refine HNt.out.mono ?_; rintro e w2 ⟨he, S2⟩; rw [show (⟨(textL (hx16 fun i => (0, 0)) 0).toArray⟩ : ByteArray) = ⟨#[110, 111, 110, 101]⟩ from rfl] at he; subst he)
        | go_in)
      go_ret2
      exact ⟨since_up HS.out S2, .inl ⟨[], _, 0, .inl ⟨HN.out, rfl⟩, rfl, Nat.le_refl _, by have := S2.size; simp at this; omega, .inl rfl⟩⟩
end Go.Proofs.YtmlodheanckadaaDoor
