/-
  Walks of impl.hexOf, impl.NumbersText and spec.NumbersText, where the library's table holds what it was laid with. No condition but what each theorem names.
-/
import Derived.Test.YtmlodheanckadaaDoorWkFb
import Derived.Test.YtmlodheanckadaaDoorWkHx
import Derived.Test.YtmlodheanckadaaDoorWkLt
import Derived.Test.YtmlodheanckadaaDoorWkTo
import Derived.Outline
namespace Go.Proofs.YtmlodheanckadaaDoor
open Go.RowKit Go.Deep
set_option linter.unusedVariables false
set_option linter.unusedSimpArgs false

theorem fmtHex (n : Nat) (hn : n < 4294967296) (w : World) (h : Tz w) : Calls Tryd.prog 36 #[.int .i64 (n : Nat), .int .i64 16] w fun e w' => e = .returned (.string ⟨(hexG n).toArray⟩) ∧ w.Since w.heap.size w' := by
  go_enter Tryd.func36, Tryd.ntmps36
  go_wp2_with (first
    | (go_at_call 76; refine (fmtBits n hn _ h).mono ?_; rintro e w1 ⟨rfl, hS⟩)
    | go_in)
  go_ret
  exact ⟨rfl, hS⟩
theorem bitsI (x : Nat) (hx : x < 4294967296) (w : World) : Calls Tryd.prog 64 #[.float .f32 x] w fun e w' => e = .returned (.int .i64 (Fl.can .f32 x)) ∧ w = w' := by
  cases hn : Fl.isN .f32 x with
  | true =>
    go_enter Tryd.func64, Tryd.ntmps64
    go_wp2
    go_ret
    exact ⟨by rw [Fl.can_nan hn]; rfl, rfl⟩
  | false =>
    go_enter Tryd.func64, Tryd.ntmps64
    go_wp2
    go_ret
    exact ⟨by rw [Fl.can_of _ _ hn]; rfl, rfl⟩

set_option maxRecDepth 20000 in
theorem hexI (x : Nat) (hx : x < 4294967296) (w : World) (h : Tz w) :
    Calls Tryd.prog 48 #[.float .f32 x] w fun e w' => e = .returned (.string ⟨(hexN 8 (Fl.can .f32 x)).toArray⟩) ∧ w.Since w.heap.size w' := by
  obtain ⟨n, hn⟩ : ∃ n, Fl.can .f32 x = n := ⟨_, rfl⟩
  have hn32 : n < 4294967296 := by rw [← hn]; exact Fl.can32_lt hx
  obtain ⟨p1, p2, p3⟩ := hexG_pad 7 n (by omega)
  obtain ⟨m, hm⟩ : ∃ m, (hexG n).length = m := ⟨_, rfl⟩
  rw [hm] at p1 p2 p3
  have HP := Lib.hid p3
  have HM := Lib.hid hm
  have hcat : (⟨(List.replicate (8 - m) 48).toArray⟩ : ByteArray) ++ ⟨(hexG n).toArray⟩ = ⟨(hexN 8 n).toArray⟩ := by rw [ByteArray.mk_append_mk, p3]
  have HCat := Lib.hid hcat
  clear p3 hcat
  rw [hn]
  obtain ⟨A, hA⟩ : ∃ A : ByteArray, (⟨(hexG n).toArray⟩ : ByteArray) = A := ⟨_, rfl⟩
  have hAs : A.size = m := by rw [← hA, ← hm]; show (hexG n).toArray.size = _; simp
  obtain ⟨R, hR⟩ : ∃ R : ByteArray, (⟨(Lib.repeatL (⟨#[48]⟩ : ByteArray).data.toList (8 - m)).toArray⟩ : ByteArray) = R := ⟨_, rfl⟩
  have hRs : R.size = 8 - m := by rw [← hR]; show (Lib.repeatL [48] (8 - m)).toArray.size = _; rw [repeatL_zero]; simp
  have HA := Lib.hid hA
  have HR := Lib.hid hR
  clear hm hA hR
  have hcast : ((8 - m : Nat) : Int) = 8 - (m : Int) := by omega
  have hrep := fun w' => Tryd.strings_Repeat ⟨#[48]⟩ (8 - m) w' (by omega) (by show 1 * (8 - m) ≤ _; omega)
  rw [HR.out, hcast] at hrep
  have HRep := Lib.hid hrep
  clear hrep
  go_enter Tryd.func48, Tryd.ntmps48
  go_wp2_with (first
    | (go_at_call 64; refine (bitsI x hx _).mono ?_; rintro e w' ⟨rfl, hw⟩; subst w'; rw [hn])
    | (go_at_call 36; refine (fmtHex n hn32 _ h).mono ?_; rintro e w1 ⟨he, S1⟩; rw [HA.out] at he; subst he)
    | (go_at_call 65; refine (HRep.out _).mono ?_; rintro e w2 ⟨rfl, hb⟩)
    | go_in)
  go_ret
  exact ⟨by rw [← HCat.out, ← HR.out, ← HA.out, ← repeatL_zero]; rfl, since_up S1 (since_of_below hb)⟩

/-- The digits of the i-th number. -/
def hx8 (f : Nat → Nat) (i : Nat) : List UInt8 := hexN 8 (Fl.can .f32 (f i))
theorem hx8_len (f : Nat → Nat) (i : Nat) : (hx8 f i).length = 8 := hexN_len 8 _
/-- What both of them answer. -/
def NtAns (f : Nat → Nat) (len : Nat) (w : World) (e : Ending) (w' : World) : Prop :=
  e = .returned (.tuple #[.string (if len ≤ 256 then ⟨(textL (hx8 f) len).toArray⟩ else ⟨#[]⟩), .bool (decide (len ≤ 256))]) ∧ w.Since w.heap.size w'

set_option maxRecDepth 20000 in
theorem ntI (b off len cap : Nat) (f : Nat → Nat) (w : World) (hf : ∀ i, f i < 4294967296) (hl : len ≤ 1048576) (ht : Tz w) (h1 : ∀ i, i < len → w.cell? ⟨b, off + i, none⟩ = some (.float .f32 (f i))) (hb : b < w.heap.size) :
    Calls Tryd.prog 24 #[.slice (some ⟨b, off, none⟩) len cap] w (NtAns f len w) := by
  by_cases h256 : len ≤ 256
  · have h256' : ¬ (256 : Int) < (len : Int) := by omega
    have hst := ownV_start w 9
    have HF := Lib.hid hf
    clear hf
    go_enter Tryd.func24, Tryd.ntmps24
    go_wp2
    go_loopg [4, 13] len (fun gg o i wr => ∃ k : Nat, k ≤ len ∧ gg = len - k ∧ i = .int .i64 k ∧ OwnV w wr w.heap.size 9 o ((strsOf (hx8 f) k).map Value.string))
    case atStart => exact ⟨0, Nat.zero_le _, rfl, rfl, hst⟩
    case round =>
      obtain ⟨k, hk, rfl, rfl, hO⟩ := hrel
      clear hst
      have HO := Lib.hid hO
      have ht' := ht.since hO.1
      have HT := Lib.hid ht'
      clear ht ht'
      by_cases hlt : k < len
      · have g1 : wr.cell? ⟨b, off + k, none⟩ = some (.float .f32 (f k)) := by rw [hO.1.cell (a := ⟨b, off + k, none⟩) hb, h1 k hlt]
        clear h1 hO
        obtain ⟨i0, hi, hz0, hz1, hz2⟩ := info_parts infoStr
        have I0 := Lib.hid hi; have I1 := Lib.hid hz0; have I2 := Lib.hid hz1; have I3 := Lib.hid hz2
        clear hi hz0 hz1 hz2
        go_wp2_with (first
          | (go_at_call 48; refine (hexI (f k) (HF.out k) _ HT.out).mono ?_; rintro e w1 ⟨rfl, S1⟩; have HO1 := Lib.hid (ownV_since HO.out S1))
          | (at_builtin; refine wpList_append_own _ rfl _ _ 57 rfl w.heap.size 9 i0 (.string ByteArray.empty) 1 16 Tryd.underlying57 I0.out I1.out I2.out I3.out rfl (by decide) _ _ _ rfl (HO1.out.2.2.2.1.alloc _) ⟨w1.heap.size, 0, none⟩ 1 1 [.string _] rfl rfl (cell_one_new _ _ _) (fun u hu => by rw [List.mem_singleton.1 hu]; rfl) (by rw [List.length_map, strsOf_len]; unfold maxLen; omega) (by rw [List.length_map, strsOf_len]; omega) (by have := HO1.out.2.2.1; simp; omega) ?_; intro v' w2 hown' hgrow hnil; have hne : v' ≠ .slice none 0 0 := (fun e => absurd (hnil.1 e).2 (by decide)); have hst := ownV_add HO1.out hown' hgrow hne; clear hnil hown' hgrow)
          | go_in)
        go_roundg (len - (k + 1))
        case measure => omega
        case rel => exact ⟨k + 1, by omega, rfl, congrArg (Value.int .i64) (by omega), by rw [strsOf_succ, List.map_append]; exact hst⟩
      · obtain rfl : k = len := by omega
        clear hO
        obtain ⟨g, cp, rfl, hBg, hg, hc⟩ := HO.out.open
        have hcap := HO.out.cap
        rw [List.length_map] at hcap ⊢
        have hcx : ∀ (j : Nat) x, (strsOf (hx8 f) k)[j]? = some x → wr.cell? ⟨g, 0 + j, none⟩ = some (.string x) := fun j x hx => by
          have := hc j (.string x) (by rw [List.getElem?_map, hx]; rfl)
          rwa [Addr.add_lit] at this
        have hll : (Lib.join ((strsOf (hx8 f) k).map (·.data.toList)) [44]).length ≤ 1048576 := by
          rw [strsOf_lists]
          have := numsT_len (hx8 f) 8 k (fun i hi => by rw [hx8_len]; omega)
          unfold numsT at this
          omega
        have HJ := Lib.hid (joinedW g cp _ wr hcx hg hcap (by rw [strsOf_len]; omega) hll)
        have hlen := strsOf_len (hx8 f) k
        clear hcx hll hc h1
        rw [hlen]
        have HJ2 := HJ.out
        rw [← textL_strs, hlen] at HJ2
        have HJ3 := Lib.hid HJ2
        clear HJ2 HJ
        go_wp2_with (first
          | (go_at_call 49; refine HJ3.out.mono ?_; rintro e w1 ⟨rfl, S1⟩)
          | go_in)
        go_ret2
        exact ⟨by rw [if_pos h256, decide_eq_true h256]; rfl, since_up HO.out.1 S1⟩
  · have h256' : (256 : Int) < (len : Int) := by omega
    go_enter Tryd.func24, Tryd.ntmps24
    go_wp2
    go_ret2
    exact ⟨by rw [if_neg h256, decide_eq_false h256]; rfl, World.Since.refl _ _⟩

set_option maxRecDepth 20000 in
theorem ntxS (b off len cap : Nat) (f : Nat → Nat) (w : World) (hf : ∀ i, f i < 4294967296) (h256 : len ≤ 256) (h1 : ∀ i, i < len → w.cell? ⟨b, off + i, none⟩ = some (.float .f32 (f i))) (hb : b < w.heap.size) :
    Calls Tryd.prog 47 #[.slice (some ⟨b, off, none⟩) len cap] w fun e w' => e = .returned (.string ⟨(textL (hx8 f) len).toArray⟩) ∧ w.Since w.heap.size w' := by
  have HF := Lib.hid hf
  clear hf
  rcases Nat.eq_zero_or_pos len with rfl | hpos
  · clear h1
    go_enter Tryd.func47, Tryd.ntmps47
    go_wp2
    go_ret
    exact ⟨rfl, World.Since.refl _ _⟩
  · have g0 := h1 0 hpos
    rw [Nat.add_zero] at g0
    have hpos' : ¬ len = 0 := by omega
    have H1 := Lib.hid h1
    clear h1
    have HD0 := Lib.hid (fun w' => hexS (f 0) (HF.out 0) w')
    go_enter Tryd.func47, Tryd.ntmps47
    go_wp2_with (first
      | (go_at_call 63; refine (HD0.out _).mono ?_; rintro e w0 ⟨rfl, S0⟩)
      | go_in)
    go_loopg [3, 4] (len - 1) (fun gg o i wr => ∃ (k : Nat) (S : ByteArray), 1 ≤ k ∧ k ≤ len ∧ gg = len - k ∧ i = .int .i64 k ∧ o = .string S ∧ S = ⟨(numsT (hx8 f) k).toArray⟩ ∧ w.Since w.heap.size wr)
    case atStart => exact ⟨1, _, Nat.le_refl _, hpos, rfl, rfl, rfl, by rw [numsT_one]; rfl, S0⟩
    case round =>
      obtain ⟨k, S, hk1, hk, rfl, rfl, rfl, hS, hSi⟩ := hrel
      have HS := Lib.hid hS
      have hsz : S.size ≤ 2304 := by
        have := numsT_len (hx8 f) 8 k (fun i hi => by rw [hx8_len]; omega)
        rw [hS]
        show (numsT _ k).toArray.size ≤ _
        rw [List.size_toArray]
        omega
      clear hS
      by_cases hlt : k < len
      · have g1 : wr.cell? ⟨b, off + k, none⟩ = some (.float .f32 (f k)) := by rw [hSi.cell (a := ⟨b, off + k, none⟩) hb]; exact H1.out k hlt
        obtain ⟨D, hD⟩ : ∃ D : ByteArray, (⟨(hexN 8 (Fl.can .f32 (f k))).toArray⟩ : ByteArray) = D := ⟨_, rfl⟩
        have hDs : D.size ≤ 8 := by
          rw [← hD]
          show (hexN 8 _).toArray.size ≤ _
          rw [List.size_toArray, hexN_len]; omega
        have HD := Lib.hid hD
        clear hD
        have HDk := Lib.hid (fun w' => hexS (f k) (HF.out k) w')
        go_wp2_with (first
          | (go_at_call 63; refine (HDk.out _).mono ?_; rintro e w1 ⟨he, S1⟩; rw [HD.out] at he; subst he)
          | go_in)
        go_roundg (len - (k + 1))
        case measure => omega
        case rel => exact ⟨k + 1, _, by omega, by omega, rfl, congrArg (Value.int .i64) (by omega), rfl, by rw [numsT_succ _ _ hk1, HS.out, ← HD.out]; exact cat3 _ _, since_up hSi S1⟩
      · obtain rfl : k = len := by omega
        go_wp2
        go_ret
        exact ⟨by rw [textL, if_neg hpos', ← HS.out]; rfl, hSi⟩
theorem ntS (b off len cap : Nat) (f : Nat → Nat) (w : World) (hf : ∀ i, f i < 4294967296) (hl : len ≤ 1048576) (h1 : ∀ i, i < len → w.cell? ⟨b, off + i, none⟩ = some (.float .f32 (f i))) (hb : b < w.heap.size) :
    Calls Tryd.prog 22 #[.slice (some ⟨b, off, none⟩) len cap] w (NtAns f len w) := by
  have H1 := Lib.hid h1
  have HF := Lib.hid hf
  clear h1 hf
  by_cases h256 : len ≤ 256
  · have h256' : (len : Int) ≤ 256 := by omega
    go_enter Tryd.func22, Tryd.ntmps22
    go_wp2_with (first
      | (go_at_call 47; refine (ntxS b off len cap f _ HF.out h256 H1.out hb).mono ?_; rintro e w1 ⟨rfl, S1⟩)
      | go_in)
    go_ret2
    exact ⟨by rw [if_pos h256, decide_eq_true h256]; rfl, S1⟩
  · have h256' : ¬ (len : Int) ≤ 256 := by omega
    go_enter Tryd.func22, Tryd.ntmps22
    go_wp2
    go_ret2
    exact ⟨by rw [if_neg h256, decide_eq_false h256]; rfl, World.Since.refl _ _⟩
end Go.Proofs.YtmlodheanckadaaDoor
