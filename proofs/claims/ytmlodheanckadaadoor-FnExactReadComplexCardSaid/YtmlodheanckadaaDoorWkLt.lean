/-
  Walks below the law FnExactListText: a list's values are looked at; its text is written. No condition but what each theorem names.
-/
import Derived.Test.YtmlodheanckadaaDoorWkI
import Derived.Test.YtmlodheanckadaaDoorWkRd
import Derived.Test.YtmlodheanckadaaDoorShC
import Derived.Test.YtmlodheanckadaaDoorTxtP
import Derived.Laws.Concat
import Derived.Outline
namespace Go.Proofs.YtmlodheanckadaaDoor
open Go.RowKit Go.Deep
set_option linter.unusedVariables false
set_option linter.unusedSimpArgs false

/-- Few numbers, none too great. -/
def ValsOk (f : Nat → Int) (len : Nat) : Prop := (∀ i, i < len → -1000000000000000 ≤ f i ∧ f i ≤ 1000000000000000) ∧ len ≤ 64

theorem okS (b off len cap : Nat) (f : Nat → Int) (w : World) (hl : len ≤ 1048576) (h1 : ∀ i, i < len → w.cell? ⟨b, off + i, none⟩ = some (.int .i64 (f i))) :
    Calls Tryd.prog 40 #[.slice (some ⟨b, off, none⟩) len cap] w fun e w' => w' = w ∧ ((ValsOk f len ∧ e = .returned (.bool true)) ∨ (¬ ValsOk f len ∧ e = .returned (.bool false))) := by
  go_enter Tryd.func40, Tryd.ntmps40
  go_wp2
  go_loopg [3] len (fun g i wr => ∃ k : Nat, k ≤ len ∧ g = len - k ∧ i = .int .i64 k ∧ wr = w ∧ ∀ j, j < k → -1000000000000000 ≤ f j ∧ f j ≤ 1000000000000000)
  case atStart => exact ⟨0, Nat.zero_le _, rfl, rfl, rfl, fun j hj => absurd hj (Nat.not_lt_zero _)⟩
  case round =>
    obtain ⟨k, hk, rfl, rfl, rfl, hv⟩ := hrel
    have HV := Lib.hid hv
    clear hv
    by_cases hlt : k < len
    · have g1 := h1 k hlt
      clear h1
      obtain ⟨v, hfv⟩ : ∃ v, f k = v := ⟨_, rfl⟩
      rw [hfv] at g1
      by_cases hR : -1000000000000000 ≤ v ∧ v ≤ 1000000000000000
      · have hRb : (decide (-1000000000000000 ≤ v) && decide (v ≤ 1000000000000000)) = true := by simp [hR]
        have HR := Lib.hid hR
        have HF := Lib.hid hfv
        clear hR hfv
        go_wp2_with (first
          | (go_at_call 58; refine (inB _ _ _ _).mono ?_; rintro e w' ⟨rfl, hw⟩; subst w'; rw [hRb])
          | go_in)
        go_roundg (len - (k + 1))
        case measure => omega
        case rel => exact ⟨k + 1, by omega, rfl, congrArg (Value.int .i64) (by omega), rfl, fun j hj => by
          by_cases e : j = k
          · rw [e, HF.out]; exact HR.out
          · exact HV.out j (by omega)⟩
      · have hRb : (decide (-1000000000000000 ≤ v) && decide (v ≤ 1000000000000000)) = false := by
          rw [Bool.and_eq_false_iff, decide_eq_false_iff_not, decide_eq_false_iff_not]; omega
        have HR := Lib.hid hR
        have HF := Lib.hid hfv
        clear hR hfv
        go_wp2_with (first
          | (go_at_call 58; refine (inB _ _ _ _).mono ?_; rintro e w' ⟨rfl, hw⟩; subst w'; rw [hRb])
          | go_in)
        go_ret
        exact ⟨rfl, .inr ⟨fun h => HR.out (by rw [← HF.out]; exact h.1 k hlt), rfl⟩⟩
    · obtain rfl : k = len := by omega
      by_cases h64 : k ≤ 64
      · have h64' : (k : Int) ≤ 64 := by omega
        go_wp2
        go_ret
        exact ⟨rfl, .inl ⟨⟨HV.out, h64⟩, rfl⟩⟩
      · have h64' : ¬ (k : Int) ≤ 64 := by omega
        go_wp2
        go_ret
        exact ⟨rfl, .inr ⟨fun h => h64 h.2, rfl⟩⟩

theorem okI (b off len cap : Nat) (f : Nat → Int) (w : World) (hl : len ≤ 1048576) (h1 : ∀ i, i < len → w.cell? ⟨b, off + i, none⟩ = some (.int .i64 (f i))) :
    Calls Tryd.prog 42 #[.slice (some ⟨b, off, none⟩) len cap] w fun e w' => w' = w ∧ ((ValsOk f len ∧ e = .returned (.bool true)) ∨ (¬ ValsOk f len ∧ e = .returned (.bool false))) := by
  go_enter Tryd.func42, Tryd.ntmps42
  go_wp2
  go_loopg [7] len (fun g i wr => ∃ k : Nat, k ≤ len ∧ g = len - k ∧ i = .int .i64 k ∧ wr = w ∧ ∀ j, j < k → -1000000000000000 ≤ f j ∧ f j ≤ 1000000000000000)
  case atStart => exact ⟨0, Nat.zero_le _, rfl, rfl, rfl, fun j hj => absurd hj (Nat.not_lt_zero _)⟩
  case round =>
    obtain ⟨k, hk, rfl, rfl, rfl, hv⟩ := hrel
    have HV := Lib.hid hv
    clear hv
    by_cases hlt : k < len
    · have g1 := h1 k hlt
      clear h1
      obtain ⟨v, hfv⟩ : ∃ v, f k = v := ⟨_, rfl⟩
      rw [hfv] at g1
      by_cases hR : -1000000000000000 ≤ v ∧ v ≤ 1000000000000000
      · have hRb : (decide (-1000000000000000 ≤ v) && decide (v ≤ 1000000000000000)) = true := by simp [hR]
        have HR := Lib.hid hR
        have HF := Lib.hid hfv
        clear hR hfv
        go_wp2_with (first
          | (go_at_call 39; refine (isValW _ _).mono ?_; rintro e w' ⟨rfl, hw⟩; subst w'; rw [hRb])
          | go_in)
        go_roundg (len - (k + 1))
        case measure => omega
        case rel => exact ⟨k + 1, by omega, rfl, congrArg (Value.int .i64) (by omega), rfl, fun j hj => by
          by_cases e : j = k
          · rw [e, HF.out]; exact HR.out
          · exact HV.out j (by omega)⟩
      · have hRb : (decide (-1000000000000000 ≤ v) && decide (v ≤ 1000000000000000)) = false := by
          rw [Bool.and_eq_false_iff, decide_eq_false_iff_not, decide_eq_false_iff_not]; omega
        have HR := Lib.hid hR
        have HF := Lib.hid hfv
        clear hR hfv
        go_wp2_with (first
          | (go_at_call 39; refine (isValW _ _).mono ?_; rintro e w' ⟨rfl, hw⟩; subst w'; rw [hRb])
          | go_in)
        go_ret
        exact ⟨rfl, .inr ⟨fun h => HR.out (by rw [← HF.out]; exact h.1 k hlt), rfl⟩⟩
    · obtain rfl : k = len := by omega
      by_cases h64 : k ≤ 64
      · have h64' : (k : Int) ≤ 64 := by omega
        go_wp2
        go_ret
        exact ⟨rfl, .inl ⟨⟨HV.out, h64⟩, rfl⟩⟩
      · have h64' : ¬ (k : Int) ≤ 64 := by omega
        go_wp2
        go_ret
        exact ⟨rfl, .inr ⟨fun h => h64 h.2, rfl⟩⟩


theorem joinedW (g cap : Nat) (xs : List ByteArray) (w : World) (hc : ∀ (j : Nat) x, xs[j]? = some x → w.cell? ⟨g, 0 + j, none⟩ = some (.string x)) (hg : g < w.heap.size) (hcap : xs.length ≤ cap) (hn : xs.length ≤ 1048576) (hlen : (Lib.join (xs.map (·.data.toList)) [44]).length ≤ 1048576) :
    Calls Tryd.prog 49 #[.slice (some ⟨g, 0, none⟩) xs.length cap] w fun e w' => e = .returned (.string ⟨(if xs.length = 0 then [110, 111, 110, 101] else Lib.join (xs.map (·.data.toList)) [44]).toArray⟩) ∧ w.Since w.heap.size w' := by
  have HJ := Lib.hid (Tryd.strings_Join g 0 cap xs ⟨#[44]⟩ w hc hg (by omega) hcap (by show (Lib.join _ [44]).length ≤ _; omega))
  clear hc hcap hlen
  by_cases h0 : xs.length = 0
  · rw [h0] at HJ ⊢
    go_enter Tryd.func49, Tryd.ntmps49
    go_wp2
    go_ret
    exact ⟨rfl, World.Since.refl _ _⟩
  · rw [if_neg h0]
    obtain ⟨L, hL⟩ : ∃ L, Lib.join (xs.map (·.data.toList)) [44] = L := ⟨_, rfl⟩
    rw [hL]
    have HL := Lib.hid hL
    clear hL
    go_enter Tryd.func49, Tryd.ntmps49
    go_wp2_with (go_at_call 66; refine HJ.out.mono ?_; rintro e w' ⟨rfl, hb⟩)
    go_ret
    exact ⟨by rw [← HL.out]; rfl, since_of_below hb⟩

theorem infoStr : (Tryd.prog.info? 9).map (fun i => (i.zero, i.size, i.bytes)) = some (some (.string ByteArray.empty), 1, 16) := by kernel_rfl

set_option maxRecDepth 20000 in
theorem txI (b off len cap : Nat) (f : Nat → Int) (w : World) (hv : ValsOk f len) (hp : Pow w) (h1 : ∀ i, i < len → w.cell? ⟨b, off + i, none⟩ = some (.int .i64 (f i))) (hb : b < w.heap.size) :
    Calls Tryd.prog 43 #[.slice (some ⟨b, off, none⟩) len cap] w fun e w' => e = .returned (.string ⟨(textL (fun i => Lib.itoa (f i)) len).toArray⟩) ∧ w.Since w.heap.size w' := by
  have hst := ownV_start w 9
  have HV := Lib.hid hv
  have h64 : len ≤ 64 := hv.2
  clear hv
  go_enter Tryd.func43, Tryd.ntmps43
  go_wp2
  go_loopg [3, 9] len (fun gg o i wr => ∃ k : Nat, k ≤ len ∧ gg = len - k ∧ i = .int .i64 k ∧ OwnV w wr w.heap.size 9 o ((strsOf (fun i => Lib.itoa (f i)) k).map Value.string))
  case atStart => exact ⟨0, Nat.zero_le _, rfl, rfl, hst⟩
  case round =>
    obtain ⟨k, hk, rfl, rfl, hO⟩ := hrel
    clear hst
    have HO := Lib.hid hO
    have hp' := hp.since hO.1
    by_cases hlt : k < len
    · have g1 : wr.cell? ⟨b, off + k, none⟩ = some (.int .i64 (f k)) := by rw [hO.1.cell (a := ⟨b, off + k, none⟩) hb, h1 k hlt]
      clear h1 hO
      obtain ⟨i0, hi, hz0, hz1, hz2⟩ := info_parts infoStr
      have I0 := Lib.hid hi; have I1 := Lib.hid hz0; have I2 := Lib.hid hz1; have I3 := Lib.hid hz2
      clear hi hz0 hz1 hz2
      go_wp2_with (first
        | (go_at_call 11; refine (decI (f k) (by have := HV.out.1 k hlt; omega) (by have := HV.out.1 k hlt; omega) _ hp').mono ?_; rintro e w1 ⟨rfl, S1⟩; have HO1 := Lib.hid (ownV_since HO.out S1))
        | (at_builtin; refine wpList_append_own _ rfl _ _ 57 rfl w.heap.size 9 i0 (.string ByteArray.empty) 1 16 Tryd.underlying57 I0.out I1.out I2.out I3.out rfl (by decide) _ _ _ rfl (HO1.out.2.2.2.1.alloc _) ⟨w1.heap.size, 0, none⟩ 1 1 [.string _] rfl rfl (cell_one_new _ _ _) (fun u hu => by rw [List.mem_singleton.1 hu]; rfl) (by rw [List.length_map, strsOf_len]; unfold maxLen; omega) (by rw [List.length_map, strsOf_len]; omega) (by have := HO1.out.2.2.1; simp; omega) ?_; intro v' w2 hown' hgrow hnil; have hne : v' ≠ .slice none 0 0 := (fun e => absurd (hnil.1 e).2 (by decide)); have hst := ownV_add HO1.out hown' hgrow hne; clear hnil hown' hgrow)
        | go_in)
      go_roundg (len - (k + 1))
      case measure => omega
      case rel => exact ⟨k + 1, by omega, rfl, congrArg (Value.int .i64) (by omega), by rw [strsOf_succ, List.map_append]; exact hst⟩
    · obtain rfl : k = len := by omega
      clear hO
      obtain ⟨g, cp, rfl, hBg, hg, hc⟩ := HO.out.open
      have hcap := HO.out.cap
      rw [List.length_map] at hcap ⊢
      have hcx : ∀ (j : Nat) x, (strsOf (fun i => Lib.itoa (f i)) k)[j]? = some x → wr.cell? ⟨g, 0 + j, none⟩ = some (.string x) := fun j x hx => by
        have := hc j (.string x) (by rw [List.getElem?_map, hx]; rfl)
        rwa [Addr.add_lit] at this
      have hll : (Lib.join ((strsOf (fun i => Lib.itoa (f i)) k).map (·.data.toList)) [44]).length ≤ 1048576 := by
        rw [strsOf_lists]
        have := numsT_len (fun i => Lib.itoa (f i)) 17 k (fun i hi => (itoa_len (HV.out.1 i hi).1 (HV.out.1 i hi).2).2)
        unfold numsT at this
        omega
      have HJ := Lib.hid (joinedW g cp _ wr hcx hg hcap (by rw [strsOf_len]; omega) hll)
      have hlen := strsOf_len (fun i => Lib.itoa (f i)) k
      clear hcx hll hc h1
      rw [hlen]
      have HJ2 := HJ.out
      rw [← textL_strs, hlen] at HJ2
      have HJ3 := Lib.hid HJ2
      clear HJ2 HJ
      go_wp2_with (go_at_call 49; refine HJ3.out.mono ?_; rintro e w1 ⟨rfl, S1⟩)
      go_ret
      exact ⟨rfl, since_up HO.out.1 S1⟩

theorem cat3 (x y : List UInt8) : (⟨x.toArray⟩ : ByteArray) ++ ((⟨#[44]⟩ : ByteArray) ++ ⟨y.toArray⟩) = ⟨(x ++ 44 :: y).toArray⟩ := by
  rw [show (⟨#[44]⟩ : ByteArray) = ⟨([44] : List UInt8).toArray⟩ from rfl, ByteArray.mk_append_mk, ByteArray.mk_append_mk]
  rfl

set_option maxRecDepth 20000 in
theorem txS (b off len cap : Nat) (f : Nat → Int) (w : World) (hv : ValsOk f len) (h1 : ∀ i, i < len → w.cell? ⟨b, off + i, none⟩ = some (.int .i64 (f i))) (hb : b < w.heap.size) :
    Calls Tryd.prog 41 #[.slice (some ⟨b, off, none⟩) len cap] w fun e w' => e = .returned (.string ⟨(textL (fun i => Lib.itoa (f i)) len).toArray⟩) ∧ w.Since w.heap.size w' := by
  have HV := Lib.hid hv
  have h64 : len ≤ 64 := hv.2
  clear hv
  rcases Nat.eq_zero_or_pos len with rfl | hpos
  · clear h1
    go_enter Tryd.func41, Tryd.ntmps41
    go_wp2
    go_ret
    exact ⟨rfl, World.Since.refl _ _⟩
  · have g0 := h1 0 hpos
    rw [Nat.add_zero] at g0
    have hpos' : ¬ len = 0 := by omega
    have H1 := Lib.hid h1
    clear h1
    go_enter Tryd.func41, Tryd.ntmps41
    go_wp2_with (first
      | (go_at_call 35; refine (decS (f 0) (by have := HV.out.1 0 hpos; omega) (by have := HV.out.1 0 hpos; omega) _).mono ?_; rintro e w0 ⟨rfl, S0⟩)
      | go_in)
    go_loopg [3, 4] (len - 1) (fun gg o i wr => ∃ (k : Nat) (S : ByteArray), 1 ≤ k ∧ k ≤ len ∧ gg = len - k ∧ i = .int .i64 k ∧ o = .string S ∧ S = ⟨(numsT (fun i => Lib.itoa (f i)) k).toArray⟩ ∧ w.Since w.heap.size wr)
    case atStart => exact ⟨1, _, Nat.le_refl _, hpos, rfl, rfl, rfl, by rw [numsT_one], S0⟩
    case round =>
      obtain ⟨k, S, hk1, hk, rfl, rfl, rfl, hS, hSi⟩ := hrel
      have HS := Lib.hid hS
      have hsz : S.size ≤ 1152 := by
        have := numsT_len (fun i => Lib.itoa (f i)) 17 k (fun i hi => (itoa_len (HV.out.1 i (by omega)).1 (HV.out.1 i (by omega)).2).2)
        rw [hS]
        show (numsT _ k).toArray.size ≤ _
        rw [List.size_toArray]
        omega
      clear hS
      by_cases hlt : k < len
      · have g1 : wr.cell? ⟨b, off + k, none⟩ = some (.int .i64 (f k)) := by rw [hSi.cell (a := ⟨b, off + k, none⟩) hb]; exact H1.out k hlt
        have hdl := (itoa_len (HV.out.1 k hlt).1 (HV.out.1 k hlt).2).2
        obtain ⟨D, hD⟩ : ∃ D : ByteArray, (⟨(Lib.itoa (f k)).toArray⟩ : ByteArray) = D := ⟨_, rfl⟩
        have hDs : D.size ≤ 17 := by
          rw [← hD]
          show (Lib.itoa (f k)).toArray.size ≤ _
          rw [List.size_toArray]; exact hdl
        have HD := Lib.hid hD
        clear hD hdl
        go_wp2_with (first
          | (go_at_call 35; refine (decS (f k) (by have := HV.out.1 k hlt; omega) (by have := HV.out.1 k hlt; omega) _).mono ?_; rintro e w1 ⟨he, S1⟩; rw [HD.out] at he; subst he)
          | go_in)
        go_roundg (len - (k + 1))
        case measure => omega
        case rel => exact ⟨k + 1, _, by omega, by omega, rfl, congrArg (Value.int .i64) (by omega), rfl, by rw [numsT_succ _ _ hk1, HS.out, ← HD.out]; exact cat3 _ _, since_up hSi S1⟩
      · obtain rfl : k = len := by omega
        go_wp2
        go_ret
        exact ⟨by rw [textL, if_neg hpos', ← HS.out]; rfl, hSi⟩
end Go.Proofs.YtmlodheanckadaaDoor
