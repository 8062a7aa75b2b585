/-
  Walk of impl.ComplexText, where the library's table holds what it was laid with. No condition but what each theorem names.
-/
import Derived.Test.YtmlodheanckadaaDoorWkRc
import Derived.Test.YtmlodheanckadaaDoorWkNt
import Derived.Outline
namespace Go.Proofs.YtmlodheanckadaaDoor
open Go.RowKit Go.Deep
set_option linter.unusedVariables false
set_option linter.unusedSimpArgs false

/-- The 16 digits of the i-th complex number. -/
def hx16 (f : Nat → Nat × Nat) (i : Nat) : List UInt8 := hexN 8 (Fl.can .f32 (f i).1) ++ hexN 8 (Fl.can .f32 (f i).2)
theorem hx16_len (f : Nat → Nat × Nat) (i : Nat) : (hx16 f i).length = 16 := by unfold hx16; rw [List.length_append, hexN_len, hexN_len]
theorem hx16_cat (f : Nat → Nat × Nat) (i : Nat) : (⟨(hexN 8 (Fl.can .f32 (f i).1)).toArray⟩ : ByteArray) ++ ⟨(hexN 8 (Fl.can .f32 (f i).2)).toArray⟩ = ⟨(hx16 f i).toArray⟩ := by rw [ByteArray.mk_append_mk]; rfl
/-- What it answers. -/
def CtAns (f : Nat → Nat × Nat) (len : Nat) (w : World) (e : Ending) (w' : World) : Prop :=
  e = .returned (.tuple #[.string ⟨(textL (hx16 f) len).toArray⟩, .bool true]) ∧ w.Since w.heap.size w'

set_option maxHeartbeats 4000000 in
set_option maxRecDepth 20000 in
theorem ctI (b off len cap : Nat) (f : Nat → Nat × Nat) (w : World) (hf : ∀ i, (f i).1 < 4294967296 ∧ (f i).2 < 4294967296) (h256 : len ≤ 256) (ht : Tz w) (h1 : ∀ i, i < len → w.cell? ⟨b, off + i, none⟩ = some (.complex .f32 (f i).1 (f i).2)) (hb : b < w.heap.size) :
    Calls Tryd.prog 55 #[.slice (some ⟨b, off, none⟩) len cap] w (CtAns f len w) := by
  have h256' : ¬ (256 : Int) < (len : Int) := by omega
  have hst := ownV_start w 9
  have HF := Lib.hid hf
  clear hf
  go_enter Tryd.func55, Tryd.ntmps55
  go_wp2
  go_loopg [4, 13] len (fun gg o i wr => ∃ k : Nat, k ≤ len ∧ gg = len - k ∧ i = .int .i64 k ∧ OwnV w wr w.heap.size 9 o ((strsOf (hx16 f) k).map Value.string))
  case atStart => exact ⟨0, Nat.zero_le _, rfl, rfl, hst⟩
  case round =>
    obtain ⟨k, hk, rfl, rfl, hO⟩ := hrel
    clear hst
    have HO := Lib.hid hO
    have ht' := ht.since hO.1
    have HT := Lib.hid ht'
    clear ht ht'
    by_cases hlt : k < len
    · have g1 : wr.cell? ⟨b, off + k, none⟩ = some (.complex .f32 (f k).1 (f k).2) := by rw [hO.1.cell (a := ⟨b, off + k, none⟩) hb, h1 k hlt]
      have hcat := hx16_cat f k
      obtain ⟨p, hp⟩ : ∃ p, (f k).1 = p := ⟨_, rfl⟩
      obtain ⟨q, hq⟩ : ∃ q, (f k).2 = q := ⟨_, rfl⟩
      rw [hp, hq] at g1 hcat
      have hP := (HF.out k).1
      have hQ := (HF.out k).2
      rw [hp] at hP
      rw [hq] at hQ
      obtain ⟨D1, hD1⟩ : ∃ D : ByteArray, (⟨(hexN 8 (Fl.can .f32 p)).toArray⟩ : ByteArray) = D := ⟨_, rfl⟩
      obtain ⟨D2, hD2⟩ : ∃ D : ByteArray, (⟨(hexN 8 (Fl.can .f32 q)).toArray⟩ : ByteArray) = D := ⟨_, rfl⟩
      have hs1 : D1.size = 8 := by
        rw [← hD1]
        show (hexN 8 _).toArray.size = _
        rw [List.size_toArray, hexN_len]
      have hs2 : D2.size = 8 := by
        rw [← hD2]
        show (hexN 8 _).toArray.size = _
        rw [List.size_toArray, hexN_len]
      rw [hD1, hD2] at hcat
      have HD1 := Lib.hid (fun w' h => hexI p hP w' h)
      have HD2 := Lib.hid (fun w' h => hexI q hQ w' h)
      have E1 := Lib.hid hD1
      have E2 := Lib.hid hD2
      have HCat := Lib.hid hcat
      clear h1 hO hcat hD1 hD2 hP hQ hp hq
      obtain ⟨i0, hi, hz0, hz1, hz2⟩ := info_parts infoStr
      have I0 := Lib.hid hi; have I1 := Lib.hid hz0; have I2 := Lib.hid hz1; have I3 := Lib.hid hz2
      clear hi hz0 hz1 hz2
      have T0 : Stage 0 := trivial
      go_wp2_with (first
        | (go_at_call 48; clear T0; refine (HD1.out _ HT.out).mono ?_; rintro e w1 ⟨he, S1⟩; rw [E1.out] at he; subst he; have HO1 := Lib.hid (ownV_since HO.out S1); have HT1 := Lib.hid (HT.out.since S1))
        | (go_at_call 48; refine (HD2.out _ HT1.out).mono ?_; rintro e w2 ⟨he, S2⟩; rw [E2.out] at he; subst he; have HO2 := Lib.hid (ownV_since HO1.out S2))
        | (at_builtin; rw [HCat.out]; refine wpList_append_own _ rfl _ _ 57 rfl w.heap.size 9 i0 (.string ByteArray.empty) 1 16 Tryd.underlying57 I0.out I1.out I2.out I3.out rfl (by decide) _ _ _ rfl (HO2.out.2.2.2.1.alloc _) ⟨w2.heap.size, 0, none⟩ 1 1 [.string _] rfl rfl (cell_one_new _ _ _) (fun u hu => by rw [List.mem_singleton.1 hu]; rfl) (by rw [List.length_map, strsOf_len]; unfold maxLen; omega) (by rw [List.length_map, strsOf_len]; omega) (by have := HO2.out.2.2.1; simp; omega) ?_; intro v' w3 hown' hgrow hnil; have hne : v' ≠ .slice none 0 0 := (fun e => absurd (hnil.1 e).2 (by decide)); have hst := ownV_add HO2.out hown' hgrow hne; clear hnil hown' hgrow)
        | go_in)
      go_roundg (len - (k + 1))
      case measure => omega
      case rel => exact ⟨k + 1, by omega, rfl, congrArg (Value.int .i64) (by omega), by rw [strsOf_succ, List.map_append]; exact hst⟩
    · obtain rfl : k = len := by omega
      clear hO
      obtain ⟨g, cp, rfl, hBg, hg, hc⟩ := HO.out.open
      have hcap := HO.out.cap
      rw [List.length_map] at hcap ⊢
      have hcx : ∀ (j : Nat) x, (strsOf (hx16 f) k)[j]? = some x → wr.cell? ⟨g, 0 + j, none⟩ = some (.string x) := fun j x hx => by
        have := hc j (.string x) (by rw [List.getElem?_map, hx]; rfl)
        rwa [Addr.add_lit] at this
      have hll : (Lib.join ((strsOf (hx16 f) k).map (·.data.toList)) [44]).length ≤ 1048576 := by
        rw [strsOf_lists]
        have := numsT_len (hx16 f) 16 k (fun i hi => by rw [hx16_len]; omega)
        unfold numsT at this
        omega
      have HJ := Lib.hid (joinedW g cp _ wr hcx hg hcap (by rw [strsOf_len]; omega) hll)
      have hlen := strsOf_len (hx16 f) k
      clear hcx hll hc h1
      rw [hlen]
      have HJ2 := HJ.out
      rw [← textL_strs, hlen] at HJ2
      have HJ3 := Lib.hid HJ2
      clear HJ2 HJ
      go_wp2_with (first
        | (go_at_call 49; refine HJ3.out.mono ?_; rintro e w1 ⟨rfl, S1⟩)
        | go_in)
      go_ret2
      exact ⟨rfl, since_up HO.out.1 S1⟩
end Go.Proofs.YtmlodheanckadaaDoor
