/-
  Walks of spec.l01Cut and impl.pieces: a text cut at commas. No condition but the text's length (2^20).
-/
import Derived.Test.YtmlodheanckadaaDoorOwn
import Derived.Test.YtmlodheanckadaaDoorCutP
import Derived.Test.YtmlodheanckadaaDoorShC
import Derived.Test.YtmlodheanckadaaDoorWkDec
import Derived.Lib.Hide
import Derived.Outline
namespace Go.Proofs.YtmlodheanckadaaDoor
open Go.RowKit Go.Deep
set_option linter.unusedVariables false
set_option linter.unusedSimpArgs false

theorem infoStr' : (Tryd.prog.info? 9).map (fun i => (i.zero, i.size, i.bytes)) = some (some (.string ByteArray.empty), 1, 16) := by kernel_rfl

def mkB (l : List UInt8) : ByteArray := ⟨l.toArray⟩
/-- Where the cut stands: k bytes are looked at, the piece under way began at fr, done are the pieces before it. -/
structure CutAt (s : ByteArray) (k fr : Nat) (done : List ByteArray) : Prop where
  le : fr ≤ k
  no : (44 : UInt8) ∉ (s.data.toList.drop fr).take (k - fr)
  eq : cutB s = done ++ (cutL 44 (s.data.toList.drop fr)).map mkB
theorem cutAt_start (s : ByteArray) : CutAt s 0 0 [] := ⟨Nat.le_refl _, by simp, by simp [cutB, mkB]⟩
theorem ext_list (s : ByteArray) (a b : Nat) : (s.extract a b) = mkB ((s.data.toList.drop a).take (b - a)) := by
  apply ByteArray.ext
  rw [ByteArray.data_extract]
  apply Array.ext'
  simp [mkB]
theorem cutAt_pass {s : ByteArray} {k fr : Nat} {done : List ByteArray} (h : CutAt s k fr done) (hk : k < s.size) (hne : s[k] ≠ 44) : CutAt s (k + 1) fr done := by
  have hle := h.le
  refine ⟨by omega, ?_, h.eq⟩
  rw [show k + 1 - fr = k - fr + 1 by omega, List.take_add_one]
  intro hm
  rcases List.mem_append.1 hm with hm | hm
  · exact h.no hm
  · rw [List.getElem?_drop, show fr + (k - fr) = k by omega, List.getElem?_eq_getElem (by simpa using hk)] at hm
    have e : (44 : UInt8) = s.data[k]'hk := by simpa using hm
    exact hne e.symm
theorem cutAt_mark {s : ByteArray} {k fr : Nat} {done : List ByteArray} (h : CutAt s k fr done) (hk : k < s.size) (he : s[k] = 44) : CutAt s (k + 1) (k + 1) (done ++ [s.extract fr k]) := by
  have hle := h.le
  refine ⟨Nat.le_refl _, by simp, ?_⟩
  have e1 : s.data.toList.drop fr = (s.data.toList.drop fr).take (k - fr) ++ 44 :: s.data.toList.drop (k + 1) := by
    conv => lhs; rw [← List.take_append_drop (k - fr) (s.data.toList.drop fr)]
    congr 1
    rw [List.drop_drop, show fr + (k - fr) = k by omega, List.drop_eq_getElem_cons (by simpa using hk)]
    congr 1
  rw [h.eq, e1, cutL_at 44 _ _ h.no, List.map_cons, ext_list]
  simp
theorem cutAt_end {s : ByteArray} {fr : Nat} {done : List ByteArray} (h : CutAt s s.size fr done) : cutB s = done ++ [s.extract fr s.size] := by
  have hle := h.le
  have e1 : (s.data.toList.drop fr).take (s.size - fr) = s.data.toList.drop fr := by
    apply List.take_of_length_le
    simp
  have hno := h.no
  rw [e1] at hno
  rw [h.eq, cutL_no 44 _ hno, ext_list, e1]
  rfl

set_option maxRecDepth 20000 in
theorem cutS (s : ByteArray) (w : World) (hs : s.size ≤ 1048576) :
    Calls Tryd.prog 62 #[.string s, .int .u8 44] w fun e w' => ∃ v, e = .returned v ∧ OwnV w w' w.heap.size 9 v ((cutB s).map Value.string) := by
  have hst := ownV_start w 9
  go_enter Tryd.func62, Tryd.ntmps62
  go_wp2
  go_loopg [5, 6, 7] (s.size + 1) (fun gg o fv i wr => ∃ (k fr : Nat) (done : List ByteArray), k ≤ s.size + 1 ∧ gg = s.size + 1 - k ∧ i = .int .i64 k ∧ fv = .int .i64 fr ∧ fr ≤ k ∧ OwnV w wr w.heap.size 9 o (done.map Value.string) ∧ done.length ≤ k ∧ ((k ≤ s.size ∧ CutAt s k fr done) ∨ (k = s.size + 1 ∧ done = cutB s)))
  case atStart => exact ⟨0, 0, [], Nat.zero_le _, rfl, rfl, rfl, Nat.le_refl _, hst, Nat.le_refl _, .inl ⟨Nat.zero_le _, cutAt_start s⟩⟩
  case round =>
    obtain ⟨k, fr, done, hk, rfl, rfl, rfl, hfr, hO, hdl, hcase⟩ := hrel
    clear hst
    have HO := Lib.hid hO
    obtain ⟨i0, hi, hz0, hz1, hz2⟩ := info_parts infoStr'
    have I0 := Lib.hid hi; have I1 := Lib.hid hz0; have I2 := Lib.hid hz1; have I3 := Lib.hid hz2
    clear hi hz0 hz1 hz2 hO
    rcases hcase with ⟨hks, hC⟩ | ⟨rfl, rfl⟩
    · have HC := Lib.hid hC
      clear hC
      by_cases hlt : k < s.size
      · have hkb : ((k : Int) == (s.size : Int)) = false := beq_false_of_ne (by omega)
        have hkn : ¬ k = s.size := by omega
        obtain ⟨c, hc⟩ : ∃ c : Nat, (s[k]'hlt).toNat = c := ⟨_, rfl⟩
        by_cases h44 : c = 44
        · subst h44
          have he : s[k] = 44 := UInt8.toNat_inj.1 hc
          have HE := Lib.hid he
          clear he
          go_wp2_with (first
            | (at_builtin; refine wpList_append_own _ rfl _ _ 57 rfl w.heap.size 9 i0 (.string ByteArray.empty) 1 16 Tryd.underlying57 I0.out I1.out I2.out I3.out rfl (by decide) _ _ _ rfl (HO.out.2.2.2.1.alloc _) ⟨wr.heap.size, 0, none⟩ 1 1 [.string _] rfl rfl (cell_one_new _ _ _) (fun u hu => by rw [List.mem_singleton.1 hu]; rfl) (by rw [List.length_map]; unfold maxLen; omega) (by rw [List.length_map]; omega) (by have := HO.out.2.2.1; simp; omega) ?_; intro v' w2 hown' hgrow hnil; have hne : v' ≠ .slice none 0 0 := (fun e => absurd (hnil.1 e).2 (by decide)); have hst := ownV_add HO.out hown' hgrow hne; clear hnil hown' hgrow)
            | go_in)
          go_roundg (s.size + 1 - (k + 1))
          case measure => omega
          case rel => exact ⟨k + 1, k + 1, done ++ [s.extract fr k], by omega, rfl, congrArg (Value.int .i64) (by omega), congrArg (Value.int .i64) (by omega), Nat.le_refl _, by rw [List.map_append]; exact hst, by simp; omega, .inl ⟨by omega, cutAt_mark HC.out hlt HE.out⟩⟩
        · have hcb : ((c : Int) == 44) = false := beq_false_of_ne (by omega)
          have hne' : s[k] ≠ 44 := fun e => h44 (by rw [← hc, e]; rfl)
          have HE := Lib.hid hne'
          clear hne'
          go_wp2
          go_roundg (s.size + 1 - (k + 1))
          case measure => omega
          case rel => exact ⟨k + 1, fr, done, by omega, rfl, congrArg (Value.int .i64) (by omega), rfl, by omega, HO.out, by omega, .inl ⟨by omega, cutAt_pass HC.out hlt HE.out⟩⟩
      · obtain rfl : k = s.size := by omega
        have hkb : ((s.size : Int) == (s.size : Int)) = true := beq_self_eq_true _
        go_wp2_with (first
          | (at_builtin; refine wpList_append_own _ rfl _ _ 57 rfl w.heap.size 9 i0 (.string ByteArray.empty) 1 16 Tryd.underlying57 I0.out I1.out I2.out I3.out rfl (by decide) _ _ _ rfl (HO.out.2.2.2.1.alloc _) ⟨wr.heap.size, 0, none⟩ 1 1 [.string _] rfl rfl (cell_one_new _ _ _) (fun u hu => by rw [List.mem_singleton.1 hu]; rfl) (by rw [List.length_map]; unfold maxLen; omega) (by rw [List.length_map]; omega) (by have := HO.out.2.2.1; simp; omega) ?_; intro v' w2 hown' hgrow hnil; have hne : v' ≠ .slice none 0 0 := (fun e => absurd (hnil.1 e).2 (by decide)); have hst := ownV_add HO.out hown' hgrow hne; clear hnil hown' hgrow)
          | go_in)
        go_roundg (s.size + 1 - (s.size + 1))
        case measure => omega
        case rel => exact ⟨s.size + 1, s.size + 1, done ++ [s.extract fr s.size], by omega, rfl, congrArg (Value.int .i64) (by omega), congrArg (Value.int .i64) (by omega), Nat.le_refl _, by rw [List.map_append]; exact hst, by simp; omega, .inr ⟨rfl, (cutAt_end HC.out).symm⟩⟩
    · go_wp2
      go_ret
      exact ⟨_, rfl, HO.out⟩
end Go.Proofs.YtmlodheanckadaaDoor
