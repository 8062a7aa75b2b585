/-
  Walk of spec.l01Hex: the digits of a number's bits. No condition.
-/
import Derived.Test.YtmlodheanckadaaDoorOwn
import Derived.Test.YtmlodheanckadaaDoorHexP
import Derived.Test.YtmlodheanckadaaDoorWkBits
import Derived.Outline
namespace Go.Proofs.YtmlodheanckadaaDoor
open Go.RowKit Go.Deep
set_option linter.unusedVariables false
set_option linter.unusedSimpArgs false

theorem byteCells_snoc (l : List UInt8) (b : UInt8) : Lib.byteCells (l ++ [b]) = Lib.byteCells l ++ [.int .u8 ((b.toNat : Nat) : Int)] := by simp [Lib.byteCells]
theorem and15 (a : Nat) (h : a < 9223372036854775808) : bits .and .i64 (a : Int) 15 = ((a % 16 : Nat) : Int) := by
  have := Fl.i64_and_nat a 15 h (by decide)
  rw [show ((15 : Nat) : Int) = 15 from rfl] at this
  rw [this]
  congr 1
  exact Nat.and_two_pow_sub_one_eq_mod a 4

theorem dig_at (d : Nat) (h : d < (⟨#[48, 49, 50, 51, 52, 53, 54, 55, 56, 57, 97, 98, 99, 100, 101, 102]⟩ : ByteArray).size) : (⟨#[48, 49, 50, 51, 52, 53, 54, 55, 56, 57, 97, 98, 99, 100, 101, 102]⟩ : ByteArray)[d] = hd d := by
  have : ∀ d : Fin 16, (⟨#[48, 49, 50, 51, 52, 53, 54, 55, 56, 57, 97, 98, 99, 100, 101, 102]⟩ : ByteArray)[d.val]'d.isLt = hd d.val := by decide +kernel
  exact this ⟨d, h⟩

set_option maxRecDepth 20000 in
theorem hexS (x : Nat) (hx : x < 4294967296) (w : World) :
    Calls Tryd.prog 63 #[.float .f32 x] w fun e w' => e = .returned (.string ⟨(hexN 8 (Fl.can .f32 x)).toArray⟩) ∧ w.Since w.heap.size w' := by
  have hst := ownV_start w 5
  obtain ⟨n, hn⟩ : ∃ n, Fl.can .f32 x = n := ⟨_, rfl⟩
  have hn32 : n < 4294967296 := by rw [← hn]; exact Fl.can32_lt hx
  rw [hn]
  go_enter Tryd.func63, Tryd.ntmps63
  go_wp2_with (first
    | (go_at_call 68; refine (bitsS x hx _).mono ?_; rintro e w' ⟨rfl, hw⟩; subst w'; rw [hn])
    | go_in)
  go_loopg [4, 5] 8 (fun gg o kv wr => ∃ (j : Nat) (K : Int), j ≤ 8 ∧ gg = 8 - j ∧ kv = .int .i64 K ∧ K = 28 - 4 * (j : Int) ∧ OwnV w wr w.heap.size 5 o (Lib.byteCells (hexN j (n / 16 ^ (8 - j)))))
  case atStart => exact ⟨0, 28, by omega, rfl, rfl, rfl, hst⟩
  case round =>
    obtain ⟨j, K, hj, rfl, rfl, hK, hO⟩ := hrel
    clear hst
    have HO := Lib.hid hO
    obtain ⟨i0, hi, hz0, hz1, hz2⟩ := info_parts infoU8
    have I0 := Lib.hid hi; have I1 := Lib.hid hz0; have I2 := Lib.hid hz1; have I3 := Lib.hid hz2
    clear hi hz0 hz1 hz2 hO
    obtain hc | hc | hc | hc | hc | hc | hc | hc | hc : j = 0 ∨ j = 1 ∨ j = 2 ∨ j = 3 ∨ j = 4 ∨ j = 5 ∨ j = 6 ∨ j = 7 ∨ j = 8 := by omega
    · subst hc
      obtain rfl : K = 28 := by omega
      clear hK
      obtain ⟨d, hd1⟩ : ∃ d, n / 268435456 % 16 = d := ⟨_, rfl⟩
      have hd16 : d < 16 := by rw [← hd1]; exact Nat.mod_lt _ (by decide)
      have hb : bits .and .i64 ((n : Int) / 268435456) 15 = (d : Int) := by
        have := and15 (n / 268435456) (by omega)
        rw [hd1] at this
        rw [← this]; rfl
      have HD := Lib.hid hd1
      clear hd1
      go_wp2_with (first
        | (at_builtin; refine wpList_append_own _ rfl _ _ 68 rfl w.heap.size 5 i0 (.int .u8 0) 1 1 Tryd.underlying68 I0.out I1.out I2.out I3.out rfl (by decide) _ _ _ rfl (HO.out.2.2.2.1.alloc _) ⟨wr.heap.size, 0, none⟩ 1 1 [.int .u8 _] rfl rfl (cell_one_new _ _ _) (fun u hu => by rw [List.mem_singleton.1 hu]; rfl) (by rw [byteCells_len, hexN_len]; unfold maxLen; omega) (by rw [byteCells_len, hexN_len]; omega) (by have := HO.out.2.2.1; simp; omega) ?_; intro v' w2 hown' hgrow hnil; have hne : v' ≠ .slice none 0 0 := (fun e => absurd (hnil.1 e).2 (by decide)); have hst := ownV_add HO.out hown' hgrow hne; clear hnil hown' hgrow)
        | go_in)
      go_roundg (8 - (0 + 1))
      case measure => omega
      case rel => exact ⟨0 + 1, 24, by omega, rfl, rfl, rfl, by rw [dig_at] at hst; rw [show 8 - (0 + 1) = 7 - 0 from rfl, hexN_top n 0 (by omega), show n / 16 ^ (7 - 0) % 16 = d from HD.out, byteCells_snoc]; exact hst⟩
    · subst hc
      obtain rfl : K = 24 := by omega
      clear hK
      obtain ⟨d, hd1⟩ : ∃ d, n / 16777216 % 16 = d := ⟨_, rfl⟩
      have hd16 : d < 16 := by rw [← hd1]; exact Nat.mod_lt _ (by decide)
      have hb : bits .and .i64 ((n : Int) / 16777216) 15 = (d : Int) := by
        have := and15 (n / 16777216) (by omega)
        rw [hd1] at this
        rw [← this]; rfl
      have HD := Lib.hid hd1
      clear hd1
      go_wp2_with (first
        | (at_builtin; refine wpList_append_own _ rfl _ _ 68 rfl w.heap.size 5 i0 (.int .u8 0) 1 1 Tryd.underlying68 I0.out I1.out I2.out I3.out rfl (by decide) _ _ _ rfl (HO.out.2.2.2.1.alloc _) ⟨wr.heap.size, 0, none⟩ 1 1 [.int .u8 _] rfl rfl (cell_one_new _ _ _) (fun u hu => by rw [List.mem_singleton.1 hu]; rfl) (by rw [byteCells_len, hexN_len]; unfold maxLen; omega) (by rw [byteCells_len, hexN_len]; omega) (by have := HO.out.2.2.1; simp; omega) ?_; intro v' w2 hown' hgrow hnil; have hne : v' ≠ .slice none 0 0 := (fun e => absurd (hnil.1 e).2 (by decide)); have hst := ownV_add HO.out hown' hgrow hne; clear hnil hown' hgrow)
        | go_in)
      go_roundg (8 - (1 + 1))
      case measure => omega
      case rel => exact ⟨1 + 1, 20, by omega, rfl, rfl, rfl, by rw [dig_at] at hst; rw [show 8 - (1 + 1) = 7 - 1 from rfl, hexN_top n 1 (by omega), show n / 16 ^ (7 - 1) % 16 = d from HD.out, byteCells_snoc]; exact hst⟩
    · subst hc
      obtain rfl : K = 20 := by omega
      clear hK
      obtain ⟨d, hd1⟩ : ∃ d, n / 1048576 % 16 = d := ⟨_, rfl⟩
      have hd16 : d < 16 := by rw [← hd1]; exact Nat.mod_lt _ (by decide)
      have hb : bits .and .i64 ((n : Int) / 1048576) 15 = (d : Int) := by
        have := and15 (n / 1048576) (by omega)
        rw [hd1] at this
        rw [← this]; rfl
      have HD := Lib.hid hd1
      clear hd1
      go_wp2_with (first
        | (at_builtin; refine wpList_append_own _ rfl _ _ 68 rfl w.heap.size 5 i0 (.int .u8 0) 1 1 Tryd.underlying68 I0.out I1.out I2.out I3.out rfl (by decide) _ _ _ rfl (HO.out.2.2.2.1.alloc _) ⟨wr.heap.size, 0, none⟩ 1 1 [.int .u8 _] rfl rfl (cell_one_new _ _ _) (fun u hu => by rw [List.mem_singleton.1 hu]; rfl) (by rw [byteCells_len, hexN_len]; unfold maxLen; omega) (by rw [byteCells_len, hexN_len]; omega) (by have := HO.out.2.2.1; simp; omega) ?_; intro v' w2 hown' hgrow hnil; have hne : v' ≠ .slice none 0 0 := (fun e => absurd (hnil.1 e).2 (by decide)); have hst := ownV_add HO.out hown' hgrow hne; clear hnil hown' hgrow)
        | go_in)
      go_roundg (8 - (2 + 1))
      case measure => omega
      case rel => exact ⟨2 + 1, 16, by omega, rfl, rfl, rfl, by rw [dig_at] at hst; rw [show 8 - (2 + 1) = 7 - 2 from rfl, hexN_top n 2 (by omega), show n / 16 ^ (7 - 2) % 16 = d from HD.out, byteCells_snoc]; exact hst⟩
    · subst hc
      obtain rfl : K = 16 := by omega
      clear hK
      obtain ⟨d, hd1⟩ : ∃ d, n / 65536 % 16 = d := ⟨_, rfl⟩
      have hd16 : d < 16 := by rw [← hd1]; exact Nat.mod_lt _ (by decide)
      have hb : bits .and .i64 ((n : Int) / 65536) 15 = (d : Int) := by
        have := and15 (n / 65536) (by omega)
        rw [hd1] at this
        rw [← this]; rfl
      have HD := Lib.hid hd1
      clear hd1
      go_wp2_with (first
        | (at_builtin; refine wpList_append_own _ rfl _ _ 68 rfl w.heap.size 5 i0 (.int .u8 0) 1 1 Tryd.underlying68 I0.out I1.out I2.out I3.out rfl (by decide) _ _ _ rfl (HO.out.2.2.2.1.alloc _) ⟨wr.heap.size, 0, none⟩ 1 1 [.int .u8 _] rfl rfl (cell_one_new _ _ _) (fun u hu => by rw [List.mem_singleton.1 hu]; rfl) (by rw [byteCells_len, hexN_len]; unfold maxLen; omega) (by rw [byteCells_len, hexN_len]; omega) (by have := HO.out.2.2.1; simp; omega) ?_; intro v' w2 hown' hgrow hnil; have hne : v' ≠ .slice none 0 0 := (fun e => absurd (hnil.1 e).2 (by decide)); have hst := ownV_add HO.out hown' hgrow hne; clear hnil hown' hgrow)
        | go_in)
      go_roundg (8 - (3 + 1))
      case measure => omega
      case rel => exact ⟨3 + 1, 12, by omega, rfl, rfl, rfl, by rw [dig_at] at hst; rw [show 8 - (3 + 1) = 7 - 3 from rfl, hexN_top n 3 (by omega), show n / 16 ^ (7 - 3) % 16 = d from HD.out, byteCells_snoc]; exact hst⟩
    · subst hc
      obtain rfl : K = 12 := by omega
      clear hK
      obtain ⟨d, hd1⟩ : ∃ d, n / 4096 % 16 = d := ⟨_, rfl⟩
      have hd16 : d < 16 := by rw [← hd1]; exact Nat.mod_lt _ (by decide)
      have hb : bits .and .i64 ((n : Int) / 4096) 15 = (d : Int) := by
        have := and15 (n / 4096) (by omega)
        rw [hd1] at this
        rw [← this]; rfl
      have HD := Lib.hid hd1
      clear hd1
      go_wp2_with (first
        | (at_builtin; refine wpList_append_own _ rfl _ _ 68 rfl w.heap.size 5 i0 (.int .u8 0) 1 1 Tryd.underlying68 I0.out I1.out I2.out I3.out rfl (by decide) _ _ _ rfl (HO.out.2.2.2.1.alloc _) ⟨wr.heap.size, 0, none⟩ 1 1 [.int .u8 _] rfl rfl (cell_one_new _ _ _) (fun u hu => by rw [List.mem_singleton.1 hu]; rfl) (by rw [byteCells_len, hexN_len]; unfold maxLen; omega) (by rw [byteCells_len, hexN_len]; omega) (by have := HO.out.2.2.1; simp; omega) ?_; intro v' w2 hown' hgrow hnil; have hne : v' ≠ .slice none 0 0 := (fun e => absurd (hnil.1 e).2 (by decide)); have hst := ownV_add HO.out hown' hgrow hne; clear hnil hown' hgrow)
        | go_in)
      go_roundg (8 - (4 + 1))
      case measure => omega
      case rel => exact ⟨4 + 1, 8, by omega, rfl, rfl, rfl, by rw [dig_at] at hst; rw [show 8 - (4 + 1) = 7 - 4 from rfl, hexN_top n 4 (by omega), show n / 16 ^ (7 - 4) % 16 = d from HD.out, byteCells_snoc]; exact hst⟩
    · subst hc
      obtain rfl : K = 8 := by omega
      clear hK
      obtain ⟨d, hd1⟩ : ∃ d, n / 256 % 16 = d := ⟨_, rfl⟩
      have hd16 : d < 16 := by rw [← hd1]; exact Nat.mod_lt _ (by decide)
      have hb : bits .and .i64 ((n : Int) / 256) 15 = (d : Int) := by
        have := and15 (n / 256) (by omega)
        rw [hd1] at this
        rw [← this]; rfl
      have HD := Lib.hid hd1
      clear hd1
      go_wp2_with (first
        | (at_builtin; refine wpList_append_own _ rfl _ _ 68 rfl w.heap.size 5 i0 (.int .u8 0) 1 1 Tryd.underlying68 I0.out I1.out I2.out I3.out rfl (by decide) _ _ _ rfl (HO.out.2.2.2.1.alloc _) ⟨wr.heap.size, 0, none⟩ 1 1 [.int .u8 _] rfl rfl (cell_one_new _ _ _) (fun u hu => by rw [List.mem_singleton.1 hu]; rfl) (by rw [byteCells_len, hexN_len]; unfold maxLen; omega) (by rw [byteCells_len, hexN_len]; omega) (by have := HO.out.2.2.1; simp; omega) ?_; intro v' w2 hown' hgrow hnil; have hne : v' ≠ .slice none 0 0 := (fun e => absurd (hnil.1 e).2 (by decide)); have hst := ownV_add HO.out hown' hgrow hne; clear hnil hown' hgrow)
        | go_in)
      go_roundg (8 - (5 + 1))
      case measure => omega
      case rel => exact ⟨5 + 1, 4, by omega, rfl, rfl, rfl, by rw [dig_at] at hst; rw [show 8 - (5 + 1) = 7 - 5 from rfl, hexN_top n 5 (by omega), show n / 16 ^ (7 - 5) % 16 = d from HD.out, byteCells_snoc]; exact hst⟩
    · subst hc
      obtain rfl : K = 4 := by omega
      clear hK
      obtain ⟨d, hd1⟩ : ∃ d, n / 16 % 16 = d := ⟨_, rfl⟩
      have hd16 : d < 16 := by rw [← hd1]; exact Nat.mod_lt _ (by decide)
      have hb : bits .and .i64 ((n : Int) / 16) 15 = (d : Int) := by
        have := and15 (n / 16) (by omega)
        rw [hd1] at this
        rw [← this]; rfl
      have HD := Lib.hid hd1
      clear hd1
      go_wp2_with (first
        | (at_builtin; refine wpList_append_own _ rfl _ _ 68 rfl w.heap.size 5 i0 (.int .u8 0) 1 1 Tryd.underlying68 I0.out I1.out I2.out I3.out rfl (by decide) _ _ _ rfl (HO.out.2.2.2.1.alloc _) ⟨wr.heap.size, 0, none⟩ 1 1 [.int .u8 _] rfl rfl (cell_one_new _ _ _) (fun u hu => by rw [List.mem_singleton.1 hu]; rfl) (by rw [byteCells_len, hexN_len]; unfold maxLen; omega) (by rw [byteCells_len, hexN_len]; omega) (by have := HO.out.2.2.1; simp; omega) ?_; intro v' w2 hown' hgrow hnil; have hne : v' ≠ .slice none 0 0 := (fun e => absurd (hnil.1 e).2 (by decide)); have hst := ownV_add HO.out hown' hgrow hne; clear hnil hown' hgrow)
        | go_in)
      go_roundg (8 - (6 + 1))
      case measure => omega
      case rel => exact ⟨6 + 1, 0, by omega, rfl, rfl, rfl, by rw [dig_at] at hst; rw [show 8 - (6 + 1) = 7 - 6 from rfl, hexN_top n 6 (by omega), show n / 16 ^ (7 - 6) % 16 = d from HD.out, byteCells_snoc]; exact hst⟩
    · subst hc
      obtain rfl : K = 0 := by omega
      clear hK
      obtain ⟨d, hd1⟩ : ∃ d, n / 1 % 16 = d := ⟨_, rfl⟩
      have hd16 : d < 16 := by rw [← hd1]; exact Nat.mod_lt _ (by decide)
      have hb : bits .and .i64 (n : Int) 15 = (d : Int) := by
        have := and15 (n / 1) (by omega)
        rw [hd1] at this
        rw [← this]; simp
      have HD := Lib.hid hd1
      clear hd1
      go_wp2_with (first
        | (at_builtin; refine wpList_append_own _ rfl _ _ 68 rfl w.heap.size 5 i0 (.int .u8 0) 1 1 Tryd.underlying68 I0.out I1.out I2.out I3.out rfl (by decide) _ _ _ rfl (HO.out.2.2.2.1.alloc _) ⟨wr.heap.size, 0, none⟩ 1 1 [.int .u8 _] rfl rfl (cell_one_new _ _ _) (fun u hu => by rw [List.mem_singleton.1 hu]; rfl) (by rw [byteCells_len, hexN_len]; unfold maxLen; omega) (by rw [byteCells_len, hexN_len]; omega) (by have := HO.out.2.2.1; simp; omega) ?_; intro v' w2 hown' hgrow hnil; have hne : v' ≠ .slice none 0 0 := (fun e => absurd (hnil.1 e).2 (by decide)); have hst := ownV_add HO.out hown' hgrow hne; clear hnil hown' hgrow)
        | go_in)
      go_roundg (8 - (7 + 1))
      case measure => omega
      case rel => exact ⟨7 + 1, -4, by omega, rfl, rfl, rfl, by rw [dig_at] at hst; rw [show 8 - (7 + 1) = 7 - 7 from rfl, hexN_top n 7 (by omega), show n / 16 ^ (7 - 7) % 16 = d from HD.out, byteCells_snoc]; exact hst⟩
    · subst hc
      obtain rfl : K = -4 := by omega
      clear hK
      obtain ⟨g, cap, rfl, hBg, hg, hcc⟩ := HO.out.open
      rw [byteCells_len, hexN_len]
      have hcv := run_str (P := Tryd.prog) wr 68 9 5 ⟨g, 0, none⟩ 8 cap (hexN 8 (n / 16 ^ (8 - 8))) Tryd.underlying68 Tryd.underlying5 Tryd.underlying9 (hexN_len _ _) hcc
      rw [show n / 16 ^ (8 - 8) = n by simp] at hcv
      clear hcc
      go_wp2
      go_ret
      exact ⟨rfl, HO.out.1⟩
end Go.Proofs.YtmlodheanckadaaDoor
