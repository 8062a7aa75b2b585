/-
  Walks of math/bits.TrailingZeros at 16 and internal/strconv.formatBits at base 16, where the library's table holds what it was laid with. No condition but the number's size (32 bits).
-/
import Derived.Test.YtmlodheanckadaaDoorOwn
import Derived.Test.YtmlodheanckadaaDoorHexP
import Derived.Test.YtmlodheanckadaaDoorWkDec
import Derived.Test.YtmlodheanckadaaDoorBits
import Derived.Lib.Hide
import Derived.Outline
namespace Go.Proofs.YtmlodheanckadaaDoor
open Go.RowKit Go.Deep
set_option linter.unusedVariables false
set_option linter.unusedSimpArgs false

/-- The library's table of trailing zeros, where 16 looks. -/
def Tz (w : World) : Prop := w.cell? ⟨5, 15, none⟩ = some (.int .u8 4)
theorem Tz.since {w u : World} (h : Tz w) (s : w.Since w.heap.size u) : Tz u := (s.cell (World.block_lt_of_cell? _ _ h)).trans h

set_option maxRecDepth 20000 in
theorem tz16 (w : World) (h : Tz w) : Calls Tryd.prog 94 #[.int .u64 16] w fun e w' => e = .returned (.int .i64 4) ∧ w' = w := by
  unfold Tz at h
  have hB : bits .and .u64 16 (IntKind.u64.wrap (-16)) = 16 := by decide +kernel
  have hC : IntKind.u64.wrap 4573923408821661840 = 4573923408821661840 := by decide +kernel
  go_enter Tryd.func94, Tryd.ntmps94
  go_wp2
  go_ret
  exact ⟨rfl, rfl⟩

/-- The array of 65 bytes, its last ones written. -/
def HexRow (w wr : World) (ds : List UInt8) : Prop :=
  w.Since w.heap.size wr ∧ wr.rowIs w.heap.size 111 65 (fun p => if 65 - ds.length ≤ p then .int .u8 ((ds.getD (p - (65 - ds.length)) 0).toNat : Nat) else .int .u8 0)
theorem zeros65 : Tryd.zeroCells111.size = 65 ∧ ∀ i : Nat, i < 65 → Tryd.zeroCells111[i]? = some (.int .u8 0) := by
  have h : Tryd.zeroCells111 = Array.replicate 65 (.int .u8 0) := by kernel_rfl
  rw [h]
  exact ⟨by simp, fun i hi => by simp [hi]⟩
theorem hexRow_start (w : World) : HexRow w (w.alloc (.cells Tryd.zeroCells111 111)) [] :=
  ⟨(World.Since.refl _ w).alloc (Nat.le_refl _) _, _, blk_alloc_new w _, zeros65.1, fun i hi => by rw [zeros65.2 i hi]; show _ = some (if 65 - ([] : List UInt8).length ≤ i then _ else _); rw [if_neg (by simp; omega)]⟩
theorem hexRow_step {w wr : World} {ds : List UInt8} (b : UInt8) (h : HexRow w wr ds) (hl : ds.length < 65) (i : Nat) (hi : i = 65 - ds.length - 1) (v : Value) (hv : v = .int .u8 (b.toNat : Nat)) : HexRow w (wr.setCell ⟨w.heap.size, i, none⟩ v) (b :: ds) := by
  subst hi hv
  refine ⟨h.1.setCell (Nat.le_refl _) _, (h.2.set _ _).congr fun p hp => ?_⟩
  rw [List.length_cons]
  by_cases e : p = 65 - ds.length - 1
  · rw [if_pos e, if_pos (by omega), show p - (65 - (ds.length + 1)) = 0 by omega]
    rfl
  · rw [if_neg e]
    by_cases l : 65 - ds.length ≤ p
    · rw [if_pos l, if_pos (by omega), show p - (65 - (ds.length + 1)) = (p - (65 - ds.length)) + 1 by omega]
      rfl
    · rw [if_neg l, if_neg (by omega)]

theorem hexRow_cells {w wr : World} {ds : List UInt8} (h : HexRow w wr ds) (hl : ds.length ≤ 65) (J : Nat) (hJ : J = 65 - ds.length) : ∀ j v, (Lib.byteCells ds)[j]? = some v → wr.cell? ((⟨w.heap.size, J, none⟩ : Addr).add j) = some v := by
  intro j v hv
  have hj : j < ds.length := by rw [← byteCells_len ds]; exact (List.getElem?_eq_some_iff.1 hv).1
  rw [Addr.add_lit, h.2.cell (show J + j < 65 by omega)]
  show some (if 65 - ds.length ≤ J + j then _ else _) = _
  rw [if_pos (by omega), ← hv, show J + j - (65 - ds.length) = j by omega]
  simp [Lib.byteCells, hj]
theorem slice65 (w' : World) (b J : Nat) (hJ : J ≤ 64) : (Instr.sliceAt 111 (.pointer (some ⟨b, 0, none⟩)) (some (.int .i64 (J : Int))) none none).run Tryd.prog w' = .ok (.slice (some ⟨b, J, none⟩) (65 - J) (65 - J)) w' := by
  have hlen : Tryd.prog.arrayLen 111 = 65 := by kernel_rfl
  have hsz : (sizeOf (Tryd.prog.elem 111)).run Tryd.prog w' = .ok 1 w' := by kernel_rfl
  rw [run_sliceAt_array_l w' 111 ⟨b, 0, none⟩ (by kernel_rfl) .i64 J (by omega) (by rw [hlen]; omega), hsz, hlen]
  show Result.ok (slicedAt _ _ _ _ _) _ = _
  unfold slicedAt
  rw [Int.toNat_natCast, if_neg (by omega), Nat.mul_one, Addr.add_lit, Nat.zero_add]
theorem u64_and15 (a : Nat) (h : a < 18446744073709551616) : bits .and .u64 (a : Int) 15 = ((a % 16 : Nat) : Int) := by
  have := u64_and_nat a 15 h (by decide)
  rw [show ((15 : Nat) : Int) = 15 from rfl] at this
  rw [this]
  congr 1
  exact Nat.and_two_pow_sub_one_eq_mod a 4
theorem dig36_at (d : Nat) (h : d < (⟨#[48, 49, 50, 51, 52, 53, 54, 55, 56, 57, 97, 98, 99, 100, 101, 102, 103, 104, 105, 106, 107, 108, 109, 110, 111, 112, 113, 114, 115, 116, 117, 118, 119, 120, 121, 122]⟩ : ByteArray).size) (h16 : d < 16) : (⟨#[48, 49, 50, 51, 52, 53, 54, 55, 56, 57, 97, 98, 99, 100, 101, 102, 103, 104, 105, 106, 107, 108, 109, 110, 111, 112, 113, 114, 115, 116, 117, 118, 119, 120, 121, 122]⟩ : ByteArray)[d] = hd d := by
  have : ∀ d : Fin 16, (⟨#[48, 49, 50, 51, 52, 53, 54, 55, 56, 57, 97, 98, 99, 100, 101, 102, 103, 104, 105, 106, 107, 108, 109, 110, 111, 112, 113, 114, 115, 116, 117, 118, 119, 120, 121, 122]⟩ : ByteArray)[d.val]'(Nat.lt_trans d.isLt (by decide)) = hd d.val := by decide +kernel
  exact this ⟨d, h16⟩

set_option maxRecDepth 20000 in
theorem fmtBits (n : Nat) (hn : n < 4294967296) (w : World) (h : Tz w) : Calls Tryd.prog 76 #[.slice none 0 0, .int .u64 n, .int .i64 16, .bool false, .bool false] w fun e w' => e = .returned (.tuple #[.slice none 0 0, .string ⟨(hexG n).toArray⟩]) ∧ w.Since w.heap.size w' := by
  go_enter Tryd.func76, Tryd.ntmps76
  go_wp2_with (first
    | (go_at_call 94; refine (tz16 _ (h.since (by first | exact World.Since.refl _ _ | exact (World.Since.refl _ _).alloc (Nat.le_refl _) _))).mono ?_; rintro e w' ⟨rfl, hw⟩; subst w')
    | go_in)
  go_loopg [1, 13] (n + 1) (fun gg uv iv wr => ∃ (u I : Nat) (ds : List UInt8), u < 4294967296 ∧ gg = u + 1 ∧ uv = .int .u64 (u : Nat) ∧ iv = .int .i64 (I : Nat) ∧ I + ds.length = 65 ∧ HexRow w wr ds ∧ hexG u ++ ds = hexG n)
  case atStart => exact ⟨n, 65, [], hn, rfl, rfl, rfl, rfl, hexRow_start w, List.append_nil _⟩
  case round =>
    obtain ⟨u, I, ds, hu, rfl, rfl, rfl, hdl, hR, hm⟩ := hrel
    have hlen : ds.length ≤ 16 := by
      have h1 := congrArg List.length hm
      have h2 := (hexG_pad 15 n (by omega)).2.1
      rw [List.length_append] at h1
      omega
    have HM := Lib.hid hm
    have HR := Lib.hid hR
    clear hm h
    obtain ⟨J, rfl⟩ : ∃ J, I = J + 1 := ⟨I - 1, by omega⟩
    have hcast : ((J + 1 : Nat) : Int) = (J : Int) + 1 := by omega
    have g2 : wr.cell? ⟨w.heap.size, J, none⟩ = some (.int .u8 0) := by
      rw [hR.2.cell (show J < 65 by omega)]
      show some (if 65 - ds.length ≤ J then _ else _) = _
      rw [if_neg (by omega)]
    have g3 : wr.frozen? ⟨w.heap.size, J, none⟩ = false := hR.2.frozen J
    have HL := Lib.hid hdl
    have hJ : J ≤ 64 := by omega
    clear hR hdl hlen
    by_cases h16 : 16 ≤ u
    · have h16' : (16 : Int) ≤ (u : Int) := by omega
      obtain ⟨d, hd1⟩ : ∃ d, u % 16 = d := ⟨_, rfl⟩
      have hd16 : d < 16 := by rw [← hd1]; exact Nat.mod_lt _ (by decide)
      have hd36 : d < 36 := by omega
      have hb : bits .and .u64 (u : Int) 15 = (d : Int) := by rw [u64_and15 u (by omega), hd1]
      have HD := Lib.hid hd1
      clear hd1
      go_wp2
      go_roundg (u / 16 + 1)
      case measure => omega
      case rel => exact ⟨u / 16, J, hd d :: ds, by omega, rfl, by simp, rfl, by have := HL.out; simp; omega, hexRow_step (hd d) HR.out (by have := HL.out; omega) J (by have := HL.out; omega) _ (by rw [dig36_at _ _ hd16]), by have := HM.out; rw [hexG_big (by omega), HD.out] at this; rw [← this]; simp⟩
    · have h16' : ¬ (16 : Int) ≤ (u : Int) := by omega
      have hu36 : u < 36 := by omega
      have hsl : ∀ w' : World, (Instr.sliceAt 111 (.pointer (some ⟨w.heap.size, 0, none⟩)) (some (.int .i64 (J : Int))) none none).run Tryd.prog w' = .ok (.slice (some ⟨w.heap.size, J, none⟩) (65 - J) (65 - J)) w' := fun w' => slice65 w' w.heap.size J hJ
      have hl2 := HL.out
      have hR2 := hexRow_step (hd u) HR.out (by omega) J (by omega) _ rfl
      have hcv := run_str (P := Tryd.prog) _ 68 9 5 ⟨w.heap.size, J, none⟩ (65 - J) (65 - J) (hd u :: ds) Tryd.underlying68 Tryd.underlying5 Tryd.underlying9 (by simp; omega) (hexRow_cells hR2 (by simp; omega) J (by simp; omega))
      have HR2 := Lib.hid hR2
      have HCV := Lib.hid hcv
      clear hR2 hcv hl2
      go_wp2_with fail
      rw [dig36_at _ _ (by omega), HCV.out]
      go_wp2
      go_ret2
      exact ⟨by have := HM.out; rw [hexG_small (by omega)] at this; rw [← this]; rfl, HR2.out.1⟩
end Go.Proofs.YtmlodheanckadaaDoor
