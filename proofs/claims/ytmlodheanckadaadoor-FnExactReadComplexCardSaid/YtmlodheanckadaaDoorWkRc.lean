/-
  Complex numbers and their 16 digits; walk of spec.l01Digits. No condition but the text's length.
-/
import Derived.Test.YtmlodheanckadaaDoorWkRn
import Derived.Test.YtmlodheanckadaaDoorCpx
import Derived.Outline
namespace Go.Proofs.YtmlodheanckadaaDoor
open Go.RowKit Go.Deep
set_option linter.unusedVariables false
set_option linter.unusedSimpArgs false

theorem ext_cut (x : ByteArray) (a b : Nat) : (x.extract a b).data.toList = (x.data.toList.drop a).take (b - a) := by
  rw [ext_list]; rfl
theorem ext_size (x : ByteArray) (a b : Nat) (h1 : a ≤ b) (h2 : b ≤ x.size) : (x.extract a b).size = b - a := by
  have h := ext_cut x a b
  have e : (x.extract a b).size = (x.extract a b).data.toList.length := by rw [Array.length_toList]; rfl
  have e2 : x.data.toList.length = x.size := by rw [Array.length_toList]; rfl
  rw [e, h, List.length_take, List.length_drop, e2]
  omega
theorem ext_pair (l r : List UInt8) (hl : l.length = 8) (hr : r.length = 8) : (⟨(l ++ r).toArray⟩ : ByteArray).extract 0 8 = ⟨l.toArray⟩ ∧ (⟨(l ++ r).toArray⟩ : ByteArray).extract 8 16 = ⟨r.toArray⟩ := by
  constructor
  · rw [ext_list]
    show mkB (((l ++ r).drop 0).take (8 - 0)) = _
    rw [List.drop_zero, List.take_append_of_le_length (by omega), List.take_of_length_le (by omega)]
    rfl
  · rw [ext_list]
    show mkB (((l ++ r).drop 8).take (16 - 8)) = _
    rw [List.drop_append_of_le_length (by omega), List.drop_eq_nil_of_le (by omega), List.nil_append, List.take_of_length_le (by omega)]
    rfl
theorem pair_ext (x : ByteArray) (h : x.size = 16) (l r : List UInt8) (hl : x.extract 0 8 = ⟨l.toArray⟩) (hr : x.extract 8 16 = ⟨r.toArray⟩) : x = ⟨(l ++ r).toArray⟩ := by
  have e1 := ext_cut x 0 8
  have e2 := ext_cut x 8 16
  rw [hl] at e1
  rw [hr] at e2
  have e1' : l = (x.data.toList.drop 0).take (8 - 0) := e1
  have e2' : r = (x.data.toList.drop 8).take (16 - 8) := e2
  have hx : x.data.toList = l ++ r := by
    rw [e1', e2', List.drop_zero]
    rw [List.take_of_length_le (l := x.data.toList.drop 8) (by simp; omega)]
    exact (List.take_append_drop 8 _).symm
  have : x = ⟨x.data.toList.toArray⟩ := rfl
  rw [this, hx]

/-- Complex numbers and their 16 digits. -/
def cplxC : Codec (Nat × Nat) where
  enc z := hexN 8 z.1 ++ hexN 8 z.2
  norm z := (Fl.can .f32 z.1, Fl.can .f32 z.2)
  rng z := z.1 < 4294967296 ∧ z.2 < 4294967296
  pv x := (hexV (x.extract 0 8), hexV (x.extract 8 16))
  len := 16
  hlen z := by rw [List.length_append, hexN_len, hexN_len]
  h44 z h := by
    rcases List.mem_append.1 h with h | h
    · exact hexN_no44 8 _ h
    · exact hexN_no44 8 _ h
  hpv z hz := by
    obtain ⟨h1, h2⟩ := ext_pair (hexN 8 z.1) (hexN 8 z.2) (hexN_len 8 _) (hexN_len 8 _)
    rw [h1, h2, hexV_hexN _ z.1 hz.1 rfl, hexV_hexN _ z.2 hz.2 rfl]
  hrng x hx := ⟨hexV_lt _ (by rw [ext_size x 0 8 (by omega) (by omega)]), hexV_lt _ (by rw [ext_size x 8 16 (by omega) (by omega)])⟩
  hnorm z hz := ⟨Fl.can32_lt hz.1, Fl.can32_lt hz.2⟩
theorem cplx_is (x : ByteArray) (h : x.size = 16) (a b : Nat) : cplxC.Is x (a, b) ↔ numC.Is (x.extract 0 8) a ∧ numC.Is (x.extract 8 16) b := by
  constructor
  · rintro ⟨h1, h2, h3⟩
    obtain ⟨e1, e2⟩ := ext_pair (hexN 8 a) (hexN 8 b) (hexN_len 8 _) (hexN_len 8 _)
    have h3' : x = ⟨(hexN 8 a ++ hexN 8 b).toArray⟩ := h3
    have h2' : (Fl.can .f32 a, Fl.can .f32 b) = (a, b) := h2
    injection h2' with g1 g2
    rw [h3', e1, e2]
    exact ⟨⟨h1.1, g1, rfl⟩, ⟨h1.2, g2, rfl⟩⟩
  · rintro ⟨⟨a1, a2, a3⟩, b1, b2, b3⟩
    exact ⟨⟨a1, b1⟩, by show (Fl.can .f32 a, Fl.can .f32 b) = (a, b); rw [show Fl.can .f32 a = a from a2, show Fl.can .f32 b = b from b2], pair_ext x h _ _ a3 b3⟩

set_option maxHeartbeats 4000000 in
set_option maxRecDepth 20000 in
theorem dgW (x : ByteArray) (h8 : x.size = 8) (w : World) :
    Calls Tryd.prog 72 #[.string x] w fun e w' => w' = w ∧ ((∃ n, numC.Is x n ∧ e = .returned (.tuple #[.float .f32 n, .bool true])) ∨ ((∀ n, ¬ numC.Is x n) ∧ e = .returned (.tuple #[.float .f32 0, .bool false]))) := by
  have hxl : x.data.toList.length = 8 := by rw [← h8]; simp
  have HXL := Lib.hid hxl
  clear hxl
  go_enter Tryd.func72, Tryd.ntmps72
  go_wp2
  go_loopg [4, 5] 8 (fun gg nv kv wr => ∃ (q n : Nat), q ≤ 8 ∧ gg = 8 - q ∧ kv = .int .i64 q ∧ nv = .int .i64 (n : Nat) ∧ SmallUp x.data.toList q n ∧ wr = w)
  case atStart => exact ⟨0, 0, by omega, rfl, rfl, rfl, smallUp_zero _, rfl⟩
  case round =>
    obtain ⟨q, n, hq, rfl, rfl, rfl, hU, rfl⟩ := hrel
    have HU := Lib.hid hU
    have hn0 := hU.1
    clear hU
    by_cases hq8 : q < 8
    · have hn7 : n < 268435456 := by
        have e : (16 : Nat) ^ q ≤ 16 ^ 7 := Nat.pow_le_pow_right (by decide) (by omega)
        have e2 : (16 : Nat) ^ 7 = 268435456 := by decide
        omega
      clear hn0
      have hqx : q < x.size := by omega
      have hge : x.data.toList[q]? = some (x[q]'hqx) := by
        rw [List.getElem?_eq_getElem (by rw [HXL.out]; omega)]; rfl
      have hbadc : dgS (x[q]'hqx).toNat = none → ∀ m, ¬ numC.Is x m := fun h m hI => by
        have e : x.data.toList = hexN 8 m := by rw [hI.2.2]; rfl
        rw [e] at hge
        obtain ⟨d, hd'⟩ := hexN_get hge
        rw [h] at hd'; cases hd'
      have hstep : ∀ d, dgS (x[q]'hqx).toNat = some d → SmallUp x.data.toList (q + 1) (16 * n + d) := fun d hd' => smallUp_step HU.out hge hd'
      obtain ⟨c, hc⟩ : ∃ c : Nat, (x[q]'hqx).toNat = c := ⟨_, rfl⟩
      rw [hc] at hbadc hstep
      have HBc := Lib.hid hbadc
      have HSt := Lib.hid hstep
      clear hbadc hstep hge
      by_cases h1 : 48 ≤ c ∧ c ≤ 57
      · have hd1 : (48 : Int) ≤ (c : Int) := by omega
        have hd2 : (c : Int) ≤ 57 := by omega
        have hd3 : ¬ (97 : Int) ≤ (c : Int) := by omega
        have HD : Hid (dgS c = some (c - 48)) := Lib.hid (by unfold dgS; rw [if_pos h1])
        clear h1
        go_wp2
        go_roundg (8 - (q + 1))
        all_goals first
          | omega
          | exact ⟨q + 1, 16 * n + (c - 48), by omega, rfl, congrArg (Value.int .i64) (by omega), congrArg (Value.int .i64) (by omega), HSt.out _ HD.out, rfl⟩
      · by_cases h2 : 97 ≤ c ∧ c ≤ 102
        · have hd1 : (48 : Int) ≤ (c : Int) := by omega
          have hd2 : ¬ (c : Int) ≤ 57 := by omega
          have hd3 : (97 : Int) ≤ (c : Int) := by omega
          have hd4 : (c : Int) ≤ 102 := by omega
          have HD : Hid (dgS c = some (c - 97 + 10)) := Lib.hid (by unfold dgS; rw [if_neg h1, if_pos h2])
          clear h1 h2
          go_wp2
          go_roundg (8 - (q + 1))
          all_goals first
            | omega
            | exact ⟨q + 1, 16 * n + (c - 97 + 10), by omega, rfl, congrArg (Value.int .i64) (by omega), congrArg (Value.int .i64) (by omega), HSt.out _ HD.out, rfl⟩
        · have HD : Hid (dgS c = none) := Lib.hid (by unfold dgS; rw [if_neg h1, if_neg h2])
          rcases Nat.lt_or_ge c 48 with h3 | h3
          · have hd1 : ¬ (48 : Int) ≤ (c : Int) := by omega
            have hd3 : ¬ (97 : Int) ≤ (c : Int) := by omega
            clear h1 h2
            go_wp2
            go_ret2
            exact ⟨rfl, .inr ⟨HBc.out HD.out, rfl⟩⟩
          · have hd1 : (48 : Int) ≤ (c : Int) := by omega
            have hd2 : ¬ (c : Int) ≤ 57 := by omega
            rcases Nat.lt_or_ge c 97 with h4 | h4
            · have hd3 : ¬ (97 : Int) ≤ (c : Int) := by omega
              clear h1 h2
              go_wp2
              go_ret2
              exact ⟨rfl, .inr ⟨HBc.out HD.out, rfl⟩⟩
            · have hd3 : (97 : Int) ≤ (c : Int) := by omega
              have hd4 : ¬ (c : Int) ≤ 102 := by omega
              clear h1 h2
              go_wp2
              go_ret2
              exact ⟨rfl, .inr ⟨HBc.out HD.out, rfl⟩⟩
    · obtain rfl : q = 8 := by omega
      have hn32 : n < 4294967296 := by have e : (16 : Nat) ^ 8 = 4294967296 := by decide
                                       omega
      have hxe : x = ⟨(hexN 8 n).toArray⟩ := by
        have e := HU.out.2
        rw [List.take_of_length_le (by rw [HXL.out]; omega)] at e
        rw [← e]
      by_cases hcn : Fl.can .f32 n = n
      · have hIs : numC.Is x n := ⟨hn32, hcn, hxe⟩
        have HI := Lib.hid hIs
        have HCn := Lib.hid hcn
        clear hIs hxe hcn hn0
        go_wp2_with (first
          | (go_at_call 67; refine (fromS n hn32 _).mono ?_; rintro e w' ⟨rfl, hw⟩; subst w')
          | (go_at_call 68; refine (bitsS n hn32 _).mono ?_; rintro e w' ⟨rfl, hw⟩; subst w'; rw [HCn.out])
          | go_in)
        go_ret2
        exact ⟨rfl, .inl ⟨n, HI.out, rfl⟩⟩
      · have hno : ∀ m, ¬ numC.Is x m := fun m hI => by
          have e : hexN 8 n = hexN 8 m := by
            have := hxe.symm.trans hI.2.2
            have := congrArg (fun b : ByteArray => b.data.toList) this
            simpa [numC] using this
          have e2 : (16 : Nat) ^ 8 = 4294967296 := by decide
          have e3 := hexN_inj (by omega) (by have := hI.1; simp only [numC] at this; omega) e
          rw [e3] at hcn
          exact hcn hI.2.1
        have HNo := Lib.hid hno
        obtain ⟨m, hm⟩ : ∃ m, Fl.can .f32 n = m := ⟨_, rfl⟩
        have hmn : ((m : Int) == (n : Int)) = false := beq_false_of_ne (fun e => hcn (by rw [hm]; omega))
        have hmn' : ¬ m = n := fun e => hcn (by rw [hm]; exact e)
        clear hno hxe hcn hn0
        go_wp2_with (first
          | (go_at_call 67; refine (fromS n hn32 _).mono ?_; rintro e w' ⟨rfl, hw⟩; subst w')
          | (go_at_call 68; refine (bitsS n hn32 _).mono ?_; rintro e w' ⟨rfl, hw⟩; subst w'; rw [hm])
          | go_in)
        go_ret2
        exact ⟨rfl, .inr ⟨HNo.out, rfl⟩⟩
theorem dg_yes {x : ByteArray} (h8 : x.size = 8) (w : World) {n : Nat} (h : numC.Is x n) : Calls Tryd.prog 72 #[.string x] w fun e w' => e = .returned (.tuple #[.float .f32 n, .bool true]) ∧ w' = w :=
  (dgW x h8 w).mono fun e w' ⟨hw, h'⟩ => by
    rcases h' with ⟨m, h1, h2⟩ | ⟨h1, _⟩
    · rw [h.uniq h1]; exact ⟨h2, hw⟩
    · exact absurd h (h1 n)
theorem dg_no {x : ByteArray} (h8 : x.size = 8) (w : World) (h : ∀ n, ¬ numC.Is x n) : Calls Tryd.prog 72 #[.string x] w fun e w' => e = .returned (.tuple #[.float .f32 0, .bool false]) ∧ w' = w :=
  (dgW x h8 w).mono fun e w' ⟨hw, h'⟩ => by
    rcases h' with ⟨m, h1, h2⟩ | ⟨_, h2⟩
    · exact absurd h1 (h m)
    · exact ⟨h2, hw⟩
end Go.Proofs.YtmlodheanckadaaDoor
