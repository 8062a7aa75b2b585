/-
  Walks of the library's ParseUint at base 16, 32 bits, and of impl.readHex, at texts of 8 bytes; the library's variables hold what they were laid with. No condition but these.
-/
import Derived.Test.YtmlodheanckadaaDoorHexQ
import Derived.Test.YtmlodheanckadaaDoorWkRd
import Derived.Test.YtmlodheanckadaaDoorExt
import Derived.Test.YtmlodheanckadaaDoorBits
import Derived.Test.YtmlodheanckadaaDoorShD
import Derived.Lib.ConvBytes
import Derived.Outline
namespace Go.Proofs.YtmlodheanckadaaDoor
open Go.RowKit Go.Deep
set_option linter.unusedVariables false
set_option linter.unusedSimpArgs false

theorem lowW (c : Nat) (hc : c < 256) (w : World) : Calls Tryd.prog 95 #[.int .u8 (c : Nat)] w fun e w' => e = .returned (.int .u8 ((c ||| 32 : Nat) : Int)) ∧ w' = w := by
  have hb : bits .or .u8 (c : Int) 32 = ((c ||| 32 : Nat) : Int) := by
    have : ∀ c : Fin 256, bits .or .u8 (c.val : Int) 32 = ((c.val ||| 32 : Nat) : Int) := by decide +kernel
    exact this ⟨c, hc⟩
  go_enter Tryd.func95, Tryd.ntmps95
  go_wp2
  go_ret
  exact ⟨rfl, rfl⟩

set_option maxHeartbeats 4000000 in
set_option maxRecDepth 20000 in
theorem puW (s : ByteArray) (hs : s.size = 8) (w : World) :
    Calls Tryd.prog 77 #[.string s, .int .i64 16, .int .i64 32] w fun e w' => w.Since w.heap.size w' ∧ ((∃ n, parH s.data.toList = some n ∧ e = .returned (.tuple #[.int .u64 (n : Nat), .nilIface])) ∨ (parH s.data.toList = none ∧ e = .returned (.tuple #[.int .u64 0, .iface 90 (.int .i64 2)]))) := by
  have hsl : s.data.toList.length = 8 := by rw [← hs]; simp
  have hne : (s.toList == []) = false := by
    rw [ByteArray.toList_eq]
    cases h : s.data.toList with
    | nil => rw [h] at hsl; cases hsl
    | cons _ _ => rfl
  have hcv := Lib.run_convert_string_bytes (P := Tryd.prog) w 9 68 5 s Tryd.underlying9 Tryd.underlying68 Tryd.underlying5
  rw [hs] at hcv
  obtain ⟨cp, hcp⟩ : ∃ cp, grownCap w 8 0 5 = cp := ⟨_, rfl⟩
  rw [hcp] at hcv
  have hcell : ∀ j : Nat, j < 8 → (Lib.bytesWorld w 5 s).cell? ⟨w.heap.size, j, none⟩ = some (.int .u8 ((s.data.toList.getD j 0).toNat : Nat)) := fun j hj => Lib.bytesWorld_cell w _ s j (by omega)
  have hS := since_bytes w 5 s
  obtain ⟨w1, hw1⟩ : ∃ w1, Lib.bytesWorld w 5 s = w1 := ⟨_, rfl⟩
  rw [hw1] at hcv hcell hS
  have HS := Lib.hid hS
  have HC := Lib.hid hcell
  clear hcp hw1 hS hcell
  go_enter Tryd.func77, Tryd.ntmps77
  go_wp2_with fail
  go_loopg [12, 13, 101] 8 (fun gg us nv i wr => us = .bool false ∧ ∃ (k n : Nat) (a : Int), k ≤ 8 ∧ gg = 8 - k ∧ i = .int .i64 k ∧ nv = .int .u64 a ∧ a = (n : Int) ∧ parH (s.data.toList.take k) = some n ∧ wr = w1)
  case atStart => exact ⟨rfl, 0, 0, 0, by omega, rfl, rfl, rfl, rfl, rfl, rfl⟩
  case round =>
    obtain ⟨rfl, k, n, a, hk, rfl, rfl, rfl, ha, hn, rfl⟩ := hrel
    have HA := Lib.hid ha
    have HN := Lib.hid hn
    by_cases hlt : k < 8
    · have hn16 : n < 16 ^ 7 := by
        have := parH_lt _ n hn
        have hl : (s.data.toList.take k).length ≤ 7 := by rw [List.length_take]; omega
        exact Nat.lt_of_lt_of_le this (Nat.pow_le_pow_right (by decide) hl)
      have ha1 : 0 ≤ a := by omega
      have ha2 : a ≤ 268435455 := by rw [ha]; have e : (16 : Nat) ^ 7 = 268435456 := by decide
                                     omega
      obtain ⟨b, hb⟩ : ∃ b, s.data.toList[k]? = some b := ⟨_, List.getElem?_eq_getElem (by omega)⟩
      have htk : s.data.toList.take (k + 1) = s.data.toList.take k ++ [b] := by rw [List.take_add_one, hb]; rfl
      have hstep : parH (s.data.toList.take (k + 1)) = (dgL b.toNat).map fun d => 16 * n + d := by rw [htk, parH_snoc, hn]; rfl
      have hbad : dgL b.toNat = none → parH s.data.toList = none := fun h => by
        have e : s.data.toList = s.data.toList.take (k + 1) ++ s.data.toList.drop (k + 1) := (List.take_append_drop _ _).symm
        rw [e]
        unfold parH at hstep ⊢
        rw [List.foldl_append, hstep, h]
        exact foldl_none _
      have hg : s.data.toList.getD k 0 = b := by rw [List.getD_eq_getElem?_getD, hb]; rfl
      have g1 := HC.out k hlt
      rw [hg] at g1
      obtain ⟨c, hc⟩ : ∃ c, b.toNat = c := ⟨_, rfl⟩
      rw [hc] at g1 hstep hbad
      have hc256 : c < 256 := by rw [← hc]; exact b.toNat_lt
      have HStep := Lib.hid hstep
      have HBad := Lib.hid hbad
      clear hstep hbad hg hb htk hc hn ha hn16 hsl hcv
      by_cases h1 : 48 ≤ c ∧ c ≤ 57
      · have hd1 : (48 : Int) ≤ (c : Int) := by omega
        have hd2 : (c : Int) ≤ 57 := by omega
        have hd3 : ((c : Int) == 95) = false := beq_false_of_ne (by omega)
        have HD : Hid (dgL c = some (c - 48)) := Lib.hid (by unfold dgL; rw [if_pos h1])
        clear h1
        go_wp2
        go_roundg (8 - (k + 1))
        all_goals first
          | omega
          | exact ⟨rfl, k + 1, 16 * n + (c - 48), _, by omega, rfl, congrArg (Value.int .i64) (by omega), rfl, by have := HA.out; omega, by rw [HStep.out, HD.out]; rfl, rfl⟩
      · obtain ⟨L, hL⟩ : ∃ L, c ||| 32 = L := ⟨_, rfl⟩
        have hL256 : L < 256 := by rw [← hL]; exact Nat.or_lt_two_pow (n := 8) hc256 (by decide)
        by_cases h0 : c < 48
        · have hL64 : L < 64 := by rw [← hL]; exact Nat.or_lt_two_pow (n := 6) (by omega) (by decide)
          have HD : Hid (dgL c = none) := Lib.hid (by unfold dgL; rw [if_neg h1, hL, if_neg (by omega)])
          have hd1 : ¬ (48 : Int) ≤ (c : Int) := by omega
          have hl1 : ¬ (97 : Int) ≤ (L : Int) := by omega
          have hd3 : ((c : Int) == 95) = false := beq_false_of_ne (by omega)
          clear h1
          go_wp2_with (first
            | (go_at_call 95; refine (lowW c hc256 _).mono ?_; rintro e w' ⟨he, hw⟩; rw [hL] at he; subst he; subst w')
            | go_in)
          all_goals go_ret2
          all_goals exact ⟨HS.out, .inr ⟨HBad.out HD.out, rfl⟩⟩
        · have hd1 : (48 : Int) ≤ (c : Int) := by omega
          have hd2 : ¬ (c : Int) ≤ 57 := by omega
          by_cases h2 : 97 ≤ L ∧ L ≤ 122
          · have hl1 : (97 : Int) ≤ (L : Int) := by omega
            have hl2 : (L : Int) ≤ 122 := by omega
            have hd3 : ((c : Int) == 95) = false := beq_false_of_ne (fun e => by
              have : c = 95 := by omega
              subst this
              have e2 : (95 ||| 32 : Nat) = 127 := by decide
              omega)
            by_cases h3 : L - 97 + 10 < 16
            · have HD : Hid (dgL c = some (L - 97 + 10)) := Lib.hid (by unfold dgL; rw [if_neg h1, hL, if_pos h2, if_pos h3])
              have hl3 : (L : Int) ≤ 102 := by omega
              clear h1 h2
              go_wp2_with (first
                | (go_at_call 95; refine (lowW c hc256 _).mono ?_; rintro e w' ⟨he, hw⟩; rw [hL] at he; subst he; subst w')
                | go_in)
              go_roundg (8 - (k + 1))
              all_goals first
                | omega
                | exact ⟨rfl, k + 1, 16 * n + (L - 97 + 10), _, by omega, rfl, congrArg (Value.int .i64) (by omega), rfl, by have := HA.out; omega, by rw [HStep.out, HD.out]; rfl, rfl⟩
            · have HD : Hid (dgL c = none) := Lib.hid (by unfold dgL; rw [if_neg h1, hL, if_pos h2, if_neg h3])
              have hl3 : (102 : Int) < (L : Int) := by omega
              clear h1 h2
              go_wp2_with (first
                | (go_at_call 95; refine (lowW c hc256 _).mono ?_; rintro e w' ⟨he, hw⟩; rw [hL] at he; subst he; subst w')
                | go_in)
              all_goals go_ret2
              all_goals exact ⟨HS.out, .inr ⟨HBad.out HD.out, rfl⟩⟩
          · have HD : Hid (dgL c = none) := Lib.hid (by unfold dgL; rw [if_neg h1, hL, if_neg h2])
            rcases Nat.lt_or_ge L 97 with hl | hl
            · have hl1 : ¬ (97 : Int) ≤ (L : Int) := by omega
              clear h1 h2
              cases hd3 : ((c : Int) == 95)
              all_goals
                go_wp2_with (first
                  | (go_at_call 95; refine (lowW c hc256 _).mono ?_; rintro e w' ⟨he, hw⟩; rw [hL] at he; subst he; subst w')
                  | go_in)
                go_ret2
                exact ⟨HS.out, .inr ⟨HBad.out HD.out, rfl⟩⟩
            · have hl1 : (97 : Int) ≤ (L : Int) := by omega
              have hl2 : ¬ (L : Int) ≤ 122 := by omega
              clear h1 h2
              cases hd3 : ((c : Int) == 95)
              all_goals
                go_wp2_with (first
                  | (go_at_call 95; refine (lowW c hc256 _).mono ?_; rintro e w' ⟨he, hw⟩; rw [hL] at he; subst he; subst w')
                  | go_in)
                go_ret2
                exact ⟨HS.out, .inr ⟨HBad.out HD.out, rfl⟩⟩
    · obtain rfl : k = 8 := by omega
      rw [List.take_of_length_le (by omega)] at hn
      go_wp2
      go_ret2
      exact ⟨HS.out, .inl ⟨n, hn, by rw [HA.out]; rfl⟩⟩
end Go.Proofs.YtmlodheanckadaaDoor
