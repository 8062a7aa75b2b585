/-
  Walks of spec.l01Value and impl.ReadDecimal: the number with a decimal text. No condition.
-/
import Derived.Test.YtmlodheanckadaaDoorDecP
import Derived.Test.YtmlodheanckadaaDoorWkDec
import Derived.Test.YtmlodheanckadaaDoorShB
import Derived.Outline
namespace Go.Proofs.YtmlodheanckadaaDoor
open Go.RowKit Go.Deep
set_option linter.unusedVariables false
set_option linter.unusedSimpArgs false

def ValAns (s : ByteArray) (w : World) (e : Ending) (w' : World) : Prop :=
  w.Since w.heap.size w' ∧ ((∃ n, IsDec s n ∧ e = .returned (.tuple #[.int .i64 n, .bool true])) ∨ ((∀ n, ¬ IsDec s n) ∧ e = .returned (.tuple #[.int .i64 0, .bool false])))

theorem dv_take (s : ByteArray) (k : Nat) (h : k < s.size) : dv (s.data.toList.take (k + 1)) = dvStep (dv (s.data.toList.take k)) s[k] := by
  have e : s.data.toList.take (k + 1) = s.data.toList.take k ++ [s[k]] := by
    rw [List.take_succ_eq_append_getElem (by simpa using h)]; rfl
  rw [e, dv_snoc]
theorem dv_take_bd (s : ByteArray) (k : Nat) (hk : k ≤ 16) : 0 ≤ dv (s.data.toList.take k) ∧ dv (s.data.toList.take k) ≤ 10000000000000000 := by
  obtain ⟨h1, h2⟩ := dv_bd (s.data.toList.take k)
  have h3 : (s.data.toList.take k).length ≤ 16 := by rw [List.length_take]; omega
  have h4 : (10 : Int) ^ (s.data.toList.take k).length ≤ 10 ^ 16 := by
    have := Nat.pow_le_pow_right (n := 10) (by decide) h3
    exact_mod_cast this
  omega

theorem inB (n a b : Int) (w : World) : Calls Tryd.prog 58 #[.int .i64 n, .int .i64 a, .int .i64 b] w fun e w' => e = .returned (.bool (decide (a ≤ n) && decide (n ≤ b))) ∧ w' = w := by
  by_cases h1 : a ≤ n <;> by_cases h2 : n ≤ b
  all_goals go_enter Tryd.func58, Tryd.ntmps58
  all_goals go_wp2
  all_goals go_ret
  all_goals simp [h1, h2]

theorem head_45 (s : ByteArray) (h : 0 < s.size) : (s.data.toList.head? = some 45) ↔ ((s[0].toNat : Int) = 45) := by
  have e : s.data.toList.head? = some s[0] := by
    rw [List.head?_eq_getElem?]
    rw [List.getElem?_eq_getElem (by simpa using h)]
    rfl
  rw [e]
  constructor
  · intro h; rw [Option.some.inj h]; rfl
  · intro h
    congr 1
    apply UInt8.toNat_inj.1
    have : (45 : UInt8).toNat = 45 := rfl
    omega
theorem eqB_true {l : List UInt8} {s : ByteArray} (h : (l == s.toList) = true) : (⟨l.toArray⟩ : ByteArray) = s := by
  rw [ByteArray.toList_eq] at h
  rw [eq_of_beq h]
theorem eqB_false {l : List UInt8} {s : ByteArray} (h : (l == s.toList) = false) : (⟨l.toArray⟩ : ByteArray) ≠ s := by
  intro e
  rw [← e, ByteArray.toList_eq] at h
  simp at h
set_option maxRecDepth 20000 in
theorem valS (s : ByteArray) (w : World) (hs : s.size ≤ maxLen) :
    Calls Tryd.prog 37 #[.string s] w (ValAns s w) := by
  unfold maxLen at hs
  by_cases hl1 : s.size < 1
  · have hb1 : decide ((s.size : Int) < 1) = true := decide_eq_true (by omega)
    go_enter Tryd.func37, Tryd.ntmps37
    go_wp2
    go_ret2
    exact ⟨World.Since.refl _ _, .inr ⟨fun n h => by have := h.len; omega, rfl⟩⟩
  · have hb1 : decide ((s.size : Int) < 1) = false := decide_eq_false (by omega)
    by_cases hl2 : 17 < s.size
    · have hb2 : decide (17 < (s.size : Int)) = true := decide_eq_true (by omega)
      go_enter Tryd.func37, Tryd.ntmps37
      go_wp2
      go_ret2
      exact ⟨World.Since.refl _ _, .inr ⟨fun n h => by have := h.len; omega, rfl⟩⟩
    · have hb2 : decide (17 < (s.size : Int)) = false := decide_eq_false (by omega)
      go_enter Tryd.func37, Tryd.ntmps37
      go_wp2
      go_loopg [4, 5] s.size (fun gg n i wr => ∃ k : Nat, k ≤ s.size ∧ gg = s.size - k ∧ i = .int .i64 (k : Nat) ∧ n = .int .i64 (dv (s.data.toList.take k)) ∧ wr = w)
      case atStart => exact ⟨0, Nat.zero_le _, rfl, rfl, rfl, rfl⟩
      case round =>
        obtain ⟨k, hk, rfl, rfl, rfl, rfl⟩ := hrel
        by_cases hlt : k < s.size
        · obtain ⟨hd1, hd2⟩ := dv_take_bd s k (by omega)
          have HT := Lib.hid (dv_take s k hlt)
          obtain ⟨a, ha⟩ : ∃ a, dv (s.data.toList.take k) = a := ⟨_, rfl⟩
          rw [ha] at hd1 hd2 HT ⊢
          obtain ⟨c, hc⟩ : ∃ c : Nat, (s[k]'hlt).toNat = c := ⟨_, rfl⟩
          by_cases hc1 : 48 ≤ c
          · by_cases hc2 : c ≤ 57
            · have hc1' : (48 : Int) ≤ (c : Int) := by omega
              have hc2' : (c : Int) ≤ 57 := by omega
              go_wp2
              go_roundg (s.size - (k + 1))
              all_goals first
                | omega
                | exact ⟨k + 1, by omega, rfl, congrArg (Value.int .i64) (by omega), congrArg (Value.int .i64) (by rw [HT.out]; unfold dvStep; rw [if_pos (by rw [hc]; omega), hc]), rfl⟩
            · have hc2' : ¬ (c : Int) ≤ 57 := by omega
              go_wp2
              go_roundg (s.size - (k + 1))
              all_goals first
                | omega
                | exact ⟨k + 1, by omega, rfl, congrArg (Value.int .i64) (by omega), congrArg (Value.int .i64) (by rw [HT.out]; unfold dvStep; rw [if_neg (by rw [hc]; omega)]), rfl⟩
          · have hc1' : ¬ (48 : Int) ≤ (c : Int) := by omega
            go_wp2
            go_roundg (s.size - (k + 1))
            all_goals first
              | omega
              | exact ⟨k + 1, by omega, rfl, congrArg (Value.int .i64) (by omega), congrArg (Value.int .i64) (by rw [HT.out]; unfold dvStep; rw [if_neg (by rw [hc]; omega)]), rfl⟩
        · obtain rfl : k = s.size := by omega
          rw [List.take_of_length_le (by simp)]
          have hs1 : 0 < s.size := by omega
          obtain ⟨hd1, hd2⟩ := dv_bd s.data.toList
          have hd3 : (10 : Int) ^ s.data.toList.length ≤ 10 ^ 17 := by
            have h3 : s.data.toList.length ≤ 17 := by simp; omega
            have := Nat.pow_le_pow_right (n := 10) (by decide) h3
            exact_mod_cast this
          have hsg : ∀ n, IsDec s n → n = sg s.data.toList (dv s.data.toList) := fun n h => h.spelt.symm
          obtain ⟨a, ha⟩ : ∃ a, dv s.data.toList = a := ⟨_, rfl⟩
          rw [ha] at hd1 hd2 hsg ⊢
          have hd4 : a < 100000000000000000 := by omega
          have HS := Lib.hid hsg
          have H45 := Lib.hid (head_45 s hs1)
          clear hsg hd2 hd3 ha hl1 hl2
          by_cases h45 : (s[0].toNat : Int) = 45
          · have hv : sg s.data.toList a = -a := by unfold sg; rw [if_pos (H45.out.2 h45)]
            by_cases hR : -1000000000000000 ≤ -a ∧ -a ≤ 1000000000000000
            · have hRb : (decide (-1000000000000000 ≤ -a) && decide (-a ≤ 1000000000000000)) = true := by simp [hR]
              cases hB : (Lib.itoa (-a) == s.toList)
              all_goals
                have HB := Lib.hid hB
                go_wp2_with (first
                  | (go_at_call 58; refine (inB _ _ _ _).mono ?_; rintro e w' ⟨rfl, hw⟩; subst w'; rw [hRb])
                  | (go_at_call 35; refine (decS (-a) (by omega) (by omega) _).mono ?_; rintro e w' ⟨rfl, hS⟩)
                  | go_in)
                go_ret2
                first
                  | exact ⟨hS, .inl ⟨-a, ⟨hR.1, hR.2, eqB_true HB.out⟩, rfl⟩⟩
                  | exact ⟨hS, .inr ⟨fun n h => eqB_false HB.out (by have := HS.out n h; rw [hv] at this; rw [← this]; exact h.2.2), rfl⟩⟩
            · have hRb : (decide (-1000000000000000 ≤ -a) && decide (-a ≤ 1000000000000000)) = false := by
                rw [Bool.and_eq_false_iff, decide_eq_false_iff_not, decide_eq_false_iff_not]; omega
              go_wp2_with (first
                | (go_at_call 58; refine (inB _ _ _ _).mono ?_; rintro e w' ⟨rfl, hw⟩; subst w'; rw [hRb])
                | go_in)
              go_ret2
              exact ⟨World.Since.refl _ _, .inr ⟨fun n h => hR (by have := HS.out n h; rw [hv] at this; rw [← this]; exact ⟨h.1, h.2.1⟩), rfl⟩⟩
          · have hv : sg s.data.toList a = a := by unfold sg; rw [if_neg (fun h => h45 (H45.out.1 h))]
            by_cases hR : -1000000000000000 ≤ a ∧ a ≤ 1000000000000000
            · have hRb : (decide (-1000000000000000 ≤ a) && decide (a ≤ 1000000000000000)) = true := by simp [hR]
              cases hB : (Lib.itoa a == s.toList)
              all_goals
                have HB := Lib.hid hB
                go_wp2_with (first
                  | (go_at_call 58; refine (inB _ _ _ _).mono ?_; rintro e w' ⟨rfl, hw⟩; subst w'; rw [hRb])
                  | (go_at_call 35; refine (decS a (by omega) (by omega) _).mono ?_; rintro e w' ⟨rfl, hS⟩)
                  | go_in)
                go_ret2
                first
                  | exact ⟨hS, .inl ⟨a, ⟨hR.1, hR.2, eqB_true HB.out⟩, rfl⟩⟩
                  | exact ⟨hS, .inr ⟨fun n h => eqB_false HB.out (by have := HS.out n h; rw [hv] at this; rw [← this]; exact h.2.2), rfl⟩⟩
            · have hRb : (decide (-1000000000000000 ≤ a) && decide (a ≤ 1000000000000000)) = false := by
                rw [Bool.and_eq_false_iff, decide_eq_false_iff_not, decide_eq_false_iff_not]; omega
              go_wp2_with (first
                | (go_at_call 58; refine (inB _ _ _ _).mono ?_; rintro e w' ⟨rfl, hw⟩; subst w'; rw [hRb])
                | go_in)
              go_ret2
              exact ⟨World.Since.refl _ _, .inr ⟨fun n h => hR (by have := HS.out n h; rw [hv] at this; rw [← this]; exact ⟨h.1, h.2.1⟩), rfl⟩⟩
end Go.Proofs.YtmlodheanckadaaDoor
