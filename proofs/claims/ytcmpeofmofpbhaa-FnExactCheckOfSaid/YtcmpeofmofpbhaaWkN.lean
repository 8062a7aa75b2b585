/-
  Walks of the laws FnExactIsName and FnExactCheckOf: for every input each returns true and writes nothing. No condition.
-/
import Derived.Test.YtcmpeofmofpbhaaExt
import Derived.Lib.Hide
namespace Go.Proofs.Ytcmpeofmofpbhaa
open Go.RowKit
set_option linter.unusedVariables false

def okN (l : List UInt8) : Bool := l.all fun c => decide (97 ≤ c.toNat) && decide (c.toNat ≤ 122)
def nameB (s : ByteArray) : Bool := okN s.data.toList && (decide (1 ≤ s.size) && decide (s.size ≤ 8))

theorem okN_bad (s : ByteArray) (k : Nat) (h : k < s.size) (hb : (s[k].toNat : Int) < 97 ∨ 122 < (s[k].toNat : Int)) : nameB s = false := by
  have : okN s.data.toList = false := by
    unfold okN
    rw [List.all_eq_false]
    refine ⟨s[k], ?_, by simp; omega⟩
    exact Array.mem_toList_iff.2 (Array.getElem_mem (by simpa using h))
  unfold nameB
  rw [this]; rfl
theorem okN_all (s : ByteArray) (h : ∀ i (hi : i < s.size), 97 ≤ (s[i].toNat : Int) ∧ (s[i].toNat : Int) ≤ 122) : nameB s = (decide (1 ≤ s.size) && decide (s.size ≤ 8)) := by
  have : okN s.data.toList = true := by
    unfold okN
    rw [List.all_eq_true]
    intro c hc
    obtain ⟨i, hi, rfl⟩ := List.getElem_of_mem hc
    have hi' : i < s.size := by simpa using hi
    have := h i hi'
    have e : s.data.toList[i] = s[i] := by simp; rfl
    rw [e]; simp; omega
  unfold nameB
  rw [this]; rfl

/-- The first k bytes are letters. -/
def Okd (s : ByteArray) (k : Nat) : Prop := ∀ i (hi : i < s.size), i < k → 97 ≤ (s[i].toNat : Int) ∧ (s[i].toNat : Int) ≤ 122
theorem Okd.zero (s : ByteArray) : Okd s 0 := fun _ _ h => by omega
theorem Okd.succ {s : ByteArray} {k : Nat} (h : Okd s k) (hk : k < s.size) (h1 : 97 ≤ (s[k].toNat : Int)) (h2 : (s[k].toNat : Int) ≤ 122) : Okd s (k + 1) := fun i hi hik => by
  by_cases e : i = k
  · subst e; exact ⟨h1, h2⟩
  · exact h i hi (by omega)

theorem nameS (s : ByteArray) (w : World) (hs : s.size ≤ maxLen) :
    Calls Try.prog 18 #[.string s] w fun e w' => e = .returned (.bool (nameB s)) ∧ w = w' := by
  unfold maxLen at hs
  go_enter Try.func18, Try.ntmps18
  go_wp2
  go_loop [3] (fun i => ∃ k : Nat, k ≤ s.size ∧ i = .int .i64 k ∧ Okd s k) (fun i => s.size - (intOf i).toNat)
  case atStart => exact ⟨0, Nat.zero_le _, rfl, Okd.zero s⟩
  case round =>
    obtain ⟨k, hk, rfl, hok⟩ := hrel
    have HO := Lib.hid hok
    clear hok
    by_cases hlt : k < s.size
    · by_cases h1 : (s[k].toNat : Int) < 97
      · have HB := Lib.hid (okN_bad s k hlt (Or.inl h1))
        go_wp2
        go_ret
        exact ⟨by rw [HB.out]; rfl, rfl⟩
      · by_cases h2 : 122 < (s[k].toNat : Int)
        · have HB := Lib.hid (okN_bad s k hlt (Or.inr h2))
          go_wp2
          go_ret
          exact ⟨by rw [HB.out]; rfl, rfl⟩
        · have h1' : 97 ≤ (s[k].toNat : Int) := by omega
          have h2' : (s[k].toNat : Int) ≤ 122 := by omega
          clear h1 h2
          go_wp2
          go_round
          case rel => exact ⟨k + 1, by omega, by go_num, HO.out.succ hlt h1' h2'⟩
          case measure => simp [intOf]; omega
    · have HA := Lib.hid (okN_all s (fun i hi => HO.out i hi (by omega)))
      by_cases h1 : 1 ≤ s.size
      · by_cases h2 : s.size ≤ 8
        all_goals
          go_wp2
          go_ret
          exact ⟨by rw [HA.out]; simp [h1, h2]; omega, rfl⟩
      · go_wp2
        go_ret
        exact ⟨by rw [HA.out]; simp [h1], rfl⟩

theorem nameI (s : ByteArray) (w : World) (hs : s.size ≤ maxLen) :
    Calls Try.prog 19 #[.string s] w fun e w' => e = .returned (.bool (nameB s)) ∧ w = w' := by
  unfold maxLen at hs
  go_enter Try.func19, Try.ntmps19
  go_wp2
  go_loop [6] (fun i => ∃ k : Nat, k ≤ s.size ∧ i = .int .i64 k ∧ Okd s k) (fun i => s.size - (intOf i).toNat)
  case atStart => exact ⟨0, Nat.zero_le _, rfl, Okd.zero s⟩
  case round =>
    obtain ⟨k, hk, rfl, hok⟩ := hrel
    have HO := Lib.hid hok
    clear hok
    by_cases hlt : k < s.size
    · by_cases h1 : (s[k].toNat : Int) < 97
      · have HB := Lib.hid (okN_bad s k hlt (Or.inl h1))
        go_wp2
        go_ret
        exact ⟨by rw [HB.out]; rfl, rfl⟩
      · by_cases h2 : 122 < (s[k].toNat : Int)
        · have HB := Lib.hid (okN_bad s k hlt (Or.inr h2))
          go_wp2
          go_ret
          exact ⟨by rw [HB.out]; rfl, rfl⟩
        · have h1' : 97 ≤ (s[k].toNat : Int) := by omega
          have h2' : (s[k].toNat : Int) ≤ 122 := by omega
          clear h1 h2
          go_wp2
          go_round
          case rel => exact ⟨k + 1, by omega, by go_num, HO.out.succ hlt h1' h2'⟩
          case measure => simp [intOf]; omega
    · have HA := Lib.hid (okN_all s (fun i hi => HO.out i hi (by omega)))
      by_cases h1 : 1 ≤ s.size
      · by_cases h2 : s.size ≤ 8
        all_goals
          go_wp2
          go_ret
          exact ⟨by rw [HA.out]; simp [h1, h2]; omega, rfl⟩
      · go_wp2
        go_ret
        exact ⟨by rw [HA.out]; simp [h1], rfl⟩

theorem walk_FnExactIsName (a0 : ByteArray) (w0 : a0.size ≤ maxLen) (w : World) :
    Calls Try.prog 7 #[.string a0] w fun e w' => e = .returned (.bool true) ∧ Grown w w' := by
  have hs := w0
  unfold maxLen at hs
  go_enter Try.func7, Try.ntmps7
  go_wp2_with (first | (go_at_call 18; refine (nameS _ _ w0).mono ?_; rintro e w' ⟨rfl, rfl⟩) | (go_at_call 19; refine (nameI _ _ w0).mono ?_; rintro e w' ⟨rfl, rfl⟩))
  all_goals go_ret
  all_goals exact ⟨rfl, Grown.refl _⟩

-- the check number
def chk (n : Int) (l : List UInt8) : Int := l.foldl (fun n c => (859 * n + c.toNat + 151) % 65003) n
theorem chk_bd (n : Int) (l : List UInt8) (h0 : 0 ≤ n) (h1 : n ≤ 65002) : 0 ≤ chk n l ∧ chk n l ≤ 65002 := by
  induction l generalizing n with
  | nil => exact ⟨h0, h1⟩
  | cons c l ih => have := ih ((859 * n + (c.toNat : Int) + 151) % 65003) (by omega) (by omega); exact this
theorem chk_snoc (n : Int) (s : ByteArray) (k : Nat) (h : k < s.size) : chk n (s.data.toList.take (k + 1)) = (859 * chk n (s.data.toList.take k) + s[k].toNat + 151) % 65003 := by
  have e : s.data.toList.take (k + 1) = s.data.toList.take k ++ [s[k]] := by
    rw [List.take_succ_eq_append_getElem (by simpa using h)]; rfl
  rw [e]; unfold chk; rw [List.foldl_append]; rfl

theorem checkS (n : Int) (s : ByteArray) (w : World) (hs : s.size ≤ maxLen) (h0 : 0 ≤ n) (h1 : n ≤ 65002) :
    Calls Try.prog 34 #[.int .i64 n, .string s] w fun e w' => e = .returned (.int .i64 (chk n s.data.toList)) ∧ w = w' := by
  unfold maxLen at hs
  go_enter Try.func34, Try.ntmps34
  go_wp2
  go_loop [0, 5] (fun v i => ∃ k : Nat, k ≤ s.size ∧ i = .int .i64 k ∧ v = .int .i64 (chk n (s.data.toList.take k))) (fun _ i => s.size - (intOf i).toNat)
  case atStart => exact ⟨0, Nat.zero_le _, rfl, rfl⟩
  case round =>
    obtain ⟨k, hk, rfl, rfl⟩ := hrel
    have hb := chk_bd n (s.data.toList.take k) h0 h1
    obtain ⟨hb0, hb1⟩ := hb
    by_cases hlt : k < s.size
    · have HS := Lib.hid (chk_snoc n s k hlt)
      have hc : (s[k].toNat : Int) ≤ 255 := by have := s[k].toNat_lt; omega
      generalize chk n (s.data.toList.take k) = c at *
      go_wp2
      go_round
      case rel => exact ⟨k + 1, by omega, by go_num, by rw [HS.out]⟩
      case measure => simp [intOf]; omega
    · have HE : Hid (s.data.toList.take k = s.data.toList) := Lib.hid (List.take_of_length_le (by simp; omega))
      go_wp2
      go_ret
      exact ⟨by rw [HE.out]; rfl, rfl⟩

theorem checkI (n : Int) (s : ByteArray) (w : World) (hs : s.size ≤ maxLen) (h0 : 0 ≤ n) (h1 : n ≤ 65002) :
    Calls Try.prog 25 #[.int .i64 n, .string s] w fun e w' => e = .returned (.tuple #[.int .i64 (chk n s.data.toList), .bool true]) ∧ w = w' := by
  unfold maxLen at hs
  go_enter Try.func25, Try.ntmps25
  go_wp2
  go_loop [0, 12] (fun v i => ∃ k : Nat, k ≤ s.size ∧ i = .int .i64 k ∧ v = .int .i64 (chk n (s.data.toList.take k))) (fun _ i => s.size - (intOf i).toNat)
  case atStart => exact ⟨0, Nat.zero_le _, rfl, rfl⟩
  case round =>
    obtain ⟨k, hk, rfl, rfl⟩ := hrel
    have hb := chk_bd n (s.data.toList.take k) h0 h1
    obtain ⟨hb0, hb1⟩ := hb
    by_cases hlt : k < s.size
    · have HS := Lib.hid (chk_snoc n s k hlt)
      have hc : (s[k].toNat : Int) ≤ 255 := by have := s[k].toNat_lt; omega
      generalize chk n (s.data.toList.take k) = c at *
      go_wp2
      go_round
      case rel => exact ⟨k + 1, by omega, by go_num, by rw [HS.out]⟩
      case measure => simp [intOf]; omega
    · have HE : Hid (s.data.toList.take k = s.data.toList) := Lib.hid (List.take_of_length_le (by simp; omega))
      go_wp2
      go_ret2
      exact ⟨by rw [HE.out]; rfl, rfl⟩

theorem walk_FnExactCheckOf (a0 : Int) (w0 : (Lit.int .i64 a0).wf = true) (a1 : ByteArray) (w1 : a1.size ≤ maxLen) (w : World) :
    Calls Try.prog 10 #[.int .i64 a0, .string a1] w fun e w' => e = .returned (.bool true) ∧ Grown w w' := by
  have hs := w1
  unfold maxLen at hs
  by_cases h : 0 ≤ a0 ∧ a0 ≤ 65002
  · obtain ⟨h0, h1⟩ := h
    go_enter Try.func10, Try.ntmps10
    go_wp2_with (first | (go_at_call 34; refine (checkS _ _ _ w1 h0 h1).mono ?_; rintro e w' ⟨rfl, rfl⟩) | (go_at_call 25; refine (checkI _ _ _ w1 h0 h1).mono ?_; rintro e w' ⟨rfl, rfl⟩) | go_in)
    all_goals go_ret
    all_goals exact ⟨rfl, Grown.refl _⟩
  · rcases (by omega : a0 < 0 ∨ 65002 < a0) with h0 | h0
    · have hd : decide (0 ≤ a0) = false := by simpa using h0
      clear h
      go_enter Try.func10, Try.ntmps10
      go_wp2
      all_goals go_ret
      all_goals exact ⟨rfl, Grown.refl _⟩
    · have hd : decide (a0 ≤ 65002) = false := by simpa using h0
      have h1 : 0 ≤ a0 := by omega
      clear h
      go_enter Try.func10, Try.ntmps10
      go_wp2
      all_goals go_ret
      all_goals exact ⟨rfl, Grown.refl _⟩
end Go.Proofs.Ytcmpeofmofpbhaa
