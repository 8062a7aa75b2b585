/-
  Hexadecimal digits, plain. No condition.
-/
import Derived.Lib.Repeat
namespace Go.Proofs.YtmlodheanckadaaDoor
set_option linter.unusedVariables false
set_option linter.unusedSimpArgs false

/-- The digit d as a byte. -/
def hd (d : Nat) : UInt8 := UInt8.ofNat (if d < 10 then 48 + d else 87 + d)
/-- The last k hexadecimal digits of n. -/
def hexN : Nat → Nat → List UInt8
  | 0, _ => []
  | k + 1, n => hexN k (n / 16) ++ [hd (n % 16)]
/-- The digits of u, none ahead that is not needed. -/
def hexG (u : Nat) : List UInt8 := if h : u < 16 then [hd u] else hexG (u / 16) ++ [hd (u % 16)]
termination_by u
decreasing_by omega
theorem hexG_small {u : Nat} (h : u < 16) : hexG u = [hd u] := by rw [hexG, dif_pos h]
theorem hexG_big {u : Nat} (h : ¬ u < 16) : hexG u = hexG (u / 16) ++ [hd (u % 16)] := by rw [hexG, dif_neg h]
theorem hexN_len : ∀ (k n : Nat), (hexN k n).length = k
  | 0, _ => rfl
  | k + 1, n => by unfold hexN; rw [List.length_append, hexN_len k]; rfl
theorem hexN_zero : ∀ (k : Nat), hexN k 0 = List.replicate k 48
  | 0 => rfl
  | k + 1 => by
    unfold hexN
    rw [Nat.zero_div, hexN_zero k, List.replicate_succ']
    rfl
theorem hexG_pad : ∀ (k u : Nat), u < 16 ^ (k + 1) → 1 ≤ (hexG u).length ∧ (hexG u).length ≤ k + 1 ∧ List.replicate (k + 1 - (hexG u).length) 48 ++ hexG u = hexN (k + 1) u
  | 0, u, h => by
    have h' : u < 16 := by simpa using h
    rw [hexG_small h']
    refine ⟨by simp, by simp, ?_⟩
    unfold hexN
    rw [Nat.mod_eq_of_lt h']
    rfl
  | k + 1, u, h => by
    by_cases h' : u < 16
    · rw [hexG_small h']
      refine ⟨by simp, by simp, ?_⟩
      unfold hexN
      rw [show u / 16 = 0 by omega, hexN_zero, Nat.mod_eq_of_lt h']
      rfl
    · obtain ⟨h1, h2, h3⟩ := hexG_pad k (u / 16) (Nat.div_lt_of_lt_mul (by rw [Nat.pow_succ] at h; omega))
      rw [hexG_big h', List.length_append, List.length_singleton]
      refine ⟨by omega, by omega, ?_⟩
      unfold hexN
      rw [← h3, ← List.append_assoc]
      rw [show k + 1 + 1 - ((hexG (u / 16)).length + 1) = k + 1 - (hexG (u / 16)).length by omega]
theorem repeatL_zero (c : Nat) : Lib.repeatL [48] c = List.replicate c 48 := by
  induction c with
  | zero => rfl
  | succ c ih => show [48] ++ Lib.repeatL [48] c = _; rw [ih]; rfl
theorem hexN_top (n : Nat) (j : Nat) (h : j < 8) : hexN (j + 1) (n / 16 ^ (7 - j)) = hexN j (n / 16 ^ (8 - j)) ++ [hd (n / 16 ^ (7 - j) % 16)] := by
  show hexN j (n / 16 ^ (7 - j) / 16) ++ _ = _
  rw [Nat.div_div_eq_div_mul, ← Nat.pow_succ, show (7 - j).succ = 8 - j by omega]
theorem hd_range (d : Nat) (h : d < 16) : (48 ≤ (hd d).toNat ∧ (hd d).toNat ≤ 57 ∧ (hd d).toNat = 48 + d) ∨ (97 ≤ (hd d).toNat ∧ (hd d).toNat ≤ 102 ∧ (hd d).toNat = 87 + d) := by
  have : ∀ d : Fin 16, (48 ≤ (hd d.val).toNat ∧ (hd d.val).toNat ≤ 57 ∧ (hd d.val).toNat = 48 + d.val) ∨ (97 ≤ (hd d.val).toNat ∧ (hd d.val).toNat ≤ 102 ∧ (hd d.val).toNat = 87 + d.val) := by decide +kernel
  exact this ⟨d, h⟩
theorem hexN_mem : ∀ (k n : Nat) (c : UInt8), c ∈ hexN k n → ∃ d, d < 16 ∧ c = hd d
  | 0, _, c, h => by cases h
  | k + 1, n, c, h => by
    unfold hexN at h
    rcases List.mem_append.1 h with h | h
    · exact hexN_mem k _ c h
    · exact ⟨n % 16, Nat.mod_lt _ (by decide), List.mem_singleton.1 h⟩
end Go.Proofs.YtmlodheanckadaaDoor
