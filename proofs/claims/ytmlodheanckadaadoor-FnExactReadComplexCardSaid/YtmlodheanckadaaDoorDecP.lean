/-
  Decimal texts, plain: what a text's digits spell; that a numeral spells its number and is read back by the library's parse. No condition.
-/
import Derived.Lib.ItoaNum
import Derived.Lib.ItoaMem
import Derived.Lib.ParseIntB
import Derived.Test.YtmlodheanckadaaDoorDec
namespace Go.Proofs.YtmlodheanckadaaDoor
set_option linter.unusedVariables false
set_option linter.unusedSimpArgs false

def dvStep (a : Int) (c : UInt8) : Int := if 48 ≤ c.toNat ∧ c.toNat ≤ 57 then 10 * a + ((c.toNat : Int) - 48) else a
/-- What the digits of a text spell, all else passed over. -/
def dv (l : List UInt8) : Int := l.foldl dvStep 0
theorem dv_snoc (l : List UInt8) (c : UInt8) : dv (l ++ [c]) = dvStep (dv l) c := by simp [dv, List.foldl_append]
theorem dv_bd (l : List UInt8) : 0 ≤ dv l ∧ dv l < (10 : Int) ^ l.length := by
  have : ∀ (l : List UInt8) (a : Int) (k : Nat), 0 ≤ a → a < (10 : Int) ^ k → 0 ≤ l.foldl dvStep a ∧ l.foldl dvStep a < (10 : Int) ^ (k + l.length) := by
    intro l
    induction l with
    | nil => intro a k h1 h2; exact ⟨h1, h2⟩
    | cons c l ih =>
      intro a k h1 h2
      have h3 : 0 ≤ dvStep a c ∧ dvStep a c < (10 : Int) ^ (k + 1) := by
        rw [Int.pow_succ]
        unfold dvStep
        split <;> omega
      have := ih (dvStep a c) (k + 1) h3.1 h3.2
      rw [show k + (c :: l).length = k + 1 + l.length by simp; omega]
      exact this
  have h := this l 0 0 (Int.le_refl _) (by decide)
  rw [Nat.zero_add] at h
  exact h
theorem ofNat_digit (a : Nat) (h : a < 10) : (UInt8.ofNat (48 + a)).toNat = 48 + a := by
  have : (48 + a) % 256 = 48 + a := Nat.mod_eq_of_lt (by omega)
  simp [this]
theorem dvStep_digit (a : Int) (d : Nat) (h : d < 10) : dvStep a (UInt8.ofNat (48 + d)) = 10 * a + d := by
  unfold dvStep
  rw [ofNat_digit d h, if_pos (by omega)]
  omega
theorem dv_dec : ∀ (u : Nat), dv (Lib.decDigits u) = u := by
  intro u
  induction u using Nat.strongRecOn with
  | _ u ih =>
    rw [dec_front]
    by_cases h : u < 10
    · rw [if_pos h, List.nil_append, Nat.mod_eq_of_lt h]
      show dvStep 0 _ = _
      rw [dvStep_digit _ _ h]; omega
    · rw [if_neg h, dv_snoc, ih (u / 10) (by omega), dvStep_digit _ _ (Nat.mod_lt _ (by decide))]
      omega
theorem dec_ne (u : Nat) : Lib.decDigits u ≠ [] := by
  rw [dec_front]
  simp
theorem dec_mem {u : Nat} {c : UInt8} (h : c ∈ Lib.decDigits u) : 48 ≤ c.toNat ∧ c.toNat ≤ 57 := by
  induction u using Nat.strongRecOn with
  | _ u ih =>
    rw [dec_front] at h
    rcases List.mem_append.1 h with h | h
    · split at h
      · cases h
      · exact ih (u / 10) (by omega) h
    · have := List.mem_singleton.1 h
      subst this
      rw [ofNat_digit _ (Nat.mod_lt _ (by decide))]
      omega
theorem dv_cons_minus (l : List UInt8) : dv (45 :: l) = dv l := by
  show l.foldl dvStep (dvStep 0 45) = _
  rfl
/-- The sign of a text. -/
def sg (l : List UInt8) (a : Int) : Int := if l.head? = some 45 then -a else a
theorem dv_itoa (n : Int) : sg (Lib.itoa n) (dv (Lib.itoa n)) = n := by
  unfold Lib.itoa sg
  split
  · rw [dv_cons_minus, dv_dec]; simp; omega
  · rw [dv_dec]
    have : ¬ (Lib.decDigits n.toNat).head? = some 45 := by
      intro e
      have hm : (45 : UInt8) ∈ Lib.decDigits n.toNat := List.mem_of_head? e
      have := (dec_mem hm).1
      exact absurd this (by decide)
    rw [if_neg this]; omega
theorem itoa_inj {n m : Int} (h : Lib.itoa n = Lib.itoa m) : n = m := by
  rw [← dv_itoa n, ← dv_itoa m, h]
theorem itoa_len {n : Int} (h1 : -1000000000000000 ≤ n) (h2 : n ≤ 1000000000000000) : 1 ≤ (Lib.itoa n).length ∧ (Lib.itoa n).length ≤ 17 := by
  have key : ∀ u : Nat, u ≤ 1000000000000000 → 1 ≤ (Lib.decDigits u).length ∧ (Lib.decDigits u).length ≤ 16 := fun u hu => by
    rw [Lib.decDigits_length]
    exact ⟨Lib.nDigits_pos u, nDigits_le 15 u (by omega)⟩
  unfold Lib.itoa
  split
  · have := key n.natAbs (by omega); simp only [List.length_cons]; omega
  · have := key n.toNat (by omega); omega

-- the library's parse reads a numeral back
theorem parseM_append (M : Nat) (c : UInt8) : ∀ (l : List UInt8) (acc a : Nat), Lib.parseUintM M acc l = .ok a → Lib.parseUintM M acc (l ++ [c]) = Lib.parseUintM M a [c]
  | [], acc, a, h => by simp only [Lib.parseUintM, Lib.NumEnd.ok.injEq] at h; subst h; rfl
  | d :: l, acc, a, h => by
    rw [List.cons_append]
    unfold Lib.parseUintM at h ⊢
    split at h
    · rename_i hd
      rw [if_pos hd]
      split at h
      · cases h
      · rename_i h1
        rw [if_neg h1]
        split at h
        · cases h
        · rename_i h2
          rw [if_neg h2]
          exact parseM_append M c l _ a h
    · cases h
theorem parseM_dec (M : Nat) : ∀ (u : Nat), u ≤ M → u ≤ 9223372036854775808 → Lib.parseUintM M 0 (Lib.decDigits u) = .ok u := by
  intro u
  induction u using Nat.strongRecOn with
  | _ u ih =>
    intro hM hu
    have step : ∀ a, a ≤ u / 10 → a * 10 + u % 10 = u → Lib.parseUintM M a [UInt8.ofNat (48 + u % 10)] = .ok u := fun a ha he => by
      unfold Lib.parseUintM
      rw [ofNat_digit _ (Nat.mod_lt _ (by decide)), if_pos (by omega), if_neg (by omega), if_neg (by omega)]
      unfold Lib.parseUintM
      rw [show a * 10 + (48 + u % 10 - 48) = u by omega]
    rw [dec_front]
    by_cases h : u < 10
    · rw [if_pos h, List.nil_append]
      exact step 0 (by omega) (by omega)
    · rw [if_neg h, parseM_append M _ _ 0 (u / 10) (ih (u / 10) (by omega) (by omega) (by omega))]
      exact step (u / 10) (Nat.le_refl _) (by omega)
theorem parse_itoa (n : Int) (h1 : -9223372036854775808 ≤ n) (h2 : n ≤ 9223372036854775807) : Lib.parseIntB 64 (Lib.itoa n) = .ok n := by
  have hp : ∀ u : Nat, u ≤ 9223372036854775808 → Lib.parseUintB 64 (Lib.decDigits u) = .ok u := fun u hu => by
    unfold Lib.parseUintB
    rw [if_neg (dec_ne u)]
    exact parseM_dec _ u (by omega) hu
  unfold Lib.itoa
  by_cases hn : n < 0
  · rw [if_pos hn]
    unfold Lib.parseIntB
    have e : (45 : UInt8).toNat = 45 := rfl
    simp only [e]
    rw [if_pos (Or.inr trivial), hp n.natAbs (by omega)]
    simp only [Nat.add_one_sub_one, not_true_eq_false, false_and, if_false, true_and, if_true]
    rw [if_neg (by omega)]
    congr 1; omega
  · rw [if_neg hn]
    cases hd : Lib.decDigits n.toNat with
    | nil => exact absurd hd (dec_ne _)
    | cons c r =>
      have hc := dec_mem (u := n.toNat) (c := c) (by rw [hd]; simp)
      have hpu := hp n.toNat (by omega)
      rw [hd] at hpu
      unfold Lib.parseIntB
      have e1 : ¬ (c.toNat = 43 ∨ c.toNat = 45) := by omega
      have e2 : ¬ c.toNat = 45 := by omega
      simp only [e2, or_false]
      rw [if_neg (fun h => e1 (Or.inl h)), hpu]
      simp only [not_false_eq_true, true_and, false_and, if_false]
      rw [if_neg (by omega)]
      congr 1; omega

/-- s is the numeral of n, and n is no greater than a value may be. -/
def IsDec (s : ByteArray) (n : Int) : Prop := -1000000000000000 ≤ n ∧ n ≤ 1000000000000000 ∧ (⟨(Lib.itoa n).toArray⟩ : ByteArray) = s
theorem IsDec.list {s : ByteArray} {n : Int} (h : IsDec s n) : s.data.toList = Lib.itoa n := by rw [← h.2.2]
theorem IsDec.parse {s : ByteArray} {n : Int} (h : IsDec s n) : Lib.parseIntB 64 s.data.toList = .ok n := by
  rw [h.list]; exact parse_itoa n (by have := h.1; omega) (by have := h.2.1; omega)
theorem IsDec.spelt {s : ByteArray} {n : Int} (h : IsDec s n) : sg s.data.toList (dv s.data.toList) = n := by rw [h.list]; exact dv_itoa n
theorem IsDec.len {s : ByteArray} {n : Int} (h : IsDec s n) : 1 ≤ s.size ∧ s.size ≤ 17 := by
  have e : s.size = (Lib.itoa n).length := by rw [← h.list]; simp
  rw [e]; exact itoa_len h.1 h.2.1
end Go.Proofs.YtmlodheanckadaaDoor
