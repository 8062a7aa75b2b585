/-
  Reading hexadecimal digits, plain: as the library reads them and as they are written. No condition.
-/
import Derived.Test.YtmlodheanckadaaDoorHexP
import Derived.Test.YtmlodheanckadaaDoorCutP
import Derived.Test.YtmlodheanckadaaDoorTxtP
namespace Go.Proofs.YtmlodheanckadaaDoor
set_option linter.unusedVariables false
set_option linter.unusedSimpArgs false

/-- The digit that a byte is to the library (letters of both cases). -/
def dgL (c : Nat) : Option Nat :=
  if 48 ≤ c ∧ c ≤ 57 then some (c - 48)
  else if 97 ≤ (c ||| 32) ∧ (c ||| 32) ≤ 122 then (if (c ||| 32) - 97 + 10 < 16 then some ((c ||| 32) - 97 + 10) else none) else none
theorem dgL_lt {c d : Nat} (h : dgL c = some d) : d < 16 := by
  unfold dgL at h
  split at h
  · cases h; omega
  · split at h
    · split at h
      · cases h; assumption
      · cases h
    · cases h
theorem dgL_hd (d : Nat) (h : d < 16) : dgL (hd d).toNat = some d := by
  have : ∀ d : Fin 16, dgL (hd d.val).toNat = some d.val := by decide +kernel
  exact this ⟨d, h⟩
def pStep (a : Option Nat) (c : UInt8) : Option Nat := a.bind fun n => (dgL c.toNat).map fun d => 16 * n + d
/-- What the library reads. -/
def parH (l : List UInt8) : Option Nat := l.foldl pStep (some 0)
theorem parH_snoc (l : List UInt8) (c : UInt8) : parH (l ++ [c]) = pStep (parH l) c := by simp [parH, List.foldl_append]
theorem foldl_none (l : List UInt8) : l.foldl pStep none = none := by
  induction l with
  | nil => rfl
  | cons c l ih => exact ih
theorem parH_lt : ∀ (l : List UInt8) (n : Nat), parH l = some n → n < 16 ^ l.length := by
  have : ∀ (l : List UInt8) (a k n : Nat), a < 16 ^ k → l.foldl pStep (some a) = some n → n < 16 ^ (k + l.length) := by
    intro l
    induction l with
    | nil => intro a k n h1 h2; cases h2; exact h1
    | cons c l ih =>
      intro a k n h1 h2
      rw [List.foldl_cons] at h2
      cases hd : dgL c.toNat with
      | none =>
        rw [show pStep (some a) c = none by simp [pStep, hd], foldl_none] at h2
        cases h2
      | some d =>
        rw [show pStep (some a) c = some (16 * a + d) by simp [pStep, hd]] at h2
        have := ih (16 * a + d) (k + 1) n (by have := dgL_lt hd; rw [Nat.pow_succ]; omega) h2
        rw [List.length_cons, show k + (l.length + 1) = k + 1 + l.length by omega]
        exact this
  intro l n h
  have := this l 0 0 n (by decide) h
  rwa [Nat.zero_add] at this
theorem parH_hexN : ∀ (k n : Nat), n < 16 ^ k → parH (hexN k n) = some n
  | 0, n, h => by
    have : n = 0 := by simp at h; exact h
    subst this
    rfl
  | k + 1, n, h => by
    unfold hexN
    rw [parH_snoc, parH_hexN k (n / 16) (Nat.div_lt_of_lt_mul (by rw [Nat.pow_succ] at h; omega))]
    unfold pStep
    rw [dgL_hd _ (Nat.mod_lt _ (by decide))]
    show some (16 * (n / 16) + n % 16) = _
    congr 1; omega

/-- The digit that a byte is where only small letters count; -1 for none. -/
def dgS (c : Nat) : Option Nat := if 48 ≤ c ∧ c ≤ 57 then some (c - 48) else if 97 ≤ c ∧ c ≤ 102 then some (c - 97 + 10) else none
theorem dgS_hd {c : UInt8} {d : Nat} (h : dgS c.toNat = some d) : d < 16 ∧ hd d = c := by
  have : ∀ c : Fin 256, ∀ d, dgS c.val = some d → d < 16 ∧ (hd d).toNat = c.val := by
    intro c d h
    unfold dgS at h
    split at h
    · cases h
      refine ⟨by omega, ?_⟩
      rcases hd_range (c.val - 48) (by omega) with h' | h' <;> omega
    · split at h
      · cases h
        refine ⟨by omega, ?_⟩
        rcases hd_range (c.val - 97 + 10) (by omega) with h' | h' <;> omega
      · cases h
  have := this ⟨c.toNat, c.toNat_lt⟩ d h
  exact ⟨this.1, UInt8.toNat_inj.1 this.2⟩
theorem dgS_of_hd (d : Nat) (h : d < 16) : dgS (hd d).toNat = some d := by
  have : ∀ d : Fin 16, dgS (hd d.val).toNat = some d.val := by decide +kernel
  exact this ⟨d, h⟩

/-- The first k bytes are digits, and n is their number. -/
def SmallUp (l : List UInt8) (k n : Nat) : Prop := n < 16 ^ k ∧ l.take k = hexN k n
theorem smallUp_zero (l : List UInt8) : SmallUp l 0 0 := ⟨by decide, by simp [hexN]⟩
theorem smallUp_step {l : List UInt8} {k n d : Nat} {c : UInt8} (h : SmallUp l k n) (hc : l[k]? = some c) (hd' : dgS c.toNat = some d) : SmallUp l (k + 1) (16 * n + d) := by
  obtain ⟨h1, h2⟩ := h
  obtain ⟨g1, g2⟩ := dgS_hd hd'
  refine ⟨by rw [Nat.pow_succ]; omega, ?_⟩
  rw [List.take_add_one, hc, h2]
  show hexN k n ++ [c] = hexN k ((16 * n + d) / 16) ++ [hd ((16 * n + d) % 16)]
  rw [show (16 * n + d) / 16 = n by omega, show (16 * n + d) % 16 = d by omega, g2]
theorem hexN_get {k n i : Nat} {c : UInt8} (h : (hexN k n)[i]? = some c) : ∃ d, dgS c.toNat = some d := by
  obtain ⟨d, hd1, rfl⟩ := hexN_mem k n c (List.mem_of_getElem? h)
  exact ⟨d, dgS_of_hd d hd1⟩
theorem hexN_inj {k n m : Nat} (hn : n < 16 ^ k) (hm : m < 16 ^ k) (h : hexN k n = hexN k m) : n = m := by
  have a := parH_hexN k n hn
  rw [h, parH_hexN k m hm] at a
  exact (Option.some.inj a).symm
theorem hexN_no44 (k n : Nat) : (44 : UInt8) ∉ hexN k n := by
  intro h
  obtain ⟨d, hd1, e⟩ := hexN_mem k n 44 h
  rcases hd_range d hd1 with h' | h' <;> (rw [← e] at h'; have h44 : (44 : UInt8).toNat = 44 := rfl; omega)

-- cutting what was joined
theorem numsT_cut (g : Nat → List UInt8) (hg : ∀ i, (44 : UInt8) ∉ g i) : ∀ (k : Nat), 1 ≤ k → cutL 44 (numsT g k) = (List.range k).map g := by
  have tail : ∀ (r : List (List UInt8)) (x : List UInt8), (∀ y ∈ x :: r, (44 : UInt8) ∉ y) → cutL 44 (x ++ Lib.joinTail [44] r) = x :: r := by
    intro r
    induction r with
    | nil => intro x h; rw [show Lib.joinTail [44] [] = [] from rfl, List.append_nil, cutL_no 44 x (h x (by simp))]
    | cons y r ih =>
      intro x h
      have e : Lib.joinTail [44] (y :: r) = 44 :: (y ++ Lib.joinTail [44] r) := by simp [Lib.joinTail]
      rw [e, cutL_at 44 _ x (h x (by simp)), ih y (fun z hz => h z (by simp only [List.mem_cons] at hz ⊢; exact Or.inr hz))]
  intro k hk
  obtain ⟨j, rfl⟩ : ∃ j, k = j + 1 := ⟨k - 1, by omega⟩
  unfold numsT
  rw [range_map_succ, Lib.join_cons, tail]
  intro y hy
  rcases List.mem_cons.1 hy with rfl | hy
  · exact hg 0
  · obtain ⟨i, _, rfl⟩ := List.mem_map.1 hy
    exact hg (i + 1)
theorem join_cut : ∀ (l : List UInt8), Lib.join (cutL 44 l) [44] = l
  | [] => rfl
  | b :: l => by
    have ih := join_cut l
    unfold cutL
    split
    · rename_i h
      subst h
      cases hc : cutL 44 l with
      | nil => exact absurd hc (cutL_ne 44 l)
      | cons x r =>
        rw [hc, Lib.join_cons] at ih
        rw [Lib.join_cons]
        show [] ++ Lib.joinTail [44] (x :: r) = _
        rw [show Lib.joinTail [44] (x :: r) = 44 :: (x ++ Lib.joinTail [44] r) by simp [Lib.joinTail], ih]
        rfl
    · split
      · rename_i x r e
        rw [e, Lib.join_cons] at ih
        rw [Lib.join_cons, ← ih]
        rfl
      · rename_i e; exact absurd e (cutL_ne 44 l)
end Go.Proofs.YtmlodheanckadaaDoor
