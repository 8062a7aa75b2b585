/-
  Texts of lists, plain: pieces with commas between them; none for an empty list. No condition.
-/
import Derived.Lib.Join
namespace Go.Proofs.YtmlodheanckadaaDoor
set_option linter.unusedVariables false
set_option linter.unusedSimpArgs false

/-- The first k pieces with commas between them. -/
def numsT (g : Nat → List UInt8) (k : Nat) : List UInt8 := Lib.join ((List.range k).map g) [44]
/-- The text of a list. -/
def textL (g : Nat → List UInt8) (len : Nat) : List UInt8 := if len = 0 then [110, 111, 110, 101] else numsT g len

theorem joinTail_snoc (sep : List UInt8) (r : List (List UInt8)) (y : List UInt8) : Lib.joinTail sep (r ++ [y]) = Lib.joinTail sep r ++ (sep ++ y) := by
  simp [Lib.joinTail]
theorem range_map_succ (g : Nat → List UInt8) (k : Nat) : (List.range (k + 1)).map g = g 0 :: (List.range k).map (fun i => g (i + 1)) := by
  rw [List.range_succ_eq_map, List.map_cons, List.map_map]
  rfl
theorem numsT_one (g : Nat → List UInt8) : numsT g 1 = g 0 := by
  unfold numsT
  rw [show (List.range 1).map g = [g 0] from rfl, Lib.join_one]
theorem numsT_succ (g : Nat → List UInt8) (k : Nat) (h : 1 ≤ k) : numsT g (k + 1) = numsT g k ++ (44 :: g k) := by
  obtain ⟨j, rfl⟩ : ∃ j, k = j + 1 := ⟨k - 1, by omega⟩
  unfold numsT
  rw [range_map_succ g (j + 1), Lib.join_cons, range_map_succ g j, Lib.join_cons, List.range_succ, List.map_append, List.map_cons, List.map_nil, joinTail_snoc]
  simp
theorem numsT_len (g : Nat → List UInt8) (m : Nat) : ∀ (k : Nat), (∀ i, i < k → (g i).length ≤ m) → (numsT g k).length ≤ k * (m + 1)
  | 0, _ => by simp [numsT, Lib.join_nil]
  | 1, h => by rw [numsT_one]; have := h 0 (by omega); omega
  | k + 2, h => by
    rw [numsT_succ g (k + 1) (by omega), List.length_append, List.length_cons]
    have h1 := numsT_len g m (k + 1) (fun i hi => h i (by omega))
    have h2 := h (k + 1) (by omega)
    have : (k + 2) * (m + 1) = (k + 1) * (m + 1) + (m + 1) := by rw [← Nat.succ_mul]
    omega
theorem numsT_congr {g h : Nat → List UInt8} {k : Nat} (e : ∀ i, i < k → g i = h i) : numsT g k = numsT h k := by
  unfold numsT
  congr 1
  exact List.map_congr_left fun i hi => e i (List.mem_range.1 hi)
/-- The pieces as strings. -/
def strsOf (g : Nat → List UInt8) (k : Nat) : List ByteArray := (List.range k).map fun i => ⟨(g i).toArray⟩
theorem strsOf_len (g : Nat → List UInt8) (k : Nat) : (strsOf g k).length = k := by simp [strsOf]
theorem strsOf_succ (g : Nat → List UInt8) (k : Nat) : strsOf g (k + 1) = strsOf g k ++ [⟨(g k).toArray⟩] := by
  unfold strsOf
  rw [List.range_succ, List.map_append]
  rfl
theorem strsOf_lists (g : Nat → List UInt8) (k : Nat) : (strsOf g k).map (·.data.toList) = (List.range k).map g := by
  unfold strsOf
  rw [List.map_map]
  exact List.map_congr_left fun i _ => rfl
theorem textL_strs (g : Nat → List UInt8) (k : Nat) : textL g k = (if (strsOf g k).length = 0 then [110, 111, 110, 101] else Lib.join ((strsOf g k).map (·.data.toList)) [44]) := by
  rw [strsOf_len, strsOf_lists]
  rfl
end Go.Proofs.YtmlodheanckadaaDoor
