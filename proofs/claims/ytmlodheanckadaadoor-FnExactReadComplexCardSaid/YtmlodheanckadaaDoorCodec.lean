/-
  Lists read back from their text, plain: pieces of one length between commas, each the text of one value. No condition.
-/
import Derived.Test.YtmlodheanckadaaDoorHexQ
namespace Go.Proofs.YtmlodheanckadaaDoor
set_option linter.unusedVariables false
set_option linter.unusedSimpArgs false

/-- How values are written and read. -/
structure Codec (α : Type) where
  enc : α → List UInt8
  norm : α → α
  rng : α → Prop
  pv : ByteArray → α
  len : Nat
  hlen : ∀ n, (enc n).length = len
  h44 : ∀ n, (44 : UInt8) ∉ enc n
  hpv : ∀ n, rng n → pv ⟨(enc n).toArray⟩ = n
  hrng : ∀ x : ByteArray, x.size = len → rng (pv x)
  hnorm : ∀ n, rng n → rng (norm n)

namespace Codec
variable {α : Type} (C : Codec α)
/-- x is the text of n. -/
def Is (x : ByteArray) (n : α) : Prop := C.rng n ∧ C.norm n = n ∧ x = ⟨(C.enc n).toArray⟩
theorem Is.pv {C : Codec α} {x : ByteArray} {n : α} (h : C.Is x n) : C.pv x = n := by rw [h.2.2]; exact C.hpv n h.1
theorem Is.size {C : Codec α} {x : ByteArray} {n : α} (h : C.Is x n) : x.size = C.len := by
  rw [h.2.2]
  show (C.enc n).toArray.size = _
  rw [List.size_toArray, C.hlen]
theorem Is.uniq {C : Codec α} {x : ByteArray} {n m : α} (h : C.Is x n) (h' : C.Is x m) : n = m := h.pv.symm.trans h'.pv
/-- The values of the first pieces. -/
def Up (P : List ByteArray) (k : Nat) (ns : List α) : Prop := ns.length = k ∧ ∀ (i : Nat) x n, P[i]? = some x → ns[i]? = some n → C.Is x n
theorem up_zero (P : List ByteArray) : C.Up P 0 [] := ⟨rfl, fun i x n _ h => by simp at h⟩
theorem up_step {P : List ByteArray} {k : Nat} {ns : List α} {x : ByteArray} {n : α} (h : C.Up P k ns) (hx : P[k]? = some x) (hd : C.Is x n) : C.Up P (k + 1) (ns ++ [n]) := by
  obtain ⟨h1, h2⟩ := h
  refine ⟨by simp [h1], fun i y m hy hm => ?_⟩
  by_cases e : i < k
  · rw [List.getElem?_append_left (by omega)] at hm
    exact h2 i y m hy hm
  · have hi : i < (ns ++ [n]).length := (List.getElem?_eq_some_iff.1 hm).1
    rw [List.length_append, List.length_singleton] at hi
    obtain rfl : i = k := by omega
    rw [hx] at hy
    rw [List.getElem?_append_right (by omega), h1, Nat.sub_self] at hm
    obtain rfl := Option.some.inj hy
    obtain rfl := Option.some.inj hm
    exact hd
theorem up_bad {P : List ByteArray} {k : Nat} {x : ByteArray} (hx : P[k]? = some x) (hd : ∀ n, ¬ C.Is x n) : ∀ ns, ¬ C.Up P P.length ns := by
  rintro ns ⟨h1, h2⟩
  have hk : k < P.length := (List.getElem?_eq_some_iff.1 hx).1
  exact hd _ (h2 k x _ hx (List.getElem?_eq_getElem (by omega)))
theorem up_uniq {P : List ByteArray} {ns ms : List α} (h : C.Up P P.length ns) (h' : C.Up P P.length ms) : ns = ms := by
  apply List.ext_getElem (by rw [h.1, h'.1])
  intro i hi hi'
  have hp : i < P.length := by rw [← h.1]; exact hi
  exact (h.2 i _ _ (List.getElem?_eq_getElem hp) (List.getElem?_eq_getElem hi)).uniq (h'.2 i _ _ (List.getElem?_eq_getElem hp) (List.getElem?_eq_getElem hi'))

/-- What is read of the i-th piece, whatever it is. -/
def at_ (s : ByteArray) (i : Nat) : α := C.pv ((cutB s).getD i ByteArray.empty)
theorem at_some {s x : ByteArray} {i : Nat} (h : (cutB s)[i]? = some x) : C.at_ s i = C.pv x := by
  unfold at_
  rw [List.getD_eq_getElem?_getD, h]; rfl
/-- The text of what was read. -/
def text (s : ByteArray) : List UInt8 := numsT (fun i => C.enc (C.norm (C.at_ s i))) (cutB s).length
theorem cutB_pos (s : ByteArray) : 1 ≤ (cutB s).length := by rw [cutB_len]; omega
theorem read_fits {s : ByteArray} (hsz : ∀ (i : Nat) (x : ByteArray), (cutB s)[i]? = some x → x.size = C.len) (ht : s.data.toList = C.text s) :
    ∀ (i : Nat) (x : ByteArray), (cutB s)[i]? = some x → C.Is x (C.at_ s i) := by
  intro i x hx
  have hi : i < (cutB s).length := (List.getElem?_eq_some_iff.1 hx).1
  have hr : C.rng (C.at_ s i) := by rw [C.at_some hx]; exact C.hrng x (hsz i x hx)
  have hc : cutL 44 s.data.toList = (List.range (cutB s).length).map fun i => C.enc (C.norm (C.at_ s i)) := by
    conv => lhs; rw [ht]
    exact numsT_cut _ (fun i => C.h44 _) _ (cutB_pos s)
  have hx' : x = ⟨(C.enc (C.norm (C.at_ s i))).toArray⟩ := by
    have e : (cutB s)[i]? = some ⟨(C.enc (C.norm (C.at_ s i))).toArray⟩ := by
      show ((cutL 44 s.data.toList).map fun l => (⟨l.toArray⟩ : ByteArray))[i]? = _
      rw [hc, List.getElem?_map, List.getElem?_map, List.getElem?_range hi]
      rfl
    rw [hx] at e
    exact Option.some.inj e
  have hn : C.norm (C.at_ s i) = C.at_ s i := by
    have e := C.hpv _ (C.hnorm _ hr)
    rw [← hx', ← C.at_some hx] at e
    exact e.symm
  exact ⟨hr, hn, by rw [hn] at hx'; exact hx'⟩
theorem fits_read {s : ByteArray} {ns : List α} (h : C.Up (cutB s) (cutB s).length ns) :
    (∀ (i : Nat) (x : ByteArray), (cutB s)[i]? = some x → x.size = C.len) ∧ s.data.toList = C.text s ∧ ∀ (i : Nat) (n : α), ns[i]? = some n → C.at_ s i = n := by
  have hget : ∀ (i : Nat) (x : ByteArray), (cutB s)[i]? = some x → ∃ n, ns[i]? = some n ∧ C.Is x n := fun i x hx => by
    have hi : i < ns.length := by rw [h.1]; exact (List.getElem?_eq_some_iff.1 hx).1
    exact ⟨_, List.getElem?_eq_getElem hi, h.2 i x _ hx (List.getElem?_eq_getElem hi)⟩
  refine ⟨fun i x hx => ?_, ?_, fun i n hn => ?_⟩
  · obtain ⟨n, _, hI⟩ := hget i x hx
    exact hI.size
  · have hc : cutL 44 s.data.toList = (List.range (cutB s).length).map fun i => C.enc (C.norm (C.at_ s i)) := by
      have hl : (cutL 44 s.data.toList).length = (cutB s).length := by unfold cutB; rw [List.length_map]
      apply List.ext_getElem (by simp [hl])
      intro i h1 h2
      have hx : (cutB s)[i]? = some ⟨((cutL 44 s.data.toList)[i]).toArray⟩ := by
        show ((cutL 44 s.data.toList).map fun l => (⟨l.toArray⟩ : ByteArray))[i]? = _
        rw [List.getElem?_map, List.getElem?_eq_getElem h1]
        rfl
      obtain ⟨n, _, hI⟩ := hget i _ hx
      have e1 : C.at_ s i = n := (C.at_some hx).trans hI.pv
      have e2 : (⟨((cutL 44 s.data.toList)[i]).toArray⟩ : ByteArray) = ⟨(C.enc n).toArray⟩ := hI.2.2
      have e3 : (cutL 44 s.data.toList)[i] = C.enc n := by
        have := congrArg (fun b : ByteArray => b.data.toList) e2
        simpa using this
      rw [e3]
      simp [e1, hI.2.1]
    have hj := join_cut s.data.toList
    rw [hc] at hj
    exact hj.symm
  · have hi : i < (cutB s).length := by rw [← h.1]; exact (List.getElem?_eq_some_iff.1 hn).1
    have hx := List.getElem?_eq_getElem hi
    exact (C.at_some hx).trans (h.2 i _ n hx hn).pv
/-- The values that were read, as a list. -/
def vals (s : ByteArray) : List α := (List.range (cutB s).length).map (C.at_ s)
theorem vals_up {s : ByteArray} (h : ∀ (i : Nat) (x : ByteArray), (cutB s)[i]? = some x → C.Is x (C.at_ s i)) : C.Up (cutB s) (cutB s).length (C.vals s) := by
  refine ⟨by simp [vals], fun i x n hx hn => ?_⟩
  have hi : i < (cutB s).length := (List.getElem?_eq_some_iff.1 hx).1
  unfold vals at hn
  rw [List.getElem?_map, List.getElem?_range hi] at hn
  obtain rfl := Option.some.inj hn
  exact h i x hx
end Codec
end Go.Proofs.YtmlodheanckadaaDoor
