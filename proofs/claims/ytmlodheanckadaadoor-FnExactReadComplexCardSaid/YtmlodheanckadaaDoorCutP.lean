/-
  Cutting a text at commas, plain: what the library's Split computes at a mark of one byte is the plain cut. No condition.
-/
import Derived.Lib.Split
import Derived.Lib.SplitLaws
import Derived.Lib.IndexBytes
namespace Go.Proofs.YtmlodheanckadaaDoor
set_option linter.unusedVariables false
set_option linter.unusedSimpArgs false

/-- A text cut at all marks c. -/
def cutL (c : UInt8) : List UInt8 → List (List UInt8)
  | [] => [[]]
  | b :: l => if b = c then [] :: cutL c l else (match cutL c l with | h :: t => (b :: h) :: t | [] => [[b]])
theorem cutL_ne (c : UInt8) : ∀ l, cutL c l ≠ []
  | [] => by simp [cutL]
  | b :: l => by
    unfold cutL
    split
    · simp
    · split <;> simp
theorem cutL_no (c : UInt8) : ∀ (l : List UInt8), c ∉ l → cutL c l = [l]
  | [], _ => rfl
  | b :: l, h => by
    unfold cutL
    rw [if_neg (fun e => h (by simp [e])), cutL_no c l (fun e => h (by simp [e]))]
theorem cutL_at (c : UInt8) (r : List UInt8) : ∀ (a : List UInt8), c ∉ a → cutL c (a ++ c :: r) = a :: cutL c r
  | [], _ => by show cutL c (c :: r) = _; rw [cutL, if_pos rfl]
  | b :: a, h => by
    show cutL c (b :: (a ++ c :: r)) = _
    rw [cutL, if_neg (fun e => h (by simp [e])), cutL_at c r a (fun e => h (by simp [e]))]
theorem cutL_mem (c : UInt8) : ∀ (l p : List UInt8), p ∈ cutL c l → p.length ≤ l.length
  | [], p, h => by simp [cutL] at h; simp [h]
  | b :: l, p, h => by
    unfold cutL at h
    split at h
    · rcases List.mem_cons.1 h with rfl | h
      · simp
      · have := cutL_mem c l p h; simp; omega
    · split at h
      · rename_i hd tl e
        rcases List.mem_cons.1 h with rfl | h
        · have := cutL_mem c l hd (by rw [e]; simp); simp; omega
        · have := cutL_mem c l p (by rw [e]; simp [h]); simp; omega
      · rename_i e; exact absurd e (cutL_ne c l)
theorem cutL_len (c : UInt8) : ∀ (l : List UInt8), (cutL c l).length = l.count c + 1
  | [] => rfl
  | b :: l => by
    unfold cutL
    have ih := cutL_len c l
    split
    · rename_i h; subst h; rw [List.length_cons, ih, List.count_cons_self]
    · rename_i h
      rw [List.count_cons_of_ne (by simpa using h)]
      split
      · rename_i hd tl e; rw [e] at ih; simpa using ih
      · rename_i e; exact absurd e (cutL_ne c l)

theorem splitK_cut (c : UInt8) : ∀ (k : Nat) (l : List UInt8), l.count c = k → Lib.splitK [c] 0 k l = cutL c l
  | 0, l, h => by rw [cutL_no c l (List.count_eq_zero.1 h)]; rfl
  | k + 1, l, h => by
    have hm : c ∈ l := List.count_pos_iff.1 (by omega)
    obtain ⟨o, ho⟩ : ∃ o : Nat, Lib.indexByte l c = (o : Int) := by
      have h1 := Lib.indexByte_ge l c
      refine ⟨(Lib.indexByte l c).toNat, ?_⟩
      by_cases e : Lib.indexByte l c = -1
      · obtain ⟨i, hi, he⟩ := List.getElem_of_mem hm
        exact absurd (by rw [List.getElem?_eq_getElem hi, he]) (Lib.indexByte_none e i)
      · omega
    obtain ⟨g1, g2⟩ := Lib.indexByte_some ho
    have hol : o < l.length := (List.getElem?_eq_some_iff.1 g1).1
    have hsplit : l = l.take o ++ c :: l.drop (o + 1) := by
      have e : l.drop o = c :: l.drop (o + 1) := by
        rw [List.drop_eq_getElem_cons hol]
        rw [(List.getElem?_eq_some_iff.1 g1).2]
      rw [← e, List.take_append_drop]
    have hno : c ∉ l.take o := by
      intro hc
      obtain ⟨i, hi, he⟩ := List.getElem_of_mem hc
      rw [List.length_take] at hi
      exact g2 i (by omega) (by rw [← he, List.getElem_take, List.getElem?_eq_getElem])
    have hcount : (l.drop (o + 1)).count c = k := by
      have := congrArg (List.count c) hsplit
      rw [List.count_append, List.count_eq_zero.2 hno, List.count_cons_self, h] at this
      omega
    unfold Lib.splitK
    rw [Lib.index_one, ho, if_neg (by simp)]
    simp only [Nat.add_zero, Int.toNat_natCast, List.length_singleton]
    rw [splitK_cut c k _ hcount]
    conv => rhs; rw [hsplit]
    rw [cutL_at c _ _ hno]

/-- The pieces of a text between commas. -/
def cutB (s : ByteArray) : List ByteArray := (cutL 44 s.data.toList).map fun l => ⟨l.toArray⟩
theorem cutB_len (s : ByteArray) : (cutB s).length = s.data.toList.count 44 + 1 := by rw [cutB, List.length_map, cutL_len]
theorem cutB_size {s p : ByteArray} (h : p ∈ cutB s) : p.size ≤ s.size := by
  obtain ⟨l, hl, rfl⟩ := List.mem_map.1 h
  have := cutL_mem 44 _ _ hl
  show l.toArray.size ≤ s.data.size
  rw [List.size_toArray, ← Array.length_toList]
  exact this
theorem countB_comma (s : ByteArray) : Lib.countB s ⟨#[44]⟩ = s.data.toList.count 44 := by
  unfold Lib.countB
  exact Lib.count_one 44 _
theorem splitB_cut (s : ByteArray) : Lib.splitB ⟨#[44]⟩ 0 (Lib.countB s ⟨#[44]⟩) s = cutB s := by
  have h := Lib.splitB_data ⟨#[44]⟩ 0 (Lib.countB s ⟨#[44]⟩) s
  rw [countB_comma] at h ⊢
  rw [show (⟨#[44]⟩ : ByteArray).data.toList = [44] from rfl, splitK_cut 44 _ _ rfl] at h
  unfold cutB
  rw [← h, List.map_map]
  symm
  conv => rhs; rw [← List.map_id (Lib.splitB ⟨#[44]⟩ 0 _ s)]
  apply List.map_congr_left
  intro b _
  rfl
end Go.Proofs.YtmlodheanckadaaDoor
