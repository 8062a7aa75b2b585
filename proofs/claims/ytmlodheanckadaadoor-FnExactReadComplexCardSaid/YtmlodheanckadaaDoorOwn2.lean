/-
  Appending to an empty row that the call itself has laid: what was there stays, the row is a new block. No condition.
-/
import Derived.Test.YtmlodheanckadaaDoorOwn
namespace Go.Proofs.YtmlodheanckadaaDoor
open Go.RowKit Go.Deep
set_option linter.unusedVariables false
set_option linter.unusedSimpArgs false

theorem run_append_empty {P : Program} (w : World) (t ty e : TypeId) (i : TypeInfo) (z : Value) (ht : P.underlying t = some (.slice e)) (hi : P.info? e = some i) (hz : i.zero = some z) (hsz : i.size = 1) (hby : i.bytes ≤ 1000)
    (b : Addr) (a : Addr) (c : Nat) (y : Value) (hy : ∀ j v, [y][j]? = some v → w.cell? (a.add j) = some v) :
    (Builtin.append_ #[t, t] ty #[.slice (some b) 0 0, .slice (some a) 1 c]).run P w = (Builtin.append_ #[t, t] ty #[.slice none 0 0, .slice (some a) 1 c]).run P w := by
  have hl : [y].length = 1 * i.size := by rw [hsz]; rfl
  rw [run_append_grow (P := P) w t ty e i z ht hi hz b 0 0 [] (by simp) (fun j v h => by simp at h) a 1 c [y] hl hy (by omega) (by decide) (growslice_fits (by omega) (by omega))]
  rw [run_append_nil (P := P) w t ty e i z ht hi hz a 1 c [y] hl hy (by omega) (by decide) (by omega)]
  simp

theorem wpList_append_empty {P : Program} (w : World) {ops : Array Oper} {rest : List Oper} {o : Oper} {a : Act} {Q : Exit → Act → World → Prop} (hgd : o.guard = none) (s x : Operand) (t : TypeId)
    (ho : o.op = .call { callee := .builtin .append, args := #[s, x], argTypes := #[t, t] })
    (base : Nat) (e : TypeId) (i : TypeInfo) (z : Value) (bytes : Nat) (ht : P.underlying t = some (.slice e)) (hi : P.info? e = some i) (hz : i.zero = some z)
    (hsize : i.size = 1) (hby : i.bytes = bytes) (hb1000 : bytes ≤ 1000) (hzs : z.cells.size = 1)
    (b : Addr) (hs : a.eval s = .slice (some b) 0 0)
    (ad : Addr) (c : Nat) (y : Value) (hx : a.eval x = .slice (some ad) 1 c) (hnews : ∀ j u, [y][j]? = some u → w.cell? (ad.add j) = some u) (h1 : y.oneCell' = true)
    (hbase : base ≤ w.heap.size)
    (h : ∀ v' w', w'.ownsRow base e 1 v' 1 [y] → w.grownBy w' none → v' ≠ .slice none 0 0 → wpList P ops Q rest (a.put o.dst v') w') : wpList P ops Q (o :: rest) a w := by
  obtain ⟨v', w', hr, h2, h3, h4⟩ := run_append_own (P := P) w base t o.type e i z 1 bytes ht hi hz hsize hby hzs (by decide) (.slice none 0 0) 0 [] (World.ownsRow_nil w base e 1) ad 1 c [y] rfl hnews
    (fun u hu => by rw [List.mem_singleton.1 hu]; exact h1) (by unfold maxLen; omega) (by omega) hbase
  have hr2 := (run_append_empty (P := P) w t o.type e i z ht hi hz hsize (by omega) b ad c y hnews).trans hr
  refine wpList_plain hgd fun _ hK => ?_
  unfold Oper.wp execOp
  simp only [ho, resolve, invoke, builtin, Sem.run_bind, Sem.run_pure, Result.andThen_ok, List.map_toArray, List.map_cons, List.map_nil, hs, hx, hr2]
  exact hK _ _ (h v' w' (by simpa using h2) h3 (fun e => absurd (h4.1 e).2 (by decide)))

/-- A row under way: empty and where it was laid, or of the call's own past w. -/
def OutAt (w wr : World) (b : Nat) (T : TypeId) (v : Value) (xs : List Value) : Prop :=
  (xs = [] ∧ v = .slice (some ⟨b, 0, none⟩) 0 0 ∧ w.Since w.heap.size wr) ∨ OwnV w wr w.heap.size T v xs
theorem OutAt.since {w wr : World} {b : Nat} {T : TypeId} {v : Value} {xs : List Value} (h : OutAt w wr b T v xs) : w.Since w.heap.size wr := by
  rcases h with ⟨_, _, h⟩ | h
  · exact h
  · exact h.1
theorem outAt_since {w wr u : World} {b : Nat} {T : TypeId} {v : Value} {xs : List Value} (h : OutAt w wr b T v xs) (s : wr.Since wr.heap.size u) : OutAt w u b T v xs := by
  rcases h with ⟨h1, h2, h3⟩ | h
  · exact .inl ⟨h1, h2, h3.trans (since_mono s h3.size)⟩
  · exact .inr (ownV_since h s)

theorem wpList_append_out {P : Program} (W : World) {ops : Array Oper} {rest : List Oper} {o : Oper} {a : Act} {Q : Exit → Act → World → Prop} (hgd : o.guard = none) (s x : Operand) (t : TypeId)
    (ho : o.op = .call { callee := .builtin .append, args := #[s, x], argTypes := #[t, t] })
    (u w : World) (b : Nat) (T : TypeId) (i : TypeInfo) (z : Value) (bytes : Nat) (ht : P.underlying t = some (.slice T)) (hi : P.info? T = some i) (hz : i.zero = some z)
    (hsize : i.size = 1) (hby : i.bytes = bytes) (hb1000 : bytes ≤ 1000) (hzs : z.cells.size = 1)
    (v : Value) (xs : List Value) (hs : a.eval s = v) (hO : OutAt w u b T v xs) (hlen : xs.length ≤ 4000000)
    (c : Nat) (y : Value) (hW : W = u.alloc (.cells #[y] T)) (hx : a.eval x = .slice (some ⟨u.heap.size, 0, none⟩) 1 c) (h1 : y.oneCell' = true)
    (h : ∀ v' w', OwnV w w' w.heap.size T v' (xs ++ [y]) → wpList P ops Q rest (a.put o.dst v') w') : wpList P ops Q (o :: rest) a W := by
  subst hW
  rcases hO with ⟨rfl, rfl, hS⟩ | hO
  · refine wpList_append_empty _ hgd s x t ho w.heap.size T i z bytes ht hi hz hsize hby hb1000 hzs _ hs ⟨u.heap.size, 0, none⟩ c y hx (cell_one_new _ _ _) h1 (by have := hS.size; simp; omega) ?_
    intro v' w' hown hg hne
    have hS1 := hS.alloc hS.size (.cells #[y] T)
    have hS2 := hS1.grown hg hS1.size (fun k hk => by cases hk)
    exact h v' w' ⟨hS2, Nat.le_refl _, hS2.size, hown, hne⟩
  · refine wpList_append_own _ hgd s x t ho w.heap.size T i z 1 bytes ht hi hz hsize hby hzs (by decide) v _ xs hs (hO.2.2.2.1.alloc _) ⟨u.heap.size, 0, none⟩ 1 c [y] hx rfl (cell_one_new _ _ _)
      (fun u hu => by rw [List.mem_singleton.1 hu]; exact h1) (by unfold maxLen; omega) (Nat.le_trans (Nat.mul_le_mul (show xs.length + 1 ≤ 4000001 by omega) hb1000) (by omega)) (by have := hO.2.2.1; simp; omega) ?_
    intro v' w' hown hg hnil
    exact h v' w' (ownV_add hO hown hg (fun e => absurd (hnil.1 e).2 (by decide)))
end Go.Proofs.YtmlodheanckadaaDoor
