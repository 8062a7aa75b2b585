/-
  Appending one element to a row under way, as one step of a region that draws its order. No condition but those that the theorem names.
-/
import Derived.Test.YtmlodheanckadaaDoorOwn2
namespace Go.Proofs.YtmlodheanckadaaDoor
open Go.RowKit Go.Deep
set_option linter.unusedVariables false
set_option linter.unusedSimpArgs false

theorem wp_append_empty {P : Program} (w : World) {o : Oper} {a : Act} {K : Act → World → Prop} {Q : Exit → Act → World → Prop} (s x : Operand) (t : TypeId)
    (ho : o.op = .call { callee := .builtin .append, args := #[s, x], argTypes := #[t, t] })
    (base : Nat) (e : TypeId) (i : TypeInfo) (z : Value) (bytes : Nat) (ht : P.underlying t = some (.slice e)) (hi : P.info? e = some i) (hz : i.zero = some z)
    (hsize : i.size = 1) (hby : i.bytes = bytes) (hb1000 : bytes ≤ 1000) (hzs : z.cells.size = 1)
    (b : Addr) (hs : a.eval s = .slice (some b) 0 0)
    (ad : Addr) (c : Nat) (y : Value) (hx : a.eval x = .slice (some ad) 1 c) (hnews : ∀ j u, [y][j]? = some u → w.cell? (ad.add j) = some u) (h1 : y.oneCell' = true)
    (hbase : base ≤ w.heap.size)
    (h : ∀ v' w', w'.ownsRow base e 1 v' 1 [y] → w.grownBy w' none → v' ≠ .slice none 0 0 → K (a.put o.dst v') w') : o.wp P a w K Q := by
  obtain ⟨v', w', hr, h2, h3, h4⟩ := run_append_own (P := P) w base t o.type e i z 1 bytes ht hi hz hsize hby hzs (by decide) (.slice none 0 0) 0 [] (World.ownsRow_nil w base e 1) ad 1 c [y] rfl hnews
    (fun u hu => by rw [List.mem_singleton.1 hu]; exact h1) (by unfold maxLen; omega) (by omega) hbase
  have hr2 := (run_append_empty (P := P) w t o.type e i z ht hi hz hsize (by omega) b ad c y hnews).trans hr
  unfold Oper.wp execOp
  simp only [ho, resolve, invoke, builtin, Sem.run_bind, Sem.run_pure, Result.andThen_ok, List.map_toArray, List.map_cons, List.map_nil, hs, hx, hr2]
  exact h v' w' (by simpa using h2) h3 (fun e => absurd (h4.1 e).2 (by decide))

theorem step_append_out {P : Program} (W : World) {ops : Array Oper} {o : Oper} {a : Act} {K : Act → World → Prop} {Q : Exit → Act → World → Prop} {E : Prop} (hgd : o.guard = none) (s x : Operand) (t : TypeId)
    (ho : o.op = .call { callee := .builtin .append, args := #[s, x], argTypes := #[t, t] })
    (u w : World) (b : Nat) (T : TypeId) (i : TypeInfo) (z : Value) (bytes : Nat) (ht : P.underlying t = some (.slice T)) (hi : P.info? T = some i) (hz : i.zero = some z)
    (hsize : i.size = 1) (hby : i.bytes = bytes) (hb1000 : bytes ≤ 1000) (hzs : z.cells.size = 1)
    (v : Value) (xs : List Value) (hs : a.eval s = v) (hO : OutAt w u b T v xs) (hlen : xs.length ≤ 4000000)
    (c : Nat) (y : Value) (hW : W = u.alloc (.cells #[y] T)) (hx : a.eval x = .slice (some ⟨u.heap.size, 0, none⟩) 1 c) (h1 : y.oneCell' = true)
    (h : ∀ v' w', OwnV w w' w.heap.size T v' (xs ++ [y]) → K (a.put o.dst v') w') :
    if Region.wanted o (yielded ops a.tmps) = true then Oper.wp P o a W K Q else E := by
  have hw : Region.wanted o (yielded ops a.tmps) = true := by simp [Region.wanted, hgd]
  rw [if_pos hw]
  subst hW
  rcases hO with ⟨rfl, rfl, hS⟩ | hO
  · refine wp_append_empty _ s x t ho w.heap.size T i z bytes ht hi hz hsize hby hb1000 hzs _ hs ⟨u.heap.size, 0, none⟩ c y hx (cell_one_new _ _ _) h1 (by have := hS.size; simp; omega) ?_
    intro v' w' hown hg hne
    have hS1 := hS.alloc hS.size (.cells #[y] T)
    have hS2 := hS1.grown hg hS1.size (fun k hk => by cases hk)
    exact h v' w' ⟨hS2, Nat.le_refl _, hS2.size, hown, hne⟩
  · refine wp_append_own _ s x t ho w.heap.size T i z 1 bytes ht hi hz hsize hby hzs (by decide) v _ xs hs (hO.2.2.2.1.alloc _) ⟨u.heap.size, 0, none⟩ 1 c [y] hx rfl (cell_one_new _ _ _)
      (fun u hu => by rw [List.mem_singleton.1 hu]; exact h1) (by unfold maxLen; omega) (Nat.le_trans (Nat.mul_le_mul (show xs.length + 1 ≤ 4000001 by omega) hb1000) (by omega)) (by have := hO.2.2.1; simp; omega) ?_
    intro v' w' hown hg hnil
    exact h v' w' (ownV_add hO hown hg (fun e => absurd (hnil.1 e).2 (by decide)))
end Go.Proofs.YtmlodheanckadaaDoor
