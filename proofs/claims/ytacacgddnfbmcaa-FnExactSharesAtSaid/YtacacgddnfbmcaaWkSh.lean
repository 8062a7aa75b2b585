/-
  Walks of impl.SharesAt and spec.SharesAt: rows of shares, each made of the one before. No condition.
-/
import Derived.Test.YtacacgddnfbmcaaWkHeld
import Derived.Test.YtacacgddnfbmcaaWkEqG
import Derived.Test.YtacacgddnfbmcaaWkDotT
import Derived.Laws.AppendOwn
import Derived.Maps.AppendAt
import Derived.OwnWalk
import Derived.Outline
namespace Go.Proofs.Ytacacgddnfbmcaa
open Go.RowKit Go.Deep
set_option linter.unusedVariables false
set_option linter.unusedSimpArgs false

/-- The shares of row m at the time t (its not-a-numbers are one). -/
def shC (t : Nat) : Nat → Nat → Nat
  | 0, _ => 1065353216
  | m + 1, k => Fl.F .add .f32 (Fl.F .mul .f32 (if k < m + 1 then shC t m k else 0) (Fl.F .sub .f32 1065353216 t)) (Fl.F .mul .f32 (if 0 < k then shC t m (k - 1) else 0) t)
def shOk (n : Int) (t : Nat) : Bool := (decide (1 ≤ n) && decide (n ≤ 7)) && (Fl.ge .f32 (Fl.can .f32 t) (Fl.can .f32 0) && Fl.le .f32 (Fl.can .f32 t) (Fl.can .f32 1065353216))
def rowL (f : Nat → Nat) (n : Nat) : List Value := (List.range n).map fun i => .float .f32 (f i)
def upd (f : Nat → Nat) (n r : Nat) : Nat → Nat := fun i => if i = n then r else f i

theorem rowL_len (f : Nat → Nat) (n : Nat) : (rowL f n).length = n := by simp [rowL]
theorem rowL_get (f : Nat → Nat) (n i : Nat) (h : i < n) : (rowL f n)[i]? = some (.float .f32 (f i)) := by simp [rowL, h]
theorem rowL_snoc (f : Nat → Nat) (n r : Nat) : rowL f n ++ [.float .f32 r] = rowL (upd f n r) (n + 1) := by
  unfold rowL
  rw [List.range_succ, List.map_append]
  congr 1
  · apply List.map_congr_left
    intro i hi
    have : i < n := List.mem_range.1 hi
    simp [upd, Nat.ne_of_lt this]
  · simp [upd]

/-- A row of n numbers of its own, past B. -/
def OwnF (w wr : World) (B : Nat) (v : Value) (n : Nat) (f : Nat → Nat) : Prop :=
  w.Since w.heap.size wr ∧ w.heap.size ≤ B ∧ B ≤ wr.heap.size ∧ wr.ownsRow B 22 1 v n (rowL f n)

theorem OwnF.open {w wr : World} {B : Nat} {v : Value} {n : Nat} {f : Nat → Nat} (h : OwnF w wr B v n f) (hn : 0 < n) :
    ∃ g cap, v = .slice (some ⟨g, 0, none⟩) n cap ∧ B ≤ g ∧ g < wr.heap.size ∧ ∀ i, i < n → wr.cell? ⟨g, i, none⟩ = some (.float .f32 (f i)) := by
  obtain ⟨_, _, _, hO⟩ := h
  have hl := hO.lt
  have hc := fun g => World.ownsRow.cells (g := g) hO
  rcases hO.2 with ⟨_, h0⟩ | ⟨g, cap, cur, rfl, hb, hg, _⟩
  · omega
  · refine ⟨g, cap, rfl, (hl g rfl).1, (hl g rfl).2, fun i hi => ?_⟩
    have := hc g rfl i _ (rowL_get f n i hi)
    rw [Addr.add_lit, Nat.zero_add] at this
    exact this

theorem ownF_start (w : World) : OwnF w (w.alloc (.cells #[] 22)) w.heap.size (.slice (some ⟨w.heap.size, 0, none⟩) 0 0) 0 (fun _ => 0) :=
  ⟨(World.Since.refl _ w).alloc (Nat.le_refl _) _, Nat.le_refl _, by simp, World.ownsRow_made w #[] 0 (Nat.le_refl _) (by decide) rfl⟩
theorem infoF : (Try.prog.info? 22).map (fun i => (i.zero, i.size, i.bytes)) = some (some (.float .f32 0), 1, 4) := by kernel_rfl

theorem ownsRow_drewN {w : World} {base : Nat} {e : TypeId} {size : Nat} {v : Value} {n : Nat} {xs : List Value} (h : w.ownsRow base e size v n xs) (k : Nat) : (w.drewN k).ownsRow base e size v n xs := h
theorem ownF_step {w wr w' : World} {l v : Value} {k R X : Nat} {f : Nat → Nat} {O : Obj} (h : OwnF w wr w.heap.size l k f) (ho : w'.ownsRow w.heap.size 22 1 v (k + 1) (rowL f k ++ [.float .f32 R])) (hg : ((wr.drewN X).alloc O).grownBy w' l.ownBlock) :
    OwnF w w' w.heap.size v (k + 1) (upd f k R) := by
  have h1 : w.Since w.heap.size ((wr.drewN X).alloc O) := World.Since.alloc (since_drewN h.1 X) h.2.2.1 O
  have h2 : w.heap.size ≤ ((wr.drewN X).alloc O).heap.size := by have := h.2.2.1; simp [World.drewN]; omega
  have h3 := h1.grown hg h2 (fun k hk => (h.2.2.2.lt k hk).1)
  exact ⟨h3, Nat.le_refl _, h3.size, by rw [← rowL_snoc]; exact ho⟩

theorem OwnF.trans {w u v : World} {B : Nat} {l l' : Value} {n n' : Nat} {f h : Nat → Nat} (a : OwnF w u B l n f) (b : OwnF u v u.heap.size l' n' h) : OwnF w v u.heap.size l' n' h :=
  ⟨a.1.trans (since_mono b.1 a.1.size), a.1.size, b.2.2.1, b.2.2.2⟩
theorem ownF_one (w : World) : OwnF w (w.alloc (.cells #[.float .f32 1065353216] 22)) w.heap.size (.slice (some ⟨w.heap.size, 0, none⟩) 1 1) 1 (fun _ => 1065353216) :=
  ⟨(World.Since.refl _ w).alloc (Nat.le_refl _) _, Nat.le_refl _, by simp, rfl, .inr ⟨w.heap.size, 1, _, rfl, Nat.le_refl _, heap_alloc_new w _, Nat.le_refl _, by decide, rfl, rfl⟩⟩
theorem can32_1 : Fl.can .f32 1065353216 = 1065353216 := by decide +kernel
theorem sh_more {T m k R : Nat} {h : Nat → Nat} (hh : ∀ i, i < k → Fl.can .f32 (h i) = shC T (m + 1) i) (hR : Fl.can .f32 R = shC T (m + 1) k) : ∀ i, i < k + 1 → Fl.can .f32 (upd h k R i) = shC T (m + 1) i := by
  intro i hi
  unfold upd
  by_cases e : i = k
  · subst e; rw [if_pos rfl]; exact hR
  · rw [if_neg e]; exact hh i (by omega)

theorem withinW (n a b : Int) (w : World) : Calls Try.prog 31 #[.int .i64 n, .int .i64 a, .int .i64 b] w fun e w' => e = .returned (.bool (decide (a ≤ n) && decide (n ≤ b))) ∧ w' = w := by
  by_cases h1 : a ≤ n <;> by_cases h2 : n ≤ b
  all_goals go_enter Try.func31, Try.ntmps31
  all_goals go_wp2
  all_goals go_ret
  all_goals simp [h1, h2]
theorem inW (n a b : Int) (w : World) : Calls Try.prog 29 #[.int .i64 n, .int .i64 a, .int .i64 b] w fun e w' => e = .returned (.bool (decide (a ≤ n) && decide (n ≤ b))) ∧ w' = w := by
  by_cases h1 : a ≤ n <;> by_cases h2 : n ≤ b
  all_goals go_enter Try.func29, Try.ntmps29
  all_goals go_wp2
  all_goals go_ret
  all_goals simp [h1, h2]
theorem timeW (t : Nat) (w : World) : Calls Try.prog 40 #[.float .f32 t] w fun e w' => e = .returned (.bool (Fl.ge .f32 (Fl.can .f32 t) (Fl.can .f32 0) && Fl.le .f32 (Fl.can .f32 t) (Fl.can .f32 1065353216))) ∧ w' = w := by
  cases h1 : Fl.ge .f32 (Fl.can .f32 t) (Fl.can .f32 0) <;> cases h2 : Fl.le .f32 (Fl.can .f32 t) (Fl.can .f32 1065353216)
  all_goals go_enter Try.func40, Try.ntmps40
  all_goals go_wp2
  all_goals go_ret
  all_goals simp [h1, h2]
theorem shareW (t : Nat) (w : World) : Calls Try.prog 39 #[.float .f32 t] w fun e w' => e = .returned (.bool (Fl.ge .f32 (Fl.can .f32 t) (Fl.can .f32 0) && Fl.le .f32 (Fl.can .f32 t) (Fl.can .f32 1065353216))) ∧ w' = w := by
  cases h1 : Fl.ge .f32 (Fl.can .f32 t) (Fl.can .f32 0) <;> cases h2 : Fl.le .f32 (Fl.can .f32 t) (Fl.can .f32 1065353216)
  all_goals go_enter Try.func39, Try.ntmps39
  all_goals go_wp2
  all_goals go_ret
  all_goals simp [h1, h2]

theorem shI (n : Nat) (t : Nat) (w : World) (h1 : 1 ≤ n) (h7 : n ≤ 7) (ht : (Fl.ge .f32 (Fl.can .f32 t) (Fl.can .f32 0) && Fl.le .f32 (Fl.can .f32 t) (Fl.can .f32 1065353216)) = true) :
    Calls Try.prog 22 #[.int .i64 (n : Int), .float .f32 t] w (fun e w' => ∃ v f B, e = .returned (.tuple #[v, .bool true]) ∧ OwnF w w' B v (n + 1) f ∧ ∀ i, i < n + 1 → Fl.can .f32 (f i) = shC (Fl.can .f32 t) n i) := by
  have h1' : decide ((1 : Int) ≤ (n : Int)) = true := decide_eq_true (by omega)
  have h7' : decide ((n : Int) ≤ 7) = true := decide_eq_true (by omega)
  go_enter Try.func22, Try.ntmps22
  go_wp2_with (first
    | (go_at_call 31; refine (withinW _ _ _ _).mono ?_; rintro e w' ⟨rfl, hw⟩; subst w'; rw [h1', h7'])
    | (go_at_call 40; refine (timeW _ _).mono ?_; rintro e w' ⟨rfl, hw⟩; subst w'; rw [ht])
    | go_in)
  go_loopg [6, 21] n (fun g l i wr => ∃ (m : Nat) (f : Nat → Nat) (B : Nat), m ≤ n ∧ g = n - m ∧ i = .int .i64 (m : Nat) ∧ OwnF w wr B l (m + 1) f ∧ ∀ i, i < m + 1 → Fl.can .f32 (f i) = shC (Fl.can .f32 t) m i)
  case atStart => exact ⟨0, fun _ => 1065353216, _, Nat.zero_le _, rfl, rfl, ownF_one w, fun i hi => by rw [can32_1]; rfl⟩
  case round =>
    obtain ⟨m, f, B, hm, rfl, rfl, hO, hf⟩ := hrel
    by_cases hlt : m < n
    · obtain ⟨g, cap, rfl, hBg, hg, hc⟩ := hO.open (Nat.succ_pos _)
      have hlt' : (m : Int) < (n : Int) := by omega
      have hcast : ((m + 1 : Nat) : Int) = (m : Int) + 1 := by omega
      clear ht h1' h7'
      obtain ⟨wo, rfl⟩ : ∃ x, x = wr := ⟨_, rfl⟩
      go_wp2
      go_loopg [7, 27] (m + 2) (fun gg l' i' wr' => ∃ (k : Nat) (h : Nat → Nat), k ≤ m + 2 ∧ gg = m + 2 - k ∧ i' = .int .i64 (k : Nat) ∧ OwnF wo wr' wo.heap.size l' k h ∧ ∀ i, i < k → Fl.can .f32 (h i) = shC (Fl.can .f32 t) (m + 1) i)
      case atStart => exact ⟨0, fun _ => 0, Nat.zero_le _, rfl, rfl, ownF_start wo, fun i hi => absurd hi (Nat.not_lt_zero _)⟩
      case round =>
        obtain ⟨k, h, hk, rfl, rfl, hO', hh⟩ := hrel
        by_cases hk2 : k < m + 2
        · have hcc : ∀ i, i < m + 1 → wr.cell? ⟨g, i, none⟩ = some (.float .f32 (f i)) := fun i hi => by rw [hO'.1.cell (a := ⟨g, i, none⟩) hg]; exact hc i hi
          obtain ⟨i0, hi, hz0, hz1, hz2⟩ := info_parts infoF
          rcases Nat.eq_zero_or_pos k with rfl | hk0
          · have c0 := hcc 0 (by omega)
            have e1 : (0 : Int) < (m : Int) + 1 := by omega
            clear hcc hc
            go_wp2_with (first
              | (at_builtin; refine wpList_append_own _ rfl _ _ 30 rfl wo.heap.size 22 i0 (.float .f32 0) 1 4 Try.underlying30 hi hz0 hz1 hz2 rfl (by decide) _ _ _ rfl ((ownsRow_drewN hO'.2.2.2 _).alloc _) ⟨wr.heap.size, 0, none⟩ 1 1 [.float .f32 _] rfl rfl (cell_one_new _ _ _) (fun u hu => by rw [List.mem_singleton.1 hu]; rfl) (by unfold maxLen; omega) (by omega) (by have := hO'.1.size; simp; omega) ?_; intro v' w1 hown' hgrow hnil; have hst := ownF_step hO' hown' hgrow; clear hown' hgrow hO' hnil)
              | go_in)
            go_roundg (m + 2 - (0 + 1))
            case measure => omega
            case rel => exact ⟨0 + 1, upd h 0 _, by omega, rfl, congrArg (Value.int .i64) (by omega), hst, sh_more hh (by simp [Fl.can_out, shC, can32_1, hf, Fl.can32_0])⟩
          · obtain ⟨j, rfl⟩ : ∃ j, k = j + 1 := ⟨k - 1, by omega⟩
            have c1 := hcc j (by omega)
            have e1 : (0 : Int) < (j : Int) + 1 := by omega
            have e2 : ((j + 1 : Nat) : Int) = (j : Int) + 1 := by omega
            by_cases hk3 : j < m
            · have c2 := hcc (j + 1) (by omega)
              have e3 : (j : Int) + 1 < (m : Int) + 1 := by omega
              clear hcc hc
              go_wp2_with (first
                | (at_builtin; refine wpList_append_own _ rfl _ _ 30 rfl wo.heap.size 22 i0 (.float .f32 0) 1 4 Try.underlying30 hi hz0 hz1 hz2 rfl (by decide) _ _ _ rfl ((ownsRow_drewN hO'.2.2.2 _).alloc _) ⟨wr.heap.size, 0, none⟩ 1 1 [.float .f32 _] rfl rfl (cell_one_new _ _ _) (fun u hu => by rw [List.mem_singleton.1 hu]; rfl) (by unfold maxLen; omega) (by omega) (by have := hO'.1.size; simp; omega) ?_; intro v' w1 hown' hgrow hnil; have hst := ownF_step hO' hown' hgrow; clear hown' hgrow hO' hnil)
                | go_in)
              go_roundg (m + 2 - (j + 1 + 1))
              case measure => omega
              case rel => exact ⟨j + 1 + 1, upd h (j + 1) _, by omega, rfl, congrArg (Value.int .i64) (by omega), hst, sh_more hh (by simp [Fl.can_out, shC, can32_1, hf j (by omega), hf (j + 1) (by omega), hk3, Fl.can32_0])⟩
            · obtain rfl : j = m := by omega
              clear hcc hc
              go_wp2_with (first
                | (at_builtin; refine wpList_append_own _ rfl _ _ 30 rfl wo.heap.size 22 i0 (.float .f32 0) 1 4 Try.underlying30 hi hz0 hz1 hz2 rfl (by decide) _ _ _ rfl ((ownsRow_drewN hO'.2.2.2 _).alloc _) ⟨wr.heap.size, 0, none⟩ 1 1 [.float .f32 _] rfl rfl (cell_one_new _ _ _) (fun u hu => by rw [List.mem_singleton.1 hu]; rfl) (by unfold maxLen; omega) (by omega) (by have := hO'.1.size; simp; omega) ?_; intro v' w1 hown' hgrow hnil; have hst := ownF_step hO' hown' hgrow; clear hown' hgrow hO' hnil)
                | go_in)
              go_roundg (j + 2 - (j + 1 + 1))
              case measure => omega
              case rel => exact ⟨j + 1 + 1, upd h (j + 1) _, by omega, rfl, congrArg (Value.int .i64) (by omega), hst, sh_more hh (by simp [Fl.can_out, shC, can32_1, hf j (by omega), Fl.can32_0])⟩
        · obtain rfl : k = m + 2 := by omega
          go_wp2
          go_roundg (n - (m + 1))
          case measure => omega
          case rel => exact ⟨m + 1, h, _, by omega, rfl, congrArg (Value.int .i64) (by omega), hO.trans hO', hh⟩
    · obtain rfl : m = n := by omega
      go_wp2
      go_ret2
      exact ⟨_, _, _, rfl, hO, hf⟩
end Go.Proofs.Ytacacgddnfbmcaa
