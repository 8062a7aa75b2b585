/-
  Walk of spec.SharesAt: rows of shares, each made of the one before. No condition.
-/
import Derived.Test.YtacacgddnfbmcaaWkSh
namespace Go.Proofs.Ytacacgddnfbmcaa
open Go.RowKit Go.Deep
set_option linter.unusedVariables false
set_option linter.unusedSimpArgs false

theorem shS (n : Nat) (t : Nat) (w : World) (h1 : 1 ≤ n) (h7 : n ≤ 7) (ht : (Fl.ge .f32 (Fl.can .f32 t) (Fl.can .f32 0) && Fl.le .f32 (Fl.can .f32 t) (Fl.can .f32 1065353216)) = true) :
    Calls Try.prog 21 #[.int .i64 (n : Int), .float .f32 t] w (fun e w' => ∃ v f B, e = .returned (.tuple #[v, .bool true]) ∧ OwnF w w' B v (n + 1) f ∧ ∀ i, i < n + 1 → Fl.can .f32 (f i) = shC (Fl.can .f32 t) n i) := by
  have h1' : decide ((1 : Int) ≤ (n : Int)) = true := decide_eq_true (by omega)
  have h7' : decide ((n : Int) ≤ 7) = true := decide_eq_true (by omega)
  go_enter Try.func21, Try.ntmps21
  go_wp2_with (first
    | (go_at_call 29; refine (inW _ _ _ _).mono ?_; rintro e w' ⟨rfl, hw⟩; subst w'; rw [h1', h7'])
    | (go_at_call 39; refine (shareW _ _).mono ?_; rintro e w' ⟨rfl, hw⟩; subst w'; rw [ht])
    | go_in)
  go_loopg [6, 7] n (fun g l i wr => ∃ (m : Nat) (f : Nat → Nat) (B : Nat), m ≤ n ∧ g = n - m ∧ i = .int .i64 (m : Nat) ∧ OwnF w wr B l (m + 1) f ∧ ∀ i, i < m + 1 → Fl.can .f32 (f i) = shC (Fl.can .f32 t) m i)
  case atStart => exact ⟨0, fun _ => 1065353216, _, Nat.zero_le _, rfl, rfl, ownF_one w, fun i hi => by rw [can32_1]; rfl⟩
  case round =>
    obtain ⟨m, f, B, hm, rfl, rfl, hO, hf⟩ := hrel
    by_cases hlt : m < n
    · obtain ⟨g, cap, rfl, hBg, hg, hc⟩ := hO.open (Nat.succ_pos _)
      have hlt' : (m : Int) < (n : Int) := by omega
      have hcast : ((m + 1 : Nat) : Int) = (m : Int) + 1 := by omega
      clear ht h1' h7'
      obtain ⟨wo, rfl⟩ : ∃ x, x = wr := ⟨_, rfl⟩
      go_wp2
      go_loopg [8, 9] (m + 2) (fun gg l' i' wr' => ∃ (k : Nat) (h : Nat → Nat), k ≤ m + 2 ∧ gg = m + 2 - k ∧ i' = .int .i64 (k : Nat) ∧ OwnF wo wr' wo.heap.size l' k h ∧ ∀ i, i < k → Fl.can .f32 (h i) = shC (Fl.can .f32 t) (m + 1) i)
      case atStart => exact ⟨0, fun _ => 0, Nat.zero_le _, rfl, rfl, ownF_start wo, fun i hi => absurd hi (Nat.not_lt_zero _)⟩
      case round =>
        obtain ⟨k, h, hk, rfl, rfl, hO', hh⟩ := hrel
        by_cases hk2 : k < m + 2
        · have hcc : ∀ i, i < m + 1 → wr.cell? ⟨g, i, none⟩ = some (.float .f32 (f i)) := fun i hi => by rw [hO'.1.cell (a := ⟨g, i, none⟩) hg]; exact hc i hi
          obtain ⟨i0, hi, hz0, hz1, hz2⟩ := info_parts infoF
          rcases Nat.eq_zero_or_pos k with rfl | hk0
          · have c0 := hcc 0 (by omega)
            have e1 : (0 : Int) < (m : Int) + 1 := by omega
            have e1' : (0 : Int) ≤ (m : Int) + 1 := by omega
            clear hcc hc
            go_wp2_with (first
              | (at_builtin; refine wpList_append_own _ rfl _ _ 30 rfl wo.heap.size 22 i0 (.float .f32 0) 1 4 Try.underlying30 hi hz0 hz1 hz2 rfl (by decide) _ _ _ rfl ((ownsRow_drewN hO'.2.2.2 _).alloc _) ⟨wr.heap.size, 0, none⟩ 1 1 [.float .f32 _] rfl rfl (cell_one_new _ _ _) (fun u hu => by rw [List.mem_singleton.1 hu]; rfl) (by unfold maxLen; omega) (by omega) (by have := hO'.1.size; simp; omega) ?_; intro v' w1 hown' hgrow hnil; have hst := ownF_step hO' hown' hgrow; clear hown' hgrow hO' hnil)
              | go_in)
            go_roundg (m + 2 - (0 + 1))
            case measure => omega
            case rel => exact ⟨0 + 1, upd h 0 _, by omega, rfl, congrArg (Value.int .i64) (by omega), hst, sh_more hh (by simp [Fl.can_out, shC, can32_1, hf, Fl.can32_0])⟩
          · obtain ⟨j, rfl⟩ : ∃ j, k = j + 1 := ⟨k - 1, by omega⟩
            have c1 := hcc j (by omega)
            have e1 : (0 : Int) < (j : Int) + 1 := by omega
            have e2 : ((j + 1 : Nat) : Int) = (j : Int) + 1 := by omega
            by_cases hk3 : j < m
            · have c2 := hcc (j + 1) (by omega)
              have e3 : (j : Int) + 1 < (m : Int) + 1 := by omega
              have e3' : (j : Int) + 1 ≤ (m : Int) + 1 := by omega
              clear hcc hc
              go_wp2_with (first
                | (at_builtin; refine wpList_append_own _ rfl _ _ 30 rfl wo.heap.size 22 i0 (.float .f32 0) 1 4 Try.underlying30 hi hz0 hz1 hz2 rfl (by decide) _ _ _ rfl ((ownsRow_drewN hO'.2.2.2 _).alloc _) ⟨wr.heap.size, 0, none⟩ 1 1 [.float .f32 _] rfl rfl (cell_one_new _ _ _) (fun u hu => by rw [List.mem_singleton.1 hu]; rfl) (by unfold maxLen; omega) (by omega) (by have := hO'.1.size; simp; omega) ?_; intro v' w1 hown' hgrow hnil; have hst := ownF_step hO' hown' hgrow; clear hown' hgrow hO' hnil)
                | go_in)
              go_roundg (m + 2 - (j + 1 + 1))
              case measure => omega
              case rel => exact ⟨j + 1 + 1, upd h (j + 1) _, by omega, rfl, congrArg (Value.int .i64) (by omega), hst, sh_more hh (by simp [Fl.can_out, shC, can32_1, hf j (by omega), hf (j + 1) (by omega), hk3, Fl.can32_0])⟩
            · obtain rfl : j = m := by omega
              clear hcc hc
              go_wp2_with (first
                | (at_builtin; refine wpList_append_own _ rfl _ _ 30 rfl wo.heap.size 22 i0 (.float .f32 0) 1 4 Try.underlying30 hi hz0 hz1 hz2 rfl (by decide) _ _ _ rfl ((ownsRow_drewN hO'.2.2.2 _).alloc _) ⟨wr.heap.size, 0, none⟩ 1 1 [.float .f32 _] rfl rfl (cell_one_new _ _ _) (fun u hu => by rw [List.mem_singleton.1 hu]; rfl) (by unfold maxLen; omega) (by omega) (by have := hO'.1.size; simp; omega) ?_; intro v' w1 hown' hgrow hnil; have hst := ownF_step hO' hown' hgrow; clear hown' hgrow hO' hnil)
                | go_in)
              go_roundg (j + 2 - (j + 1 + 1))
              case measure => omega
              case rel => exact ⟨j + 1 + 1, upd h (j + 1) _, by omega, rfl, congrArg (Value.int .i64) (by omega), hst, sh_more hh (by simp [Fl.can_out, shC, can32_1, hf j (by omega), Fl.can32_0])⟩
        · obtain rfl : k = m + 2 := by omega
          go_wp2
          go_roundg (n - (m + 1))
          case measure => omega
          case rel => exact ⟨m + 1, h, _, by omega, rfl, congrArg (Value.int .i64) (by omega), hO.trans hO', hh⟩
    · obtain rfl : m = n := by omega
      go_wp2
      go_ret2
      exact ⟨_, _, _, rfl, hO, hf⟩
end Go.Proofs.Ytacacgddnfbmcaa
