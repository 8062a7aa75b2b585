/-
  Walks of strconv.ParseUint at base 16, 32 bits, and of impl.readHex, at texts of 8 bytes, where the library's variables hold what they were laid with. No condition but these.
-/
import Derived.Test.YtmlodheanckadaaDoorWkPu
namespace Go.Proofs.YtmlodheanckadaaDoor
open Go.RowKit Go.Deep
set_option linter.unusedVariables false
set_option linter.unusedSimpArgs false

def hexV (s : ByteArray) : Nat := (parH s.data.toList).getD 0
theorem hexV_lt (s : ByteArray) (hs : s.size = 8) : hexV s < 4294967296 := by
  unfold hexV
  cases h : parH s.data.toList with
  | none => decide
  | some n =>
    have := parH_lt _ n h
    rw [show s.data.toList.length = 8 by rw [← hs]; simp] at this
    have e : (16 : Nat) ^ 8 = 4294967296 := by decide
    show n < _
    omega
theorem hexV_hexN (s : ByteArray) (n : Nat) (hn : n < 4294967296) (h : s = ⟨(hexN 8 n).toArray⟩) : hexV s = n := by
  subst h
  unfold hexV
  show (parH (hexN 8 n)).getD 0 = n
  rw [parH_hexN 8 n (by have e : (16 : Nat) ^ 8 = 4294967296 := by decide
                        omega)]
  rfl

theorem puPub (s : ByteArray) (hs : s.size = 8) (w : World) (he : Errs w) :
    Calls Tryd.prog 70 #[.string s, .int .i64 16, .int .i64 32] w fun e w' => ∃ err, e = .returned (.tuple #[.int .u64 (hexV s : Nat), err]) ∧ w.Since w.heap.size w' := by
  cases h : parH s.data.toList with
  | some n =>
    have hc : Calls Tryd.prog 77 #[.string s, .int .i64 16, .int .i64 32] w fun e w' => e = .returned (.tuple #[.int .u64 (hexV s : Nat), .nilIface]) ∧ w.Since w.heap.size w' :=
      (puW s hs w).mono fun e w' ⟨hS, h'⟩ => by
        rcases h' with ⟨m, h1, h2⟩ | ⟨h1, _⟩
        · exact ⟨by rw [h2]; unfold hexV; rw [h1]; rfl, hS⟩
        · rw [h] at h1; cases h1
    obtain ⟨v, hv⟩ : ∃ v, hexV s = v := ⟨_, rfl⟩
    rw [hv] at hc ⊢
    have HC := Lib.hid hc
    clear hc hv h
    go_enter Tryd.func70, Tryd.ntmps70
    go_wp2_with (first
      | (go_at_call 77; refine HC.out.mono ?_; rintro e w1 ⟨rfl, S1⟩)
      | go_in)
    go_ret2
    exact ⟨_, rfl, S1⟩
  | none =>
    have hc : Calls Tryd.prog 77 #[.string s, .int .i64 16, .int .i64 32] w fun e w' => e = .returned (.tuple #[.int .u64 0, .iface 90 (.int .i64 2)]) ∧ w.Since w.heap.size w' :=
      (puW s hs w).mono fun e w' ⟨hS, h'⟩ => by
        rcases h' with ⟨m, h1, _⟩ | ⟨_, h2⟩
        · rw [h] at h1; cases h1
        · exact ⟨h2, hS⟩
    have hv : hexV s = 0 := by unfold hexV; rw [h]; rfl
    rw [hv]
    have HC := Lib.hid hc
    have HE := Lib.hid he
    clear hc hv h he
    go_enter Tryd.func70, Tryd.ntmps70
    go_wp2_with (first
      | (go_at_call 77; refine HC.out.mono ?_; rintro e w1 ⟨rfl, S1⟩; obtain ⟨⟨te, pe, hvar⟩, _⟩ := HE.out.since S1; have hcell : w1.cell? ⟨2, 0, none⟩ = some (.iface te pe) := (by have := World.var?_cell gSyn hvar 0; simpa using this); have HCe := Lib.hid hcell; clear hcell hvar)
      | (go_at_call 60; refine (Any.strconv_toError_syntax Tryd.laysC245 _ s 16 32 (.iface te pe) w1 (by omega) HCe.out (.inr ⟨te, pe, rfl⟩)).mono ?_; rintro e w2 ⟨N, rfl, _, _, hb⟩)
      | go_in)
    go_ret2
    exact ⟨_, rfl, since_up S1 (since_of_below hb)⟩

theorem readHexW (s : ByteArray) (hs : s.size = 8) (w : World) (he : Errs w) :
    Calls Tryd.prog 53 #[.string s] w fun e w' => e = .returned (.float .f32 (hexV s)) ∧ w.Since w.heap.size w' := by
  have hlt := hexV_lt s hs
  obtain ⟨v, hv⟩ : ∃ v, hexV s = v := ⟨_, rfl⟩
  have hc := puPub s hs w he
  rw [hv] at hc hlt ⊢
  have HC := Lib.hid hc
  clear hc hv he
  go_enter Tryd.func53, Tryd.ntmps53
  go_wp2_with (first
    | (go_at_call 70; refine HC.out.mono ?_; rintro e w1 ⟨err, rfl, S1⟩)
    | go_in)
  go_ret
  exact ⟨rfl, S1⟩
end Go.Proofs.YtmlodheanckadaaDoor
