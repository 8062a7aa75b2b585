/-
  Walk of spec.l01Dec: a number in decimal. No condition.
-/
import Derived.Test.YtmlodheanckadaaDoorOwn
import Derived.Lib.ItoaNum
import Derived.Lib.ItoaMem
import Derived.Lib.Hide

namespace Go.Proofs.YtmlodheanckadaaDoor
open Go.RowKit Go.Deep
set_option linter.unusedVariables false
set_option linter.unusedSimpArgs false

/-- The digits that are still to come, the last ones written being ds. -/
def more (r : Nat) (ds : List UInt8) : List UInt8 := if r = 0 ∧ ds ≠ [] then [] else Lib.decDigits r
theorem dec_front (r : Nat) : Lib.decDigits r = (if r < 10 then [] else Lib.decDigits (r / 10)) ++ [UInt8.ofNat (48 + r % 10)] := by
  rw [Lib.decDigits]
  split
  · rename_i h
    rw [Nat.mod_eq_of_lt h]; rfl
  · rfl
theorem more_step {u r : Nat} {ds : List UInt8} (h : more r ds ++ ds = Lib.decDigits u) (hr : ¬ (r = 0 ∧ ds ≠ [])) : more (r / 10) (UInt8.ofNat (48 + r % 10) :: ds) ++ UInt8.ofNat (48 + r % 10) :: ds = Lib.decDigits u := by
  unfold more at h ⊢
  rw [if_neg hr, dec_front] at h
  rw [← h]
  by_cases h10 : r < 10
  · rw [if_pos h10, if_pos ⟨by omega, by simp⟩]; rfl
  · rw [if_neg h10, if_neg (fun e => by have := e.1; omega)]; simp
theorem more_end {u : Nat} {ds : List UInt8} (h : more 0 ds ++ ds = Lib.decDigits u) (hd : ds ≠ []) : ds = Lib.decDigits u := by
  unfold more at h
  rw [if_pos ⟨rfl, hd⟩] at h
  exact h
theorem more_start (u : Nat) : more u [] ++ [] = Lib.decDigits u := by
  unfold more
  rw [if_neg (fun e => e.2 rfl), List.append_nil]
theorem nDigits_le : ∀ (k u : Nat), u < 10 ^ (k + 1) → Lib.nDigits u ≤ k + 1
  | 0, u, h => by rw [Lib.nDigits_small (by simpa using h)]; omega
  | k + 1, u, h => by
    by_cases h10 : u < 10
    · rw [Lib.nDigits_small h10]; omega
    · rw [Lib.nDigits_big h10]
      have := nDigits_le k (u / 10) (Nat.div_lt_of_lt_mul (by rw [Nat.pow_succ] at h; omega))
      omega
theorem more_short {u r : Nat} {ds : List UInt8} (h : more r ds ++ ds = Lib.decDigits u) (hu : u ≤ 9223372036854775808) : ds.length ≤ 20 := by
  have h1 : (more r ds ++ ds).length = Lib.nDigits u := by rw [h, Lib.decDigits_length]
  have h2 := nDigits_le 19 u (by omega)
  rw [List.length_append] at h1
  omega

def decM (q : Int) (ds : List UInt8) : Nat := if ds = [] then q.natAbs + 1 else q.natAbs
theorem dig_toNat (a : Nat) (h : a < 10) : (((UInt8.ofNat (48 + a)).toNat : Nat) : Int) = 48 + (a : Int) := by
  have : (48 + a) % 256 = 48 + a := Nat.mod_eq_of_lt (by omega)
  simp [this]
theorem dec_round {n q t q' x : Int} {ds : List UInt8} (ht : q.tmod 10 = t) (hq' : q.tdiv 10 = q') (hx : (t < 0 ∧ x = 48 + -t) ∨ (0 ≤ t ∧ x = 48 + t)) (B1 : -9223372036854775808 ≤ q) (B2 : q ≤ 9223372036854775807)
    (S1 : n < 0 → q ≤ 0) (S2 : 0 ≤ n → 0 ≤ q) (HM : more q.natAbs ds ++ ds = Lib.decDigits n.natAbs) (hnot : ¬ (q.natAbs = 0 ∧ ds ≠ [])) :
    x = (((UInt8.ofNat (48 + q.natAbs % 10)).toNat : Nat) : Int) ∧ -9223372036854775808 ≤ q' ∧ q' ≤ 9223372036854775807 ∧ (n < 0 → q' ≤ 0) ∧ (0 ≤ n → 0 ≤ q') ∧
      more q'.natAbs (UInt8.ofNat (48 + q.natAbs % 10) :: ds) ++ UInt8.ofNat (48 + q.natAbs % 10) :: ds = Lib.decDigits n.natAbs ∧ decM q' (UInt8.ofNat (48 + q.natAbs % 10) :: ds) < decM q ds := by
  have hm := more_step HM hnot
  rw [dig_toNat _ (Nat.mod_lt _ (by decide))]
  have key : q'.natAbs = q.natAbs / 10 ∧ ((0 ≤ q ∧ 0 ≤ q' ∧ t = ((q.natAbs % 10 : Nat) : Int)) ∨ (q ≤ 0 ∧ q' ≤ 0 ∧ t = -((q.natAbs % 10 : Nat) : Int))) := by
    rcases Int.le_total 0 q with h | h
    · obtain ⟨r, rfl⟩ : ∃ r : Nat, q = (r : Int) := ⟨q.toNat, by omega⟩
      have e1 : (r : Int).tmod 10 = ((r % 10 : Nat) : Int) := rfl
      have e2 : (r : Int).tdiv 10 = ((r / 10 : Nat) : Int) := rfl
      rw [← ht, ← hq', e1, e2]
      exact ⟨by rw [Int.natAbs_natCast, Int.natAbs_natCast], .inl ⟨h, by omega, by simp⟩⟩
    · obtain ⟨r, rfl⟩ : ∃ r : Nat, q = -(r : Int) := ⟨(-q).toNat, by omega⟩
      have e1 : (-(r : Int)).tmod 10 = -((r % 10 : Nat) : Int) := by rw [Int.neg_tmod]; rfl
      have e2 : (-(r : Int)).tdiv 10 = -((r / 10 : Nat) : Int) := by rw [Int.neg_tdiv]; rfl
      rw [← ht, ← hq', e1, e2]
      exact ⟨by rw [Int.natAbs_neg, Int.natAbs_neg, Int.natAbs_natCast, Int.natAbs_natCast], .inr ⟨h, by omega, by simp⟩⟩
  obtain ⟨k1, k2⟩ := key
  rw [k1]
  refine ⟨by omega, by omega, by omega, fun hn => ?_, fun hn => ?_, hm, ?_⟩
  · have := S1 hn; omega
  · have := S2 hn; omega
  · unfold decM
    rw [if_neg (by simp)]
    split
    · omega
    · rename_i hd
      have : q.natAbs ≠ 0 := fun e => hnot ⟨e, hd⟩
      omega
theorem tm10 (q : Int) : -9 ≤ q.tmod 10 ∧ q.tmod 10 ≤ 9 := by
  rcases Int.le_total 0 q with h | h
  · obtain ⟨r, rfl⟩ : ∃ r : Nat, q = (r : Int) := ⟨q.toNat, by omega⟩
    have e1 : (r : Int).tmod 10 = ((r % 10 : Nat) : Int) := rfl
    rw [e1]; omega
  · obtain ⟨r, rfl⟩ : ∃ r : Nat, q = -(r : Int) := ⟨(-q).toNat, by omega⟩
    have e1 : (-(r : Int)).tmod 10 = -((r % 10 : Nat) : Int) := by rw [Int.neg_tmod]; rfl
    rw [e1]; omega
theorem wrap_eq {q : Int} (h1 : -9223372036854775808 ≤ q) (h2 : q ≤ 9223372036854775807) : wrap64 q = q := by unfold wrap64; omega
theorem byteCells_cons (d : UInt8) (ds : List UInt8) (x : Int) (h : x = ((d.toNat : Nat) : Int)) : Value.int .u8 x :: Lib.byteCells ds = Lib.byteCells (d :: ds) := by rw [h]; rfl

set_option maxRecDepth 20000 in
theorem decS (n : Int) (hn1 : -9223372036854775808 ≤ n) (hn2 : n ≤ 9223372036854775807) (w : World) :
    Calls Tryd.prog 35 #[.int .i64 n] w fun e w' => e = .returned (.string ⟨(Lib.itoa n).toArray⟩) ∧ w.Since w.heap.size w' := by
  have hst := ownV_start w 5
  go_enter Tryd.func35, Tryd.ntmps35
  go_wp2
  go_loopg [3, 4] (n.natAbs + 1) (fun gg o i wr => ∃ (q : Int) (ds : List UInt8), decM q ds = gg ∧ i = .int .i64 q ∧ OwnV w wr w.heap.size 5 o (Lib.byteCells ds) ∧
    -9223372036854775808 ≤ q ∧ q ≤ 9223372036854775807 ∧ (n < 0 → q ≤ 0) ∧ (0 ≤ n → 0 ≤ q) ∧ more q.natAbs ds ++ ds = Lib.decDigits n.natAbs)
  case atStart => exact ⟨n, [], rfl, rfl, hst, hn1, hn2, fun h => by omega, fun h => h, more_start _⟩
  case round =>
    obtain ⟨q, ds, hgg, rfl, hO, hq1, hq2, hs1, hs2, hm⟩ := hrel
    have hlen := more_short hm (by omega)
    have HM := Lib.hid hm
    clear hm hst
    obtain ⟨g, cap, rfl, hBg, hg, hc⟩ := hO.open
    obtain ⟨m, hm⟩ : ∃ m, (Lib.byteCells ds).length = m := ⟨_, rfl⟩
    rw [hm]
    have B1 := Lib.hid hq1
    have B2 := Lib.hid hq2
    have N1 := Lib.hid hn1
    have N2 := Lib.hid hn2
    have S1 := Lib.hid hs1
    have S2 := Lib.hid hs2
    clear hq1 hq2 hn1 hn2 hs1 hs2
    obtain ⟨t, ht⟩ : ∃ t, q.tmod 10 = t := ⟨_, rfl⟩
    obtain ⟨q', hq'⟩ : ∃ q', q.tdiv 10 = q' := ⟨_, rfl⟩
    have ht1 : -9 ≤ t := by rw [← ht]; exact (tm10 q).1
    have ht2 : t ≤ 9 := by rw [← ht]; exact (tm10 q).2
    have HG := Lib.hid hgg
    clear hgg
    have hm' : m ≤ 20 := by rw [← hm, byteCells_len]; exact hlen
    clear hlen
    have hWr : w.heap.size ≤ wr.heap.size := Nat.le_trans hO.2.1 hO.2.2.1
    obtain ⟨i0, hi, hz0, hz1, hz2⟩ := info_parts infoU8
    have I0 := Lib.hid hi; have I1 := Lib.hid hz0; have I2 := Lib.hid hz1; have I3 := Lib.hid hz2
    clear hi hz0 hz1 hz2
    have HO := Lib.hid hO
    clear hO
    rcases Nat.eq_zero_or_pos m with rfl | hm0
    · clear hm'
      have hnot : ¬ (q.natAbs = 0 ∧ ds ≠ []) := fun e => e.2 (List.eq_nil_of_length_eq_zero (by rw [← byteCells_len]; exact hm))
      go_wp2_with (first
        | (at_builtin; refine wpList_append_own _ rfl _ _ 68 rfl w.heap.size 5 i0 (.int .u8 0) 1 1 Tryd.underlying68 I0.out I1.out I2.out I3.out rfl (by decide) _ _ _ rfl (ownsRow_one wr w.heap.size 5 _ hWr) ⟨g, 0, none⟩ _ cap (Lib.byteCells ds) rfl (by simp [hm]) (cells_alloc hg hc _) (byteCells_one ds) (by unfold maxLen; omega) (by omega) (by simp; omega) ?_; intro v' w1 hown' hgrow hnil; have hne : v' ≠ .slice none 0 0 := (fun e => nomatch (show Value.slice (some ⟨wr.heap.size, 0, none⟩) 1 1 = Value.slice none 0 0 from (hnil.1 e).1)); clear hnil)
        | go_in)
      all_goals (go_roundg (decM q' (UInt8.ofNat (48 + q.natAbs % 10) :: ds)))
      all_goals obtain ⟨rx, r1, r2, r3, r4, r5, r6⟩ := dec_round ht hq' (by first | exact .inl ⟨by assumption, rfl⟩ | exact .inr ⟨by assumption, rfl⟩) B1.out B2.out S1.out S2.out HM.out hnot
      all_goals first
        | (rw [HG.out] at r6; exact r6)
        | exact ⟨q', _ :: ds, rfl, congrArg (Value.int .i64) (wrap_eq r1 r2), by rw [← byteCells_cons _ _ _ rx]; exact ownV_front HO.out (by rw [hm]; exact hown') hgrow hne, r1, r2, r3, r4, r5⟩
    · have hm1 : ¬ m = 0 := by omega
      have hmb : ((m : Int) == 0) = false := beq_false_of_ne (by omega)
      by_cases hq0 : q = 0
      · subst hq0
        have hd : ds ≠ [] := fun e => hm1 (by rw [← hm, e]; rfl)
        have hfin := more_end HM.out hd
        have HF := Lib.hid hfin
        clear hfin
        have hcv := run_str (P := Tryd.prog) wr 68 9 5 ⟨g, 0, none⟩ m cap ds Tryd.underlying68 Tryd.underlying5 Tryd.underlying9 (by rw [← byteCells_len]; exact hm) hc
        by_cases hneg : n < 0
        · clear hcv
          go_wp2_with (first
            | (at_builtin; refine wpList_append_own _ rfl _ _ 68 rfl w.heap.size 5 i0 (.int .u8 0) 1 1 Tryd.underlying68 I0.out I1.out I2.out I3.out rfl (by decide) _ _ _ rfl (ownsRow_one wr w.heap.size 5 _ hWr) ⟨g, 0, none⟩ _ cap (Lib.byteCells ds) rfl (by simp [hm]) (cells_alloc hg hc _) (byteCells_one ds) (by unfold maxLen; omega) (by omega) (by simp; omega) ?_; intro v' w1 hown' hgrow hnil; have hne : v' ≠ .slice none 0 0 := (fun e => nomatch (show Value.slice (some ⟨wr.heap.size, 0, none⟩) 1 1 = Value.slice none 0 0 from (hnil.1 e).1)); clear hnil)
            | go_in)
          have hO2 := ownV_front HO.out (by rw [hm]; exact hown') hgrow hne
          rw [byteCells_cons 45 ds 45 rfl] at hO2
          obtain ⟨g2, cap2, rfl, hBg2, hg2, hc2⟩ := hO2.open
          obtain ⟨m2, hm2⟩ : ∃ m2, (Lib.byteCells (45 :: ds)).length = m2 := ⟨_, rfl⟩
          rw [hm2]
          have hcv2 := run_str (P := Tryd.prog) w1 68 9 5 ⟨g2, 0, none⟩ m2 cap2 (45 :: ds) Tryd.underlying68 Tryd.underlying5 Tryd.underlying9 (by rw [← byteCells_len]; exact hm2) hc2
          have HO2 := Lib.hid hO2.1
          clear hO2
          have hit : Lib.itoa n = 45 :: ds := by unfold Lib.itoa; rw [if_pos hneg, ← HF.out]
          rw [hcv2]
          go_wp2
          go_ret
          exact ⟨by rw [hit]; rfl, HO2.out⟩
        · have hnn : 0 ≤ n := by omega
          have hit : Lib.itoa n = ds := by unfold Lib.itoa; rw [if_neg (by omega), show n.toNat = n.natAbs by omega, ← HF.out]
          go_wp2
          go_ret
          exact ⟨rfl, HO.out.1⟩
      · have hqb : (q != 0) = true := by rw [bne_iff_ne]; exact hq0
        have hnot : ¬ (q.natAbs = 0 ∧ ds ≠ []) := fun e => hq0 (by have := e.1; omega)
        go_wp2_with (first
          | (at_builtin; refine wpList_append_own _ rfl _ _ 68 rfl w.heap.size 5 i0 (.int .u8 0) 1 1 Tryd.underlying68 I0.out I1.out I2.out I3.out rfl (by decide) _ _ _ rfl (ownsRow_one wr w.heap.size 5 _ hWr) ⟨g, 0, none⟩ _ cap (Lib.byteCells ds) rfl (by simp [hm]) (cells_alloc hg hc _) (byteCells_one ds) (by unfold maxLen; omega) (by omega) (by simp; omega) ?_; intro v' w1 hown' hgrow hnil; have hne : v' ≠ .slice none 0 0 := (fun e => nomatch (show Value.slice (some ⟨wr.heap.size, 0, none⟩) 1 1 = Value.slice none 0 0 from (hnil.1 e).1)); clear hnil)
          | go_in)
        all_goals (go_roundg (decM q' (UInt8.ofNat (48 + q.natAbs % 10) :: ds)))
        all_goals obtain ⟨rx, r1, r2, r3, r4, r5, r6⟩ := dec_round ht hq' (by first | exact .inl ⟨by assumption, rfl⟩ | exact .inr ⟨by assumption, rfl⟩) B1.out B2.out S1.out S2.out HM.out hnot
        all_goals first
          | (rw [HG.out] at r6; exact r6)
          | exact ⟨q', _ :: ds, rfl, congrArg (Value.int .i64) (wrap_eq r1 r2), by rw [← byteCells_cons _ _ _ rx]; exact ownV_front HO.out (by rw [hm]; exact hown') hgrow hne, r1, r2, r3, r4, r5⟩
end Go.Proofs.YtmlodheanckadaaDoor
