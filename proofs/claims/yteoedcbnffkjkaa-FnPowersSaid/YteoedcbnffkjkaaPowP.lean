/-
  The exponential of a number as a plain function of words, and what the law FnPowers asks of it at its 65 numbers. No condition.
-/
import Derived.Test.YteoedcbnffkjkaaLogP
namespace Go.Proofs.Yteoedcbnffkjkaa
open Go.RowKit
set_option linter.unusedVariables false
namespace Fl
open Ieee
def tE (x : Nat) : Nat := F .quo .f64 (widen x) 4643211215818981376
def pE (t : Nat) : Nat → Nat
  | 0 => 4607182418800017408
  | j + 1 => F .add .f64 4607182418800017408 (F .quo .f64 (F .mul .f64 t (pE t j)) (fl (12 - j)))
def sE (p : Nat) : Nat → Nat
  | 0 => p
  | j + 1 => F .mul .f64 (sE p j) (sE p j)
def expW (x : Nat) : Nat := sE (pE (tE x) 12) 8
def expF (x : Nat) : Nat := narrow (expW x)
def gapF (a b : Nat) : Nat := if lt .f64 a b = true then F .sub .f64 b a else F .sub .f64 a b
/-- the words of (k - 64) / 8 -/
def TL : List Nat := [3238002688, 3237740544, 3237478400, 3237216256, 3236954112, 3236691968, 3236429824, 3236167680, 3235905536, 3235643392, 3235381248, 3235119104, 
  3234856960, 3234594816, 3234332672, 3234070528, 3233808384, 3233546240, 3233284096, 3233021952, 3232759808, 3232497664, 3232235520, 3231973376, 
  3231711232, 3231449088, 3231186944, 3230924800, 3230662656, 3230400512, 3230138368, 3229876224, 3229614080, 3229089792, 3228565504, 3228041216, 
  3227516928, 3226992640, 3226468352, 3225944064, 3225419776, 3224895488, 3224371200, 3223846912, 3223322624, 3222798336, 3222274048, 3221749760, 
  3221225472, 3220176896, 3219128320, 3218079744, 3217031168, 3215982592, 3214934016, 3213885440, 3212836864, 3210739712, 3208642560, 3206545408, 
  3204448256, 3200253952, 3196059648, 3187671040, 0, 1040187392, 1048576000, 1052770304, 1056964608, 1059061760, 1061158912, 1063256064, 1065353216, 
  1066401792, 1067450368, 1068498944, 1069547520, 1070596096, 1071644672, 1072693248, 1073741824, 1074266112, 1074790400, 1075314688, 1075838976, 
  1076363264, 1076887552, 1077411840, 1077936128, 1078460416, 1078984704, 1079508992, 1080033280, 1080557568, 1081081856, 1081606144, 1082130432, 
  1082392576, 1082654720, 1082916864, 1083179008, 1083441152, 1083703296, 1083965440, 1084227584, 1084489728, 1084751872, 1085014016, 1085276160, 
  1085538304, 1085800448, 1086062592, 1086324736, 1086586880, 1086849024, 1087111168, 1087373312, 1087635456, 1087897600, 1088159744, 1088421888, 
  1088684032, 1088946176, 1089208320, 1089470464, 1089732608, 1089994752, 1090256896, 1090519040]
/-- and of their exponentials -/
def EL : List Nat := [967827720, 969362444, 971101513, 973072137, 974191837, 975457003, 976890623, 978515128, 980355933, 981954487, 983136307, 984475485, 985992972, 
  987712511, 989661003, 990862339, 992113296, 993530815, 995137075, 996957207, 998632019, 999800566, 1001124704, 1002625149, 1004325375, 1006251984, 
  1007534039, 1008770946, 1010172546, 1011760767, 1013560457, 1015310670, 1016466094, 1017775360, 1019258954, 1020940085, 1022845057, 1024206924, 
  1025429940, 1026815799, 1028386182, 1030165660, 1031990428, 1033132876, 1034427438, 1035894369, 1037556620, 1039440198, 1040880981, 1042090262, 
  1043460556, 1045013303, 1046772796, 1048671281, 1049800898, 1051080921, 1052531378, 1054174960, 1056037383, 1057556197, 1058751896, 1060106801, 
  1061642109, 1063381841, 1065353216, 1066470146, 1067735794, 1069169961, 1070795084, 1072636591, 1074232558, 1075414828, 1076754516, 1078272582, 
  1079992775, 1081942010, 1083140607, 1084392041, 1085810101, 1087416973, 1089237798, 1090910051, 1092079044, 1093403686, 1094904703, 1096605577, 
  1098532920, 1099812267, 1101049646, 1102451780, 1104040606, 1105840981, 1107588665, 1108744529, 1110054295, 1111538453, 1113220225, 1115125923, 
  1116485113, 1117708595, 1119094981, 1120665963, 1122446119, 1124268386, 1125411269, 1126706325, 1128173815, 1129836699, 1131720994, 1133159130, 
  1134368872, 1135739688, 1137293027, 1139053190, 1140949202, 1142079249, 1143359761, 1144810770, 1146454979, 1148318112, 1149834307, 1151030462, 
  1152385883, 1153921776, 1155662171, 1157631101, 1158748457, 1160014587, 1161449300]
def tT (k : Nat) : Nat := TL.getD k 0
def eT (k : Nat) : Nat := EL.getD k 0
/-- a number is reckoned out ahead of its use (for the kernel) -/
def fc {α : Type} (n : Nat) (f : Nat → α) : α := match n with | 0 => f 0 | m + 1 => f (m + 1)
theorem fc_eq {α : Type} (n : Nat) (f : Nat → α) : fc n f = f n := by cases n <;> rfl
def pE' (t : Nat) : Nat → Nat
  | 0 => 4607182418800017408
  | j + 1 => fc (pE' t j) fun p => fc (F .mul .f64 t p) fun a => fc (fl (12 - j)) fun d => fc (F .quo .f64 a d) fun b => F .add .f64 4607182418800017408 b
def sE' (p : Nat) : Nat → Nat
  | 0 => p
  | j + 1 => fc (sE' p j) fun q => F .mul .f64 q q
def expW' (x : Nat) : Nat := fc (widen x) fun x => fc (F .quo .f64 x 4643211215818981376) fun t => fc (pE' t 12) fun p => sE' p 8
theorem pE'_eq (t j : Nat) : pE' t j = pE t j := by
  induction j with
  | zero => rfl
  | succ j ih => unfold pE' pE; simp only [fc_eq, ih]
theorem sE'_eq (p j : Nat) : sE' p j = sE p j := by
  induction j with
  | zero => rfl
  | succ j ih => unfold sE' sE; simp only [fc_eq, ih]
theorem expW'_eq (x : Nat) : expW' x = expW x := by unfold expW' expW tE; simp only [fc_eq, pE'_eq, sE'_eq]
def chk1 (k : Nat) : Bool := fc (tT k) fun x => fc (eT k) fun y => fc (expW' x) fun w => !isN .f32 x && !gt .f32 x 1128792064 && !lt .f32 x 3276275712 && !over w && narrow w == y && y != 0 && decide (y < 2139095040) && gt .f32 y 0
theorem chk1_a : ∀ k : Fin 43, chk1 k = true := by decide +kernel
theorem chk1_b : ∀ k : Fin 43, chk1 (k + 43) = true := by decide +kernel
theorem chk1_c : ∀ k : Fin 43, chk1 (k + 86) = true := by decide +kernel
theorem exp_facts (k : Nat) (h : k < 129) : isN .f32 (tT k) = false ∧ gt .f32 (tT k) 1128792064 = false ∧ lt .f32 (tT k) 3276275712 = false ∧ over (expW (tT k)) = false ∧ expF (tT k) = eT k ∧ eT k ≠ 0 ∧ eT k < 2139095040 ∧ gt .f32 (eT k) 0 = true := by
  have hc : chk1 k = true := by
    rcases (by omega : k < 43 ∨ (43 ≤ k ∧ k < 86) ∨ 86 ≤ k) with h1 | ⟨h1, h2⟩ | h1
    · exact chk1_a ⟨k, h1⟩
    · have := chk1_b ⟨k - 43, by omega⟩
      rw [show ((⟨k - 43, by omega⟩ : Fin 43) : Nat) + 43 = k from by show k - 43 + 43 = k; omega] at this; exact this
    · have := chk1_c ⟨k - 86, by omega⟩
      rw [show ((⟨k - 86, by omega⟩ : Fin 43) : Nat) + 86 = k from by show k - 86 + 86 = k; omega] at this; exact this
  unfold chk1 at hc
  simp only [fc_eq, Bool.and_eq_true, Bool.not_eq_true', expW'_eq, beq_iff_eq, bne_iff_ne, ne_eq, decide_eq_true_eq] at hc
  obtain ⟨⟨⟨⟨⟨⟨⟨a, b⟩, c⟩, d⟩, e⟩, f⟩, g⟩, h⟩ := hc
  exact ⟨a, b, c, d, e, f, g, h⟩
def polyL' (n : Nat) (u : Nat) : Nat → Nat
  | 0 => 0
  | j + 1 => fc (polyL' n u j) fun p => fc (F .mul .f64 u p) fun a => fc (odd (n - j)) fun d => fc (F .quo .f64 4607182418800017408 d) fun b => F .add .f64 b a
theorem polyL'_eq (n u j : Nat) : polyL' n u j = polyL n u j := by
  induction j with
  | zero => rfl
  | succ j ih => unfold polyL' polyL; simp only [fc_eq, ih]
def logF' (r0 : Nat) : Nat := fc r0 fun r0 => fc (rL r0) fun x => fc (FloatKind.f64.nearest (qL r0)) fun q => fc (sL x) fun s => fc (F .mul .f64 s s) fun u => fc (polyL' 13 u 13) fun p => fc (F .mul .f64 s p) fun y =>
  fc (F .mul .f64 4611686018427387904 y) fun y => fc (F .mul .f64 q 4604418534313441775) fun z => F .add .f64 y z
theorem logF'_eq (r : Nat) : logF' r = logF r := by unfold logF' logF logW uL; simp only [fc_eq, polyL'_eq]
def chk2 (i : Nat) : Bool := fc (eT (i + 32)) fun e => fc (tT (i + 32)) fun x => (raw .quo .f32 (FloatKind.f32.nearest ((i : Int) - 32)) 1090519040 == some x) && fc (logF' (wideRung e)) fun l => fc (narrow l) fun l => fc (widen l) fun l => fc (widen x) fun x => fc (gapF l x) fun g => lt .f64 g 4562254508917369340
theorem chk2_all : ∀ i : Fin 65, chk2 i = true := by decide +kernel
theorem one_facts (i : Nat) (h : i < 65) : raw .quo .f32 (FloatKind.f32.nearest ((i : Int) - 32)) 1090519040 = some (tT (i + 32)) ∧
    lt .f64 (gapF (widen (narrow (logF (wideRung (eT (i + 32)))))) (widen (tT (i + 32)))) 4562254508917369340 = true := by
  have hc := chk2_all ⟨i, h⟩
  unfold chk2 at hc
  simp only [fc_eq, Bool.and_eq_true, logF'_eq, beq_iff_eq] at hc
  exact hc
def chk3 (i j : Nat) : Bool := fc (tT (i + 32)) fun x => fc (tT (j + 32)) fun y => (raw .add .f32 x y == some (tT (i + j))) && fc (eT (i + 32)) fun a => fc (widen a) fun a => fc (eT (j + 32)) fun b => fc (widen b) fun b => fc (eT (i + j)) fun c => fc (widen c) fun c => fc (F .mul .f64 a b) fun p => fc (gapF p c) fun g => fc (F .mul .f64 4562254508917369340 c) fun m => lt .f64 g m
theorem chk3_0 : ∀ j : Fin 65, chk3 0 j = true := by decide +kernel
theorem chk3_1 : ∀ j : Fin 65, chk3 1 j = true := by decide +kernel
theorem chk3_2 : ∀ j : Fin 65, chk3 2 j = true := by decide +kernel
theorem chk3_3 : ∀ j : Fin 65, chk3 3 j = true := by decide +kernel
theorem chk3_4 : ∀ j : Fin 65, chk3 4 j = true := by decide +kernel
theorem chk3_5 : ∀ j : Fin 65, chk3 5 j = true := by decide +kernel
theorem chk3_6 : ∀ j : Fin 65, chk3 6 j = true := by decide +kernel
theorem chk3_7 : ∀ j : Fin 65, chk3 7 j = true := by decide +kernel
theorem chk3_8 : ∀ j : Fin 65, chk3 8 j = true := by decide +kernel
theorem chk3_9 : ∀ j : Fin 65, chk3 9 j = true := by decide +kernel
theorem chk3_10 : ∀ j : Fin 65, chk3 10 j = true := by decide +kernel
theorem chk3_11 : ∀ j : Fin 65, chk3 11 j = true := by decide +kernel
theorem chk3_12 : ∀ j : Fin 65, chk3 12 j = true := by decide +kernel
theorem chk3_13 : ∀ j : Fin 65, chk3 13 j = true := by decide +kernel
theorem chk3_14 : ∀ j : Fin 65, chk3 14 j = true := by decide +kernel
theorem chk3_15 : ∀ j : Fin 65, chk3 15 j = true := by decide +kernel
theorem chk3_16 : ∀ j : Fin 65, chk3 16 j = true := by decide +kernel
theorem chk3_17 : ∀ j : Fin 65, chk3 17 j = true := by decide +kernel
theorem chk3_18 : ∀ j : Fin 65, chk3 18 j = true := by decide +kernel
theorem chk3_19 : ∀ j : Fin 65, chk3 19 j = true := by decide +kernel
theorem chk3_20 : ∀ j : Fin 65, chk3 20 j = true := by decide +kernel
theorem chk3_21 : ∀ j : Fin 65, chk3 21 j = true := by decide +kernel
theorem chk3_22 : ∀ j : Fin 65, chk3 22 j = true := by decide +kernel
theorem chk3_23 : ∀ j : Fin 65, chk3 23 j = true := by decide +kernel
theorem chk3_24 : ∀ j : Fin 65, chk3 24 j = true := by decide +kernel
theorem chk3_25 : ∀ j : Fin 65, chk3 25 j = true := by decide +kernel
theorem chk3_26 : ∀ j : Fin 65, chk3 26 j = true := by decide +kernel
theorem chk3_27 : ∀ j : Fin 65, chk3 27 j = true := by decide +kernel
theorem chk3_28 : ∀ j : Fin 65, chk3 28 j = true := by decide +kernel
theorem chk3_29 : ∀ j : Fin 65, chk3 29 j = true := by decide +kernel
theorem chk3_30 : ∀ j : Fin 65, chk3 30 j = true := by decide +kernel
theorem chk3_31 : ∀ j : Fin 65, chk3 31 j = true := by decide +kernel
theorem chk3_32 : ∀ j : Fin 65, chk3 32 j = true := by decide +kernel
theorem chk3_33 : ∀ j : Fin 65, chk3 33 j = true := by decide +kernel
theorem chk3_34 : ∀ j : Fin 65, chk3 34 j = true := by decide +kernel
theorem chk3_35 : ∀ j : Fin 65, chk3 35 j = true := by decide +kernel
theorem chk3_36 : ∀ j : Fin 65, chk3 36 j = true := by decide +kernel
theorem chk3_37 : ∀ j : Fin 65, chk3 37 j = true := by decide +kernel
theorem chk3_38 : ∀ j : Fin 65, chk3 38 j = true := by decide +kernel
theorem chk3_39 : ∀ j : Fin 65, chk3 39 j = true := by decide +kernel
theorem chk3_40 : ∀ j : Fin 65, chk3 40 j = true := by decide +kernel
theorem chk3_41 : ∀ j : Fin 65, chk3 41 j = true := by decide +kernel
theorem chk3_42 : ∀ j : Fin 65, chk3 42 j = true := by decide +kernel
theorem chk3_43 : ∀ j : Fin 65, chk3 43 j = true := by decide +kernel
theorem chk3_44 : ∀ j : Fin 65, chk3 44 j = true := by decide +kernel
theorem chk3_45 : ∀ j : Fin 65, chk3 45 j = true := by decide +kernel
theorem chk3_46 : ∀ j : Fin 65, chk3 46 j = true := by decide +kernel
theorem chk3_47 : ∀ j : Fin 65, chk3 47 j = true := by decide +kernel
theorem chk3_48 : ∀ j : Fin 65, chk3 48 j = true := by decide +kernel
theorem chk3_49 : ∀ j : Fin 65, chk3 49 j = true := by decide +kernel
theorem chk3_50 : ∀ j : Fin 65, chk3 50 j = true := by decide +kernel
theorem chk3_51 : ∀ j : Fin 65, chk3 51 j = true := by decide +kernel
theorem chk3_52 : ∀ j : Fin 65, chk3 52 j = true := by decide +kernel
theorem chk3_53 : ∀ j : Fin 65, chk3 53 j = true := by decide +kernel
theorem chk3_54 : ∀ j : Fin 65, chk3 54 j = true := by decide +kernel
theorem chk3_55 : ∀ j : Fin 65, chk3 55 j = true := by decide +kernel
theorem chk3_56 : ∀ j : Fin 65, chk3 56 j = true := by decide +kernel
theorem chk3_57 : ∀ j : Fin 65, chk3 57 j = true := by decide +kernel
theorem chk3_58 : ∀ j : Fin 65, chk3 58 j = true := by decide +kernel
theorem chk3_59 : ∀ j : Fin 65, chk3 59 j = true := by decide +kernel
theorem chk3_60 : ∀ j : Fin 65, chk3 60 j = true := by decide +kernel
theorem chk3_61 : ∀ j : Fin 65, chk3 61 j = true := by decide +kernel
theorem chk3_62 : ∀ j : Fin 65, chk3 62 j = true := by decide +kernel
theorem chk3_63 : ∀ j : Fin 65, chk3 63 j = true := by decide +kernel
theorem chk3_64 : ∀ j : Fin 65, chk3 64 j = true := by decide +kernel
theorem chk3_all (i : Fin 65) : ∀ j : Fin 65, chk3 i j = true := by
  match i with
  | ⟨0, _⟩ => exact chk3_0
  | ⟨1, _⟩ => exact chk3_1
  | ⟨2, _⟩ => exact chk3_2
  | ⟨3, _⟩ => exact chk3_3
  | ⟨4, _⟩ => exact chk3_4
  | ⟨5, _⟩ => exact chk3_5
  | ⟨6, _⟩ => exact chk3_6
  | ⟨7, _⟩ => exact chk3_7
  | ⟨8, _⟩ => exact chk3_8
  | ⟨9, _⟩ => exact chk3_9
  | ⟨10, _⟩ => exact chk3_10
  | ⟨11, _⟩ => exact chk3_11
  | ⟨12, _⟩ => exact chk3_12
  | ⟨13, _⟩ => exact chk3_13
  | ⟨14, _⟩ => exact chk3_14
  | ⟨15, _⟩ => exact chk3_15
  | ⟨16, _⟩ => exact chk3_16
  | ⟨17, _⟩ => exact chk3_17
  | ⟨18, _⟩ => exact chk3_18
  | ⟨19, _⟩ => exact chk3_19
  | ⟨20, _⟩ => exact chk3_20
  | ⟨21, _⟩ => exact chk3_21
  | ⟨22, _⟩ => exact chk3_22
  | ⟨23, _⟩ => exact chk3_23
  | ⟨24, _⟩ => exact chk3_24
  | ⟨25, _⟩ => exact chk3_25
  | ⟨26, _⟩ => exact chk3_26
  | ⟨27, _⟩ => exact chk3_27
  | ⟨28, _⟩ => exact chk3_28
  | ⟨29, _⟩ => exact chk3_29
  | ⟨30, _⟩ => exact chk3_30
  | ⟨31, _⟩ => exact chk3_31
  | ⟨32, _⟩ => exact chk3_32
  | ⟨33, _⟩ => exact chk3_33
  | ⟨34, _⟩ => exact chk3_34
  | ⟨35, _⟩ => exact chk3_35
  | ⟨36, _⟩ => exact chk3_36
  | ⟨37, _⟩ => exact chk3_37
  | ⟨38, _⟩ => exact chk3_38
  | ⟨39, _⟩ => exact chk3_39
  | ⟨40, _⟩ => exact chk3_40
  | ⟨41, _⟩ => exact chk3_41
  | ⟨42, _⟩ => exact chk3_42
  | ⟨43, _⟩ => exact chk3_43
  | ⟨44, _⟩ => exact chk3_44
  | ⟨45, _⟩ => exact chk3_45
  | ⟨46, _⟩ => exact chk3_46
  | ⟨47, _⟩ => exact chk3_47
  | ⟨48, _⟩ => exact chk3_48
  | ⟨49, _⟩ => exact chk3_49
  | ⟨50, _⟩ => exact chk3_50
  | ⟨51, _⟩ => exact chk3_51
  | ⟨52, _⟩ => exact chk3_52
  | ⟨53, _⟩ => exact chk3_53
  | ⟨54, _⟩ => exact chk3_54
  | ⟨55, _⟩ => exact chk3_55
  | ⟨56, _⟩ => exact chk3_56
  | ⟨57, _⟩ => exact chk3_57
  | ⟨58, _⟩ => exact chk3_58
  | ⟨59, _⟩ => exact chk3_59
  | ⟨60, _⟩ => exact chk3_60
  | ⟨61, _⟩ => exact chk3_61
  | ⟨62, _⟩ => exact chk3_62
  | ⟨63, _⟩ => exact chk3_63
  | ⟨64, _⟩ => exact chk3_64
  | ⟨n + 65, h⟩ => exact absurd h (by omega)
theorem two_facts (i j : Nat) (hi : i < 65) (hj : j < 65) : raw .add .f32 (tT (i + 32)) (tT (j + 32)) = some (tT (i + j)) ∧
    lt .f64 (gapF (F .mul .f64 (widen (eT (i + 32))) (widen (eT (j + 32)))) (widen (eT (i + j)))) (F .mul .f64 4562254508917369340 (widen (eT (i + j)))) = true := by
  have hc := chk3_all ⟨i, hi⟩ ⟨j, hj⟩
  unfold chk3 at hc
  simp only [fc_eq, Bool.and_eq_true, beq_iff_eq] at hc
  exact hc
theorem cntE (g : Nat) (h0 : 1 ≤ g) (h : g ≤ 12) : raw .sub .f64 (fl g) 4607182418800017408 = some (fl (g - 1)) ∧ ge .f64 (fl g) 4607182418800017408 = true ∧ can .f64 (fl g) = fl g := by
  have : ∀ m : Fin 13, 1 ≤ m.val → (raw .sub .f64 (fl m) 4607182418800017408 = some (fl (m - 1)) ∧ ge .f64 (fl m) 4607182418800017408 = true ∧ can .f64 (fl m) = fl m) := by decide +kernel
  exact this ⟨g, by omega⟩ h0
theorem pE_step (t g : Nat) (h0 : 1 ≤ g) (h : g ≤ 12) : pE t (12 - (g - 1)) = F .add .f64 4607182418800017408 (F .quo .f64 (F .mul .f64 t (pE t (12 - g))) (fl g)) := by
  rw [show 12 - (g - 1) = (12 - g) + 1 by omega]
  show F .add .f64 _ (F .quo .f64 _ (fl (12 - (12 - g)))) = _
  rw [show 12 - (12 - g) = g by omega]
end Fl
end Go.Proofs.Yteoedcbnffkjkaa
