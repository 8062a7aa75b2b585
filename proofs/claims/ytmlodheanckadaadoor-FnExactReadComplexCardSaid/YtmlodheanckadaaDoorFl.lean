/-
  Floating-point numbers as the model has them, as plain functions of their bits: what '+', '-', '*', '/', the comparisons, the conversions between the two kinds and math.Sqrt give, where all not-a-numbers count as one ('can'). No condition.
-/
import Derived.WalkKit
import Derived.Deep.Draws
import Derived.Laws.FloatBits
namespace Go.Proofs.YtmlodheanckadaaDoor
namespace Fl
set_option linter.unusedSimpArgs false
set_option linter.unusedVariables false

def qnan : FloatKind → Nat
  | .f32 => 2143289344
  | .f64 => 9221120237041090560

/-- Not a number. -/
def isN (k : FloatKind) (x : Nat) : Bool := (k.format.read x).isNaN

/-- All not-a-numbers are one. -/
def can (k : FloatKind) (x : Nat) : Nat := if isN k x then qnan k else x

def raw (op : BinOp) (k : FloatKind) (x y : Nat) : Option Nat :=
  match op with
  | .add => k.format.add x y
  | .sub => k.format.sub x y
  | .mul => k.format.mul x y
  | .quo => k.format.div x y
  | _ => none

/-- The result, one not-a-number for all. -/
def F (op : BinOp) (k : FloatKind) (x y : Nat) : Nat := (raw op k x y).getD (qnan k)

def ans (w : World) (q : Question) : Nat := q.cut (w.tape w.drawn q)

/-- The bits that the model gives. -/
def out (w : World) (op : BinOp) (k : FloatKind) (x y : Nat) : Nat := (raw op k x y).getD (ans w (.nanBits k x y))

/-- How many answers of the tape it takes. -/
def dr (op : BinOp) (k : FloatKind) (x y : Nat) : Nat := if (raw op k x y).isSome then 0 else 1

def lt (k : FloatKind) (x y : Nat) : Bool := k.format.order x y == some .lt
def eq (k : FloatKind) (x y : Nat) : Bool := k.format.order x y == some .eq
def gt (k : FloatKind) (x y : Nat) : Bool := k.format.order x y == some .gt
def ge (k : FloatKind) (x y : Nat) : Bool := gt k x y || eq k x y
def le (k : FloatKind) (x y : Nat) : Bool := lt k x y || eq k x y

theorem read_qnan (k : FloatKind) : (k.format.read (qnan k)).isNaN = true := by cases k <;> decide +kernel

theorem isN_qnan (k : FloatKind) : isN k (qnan k) = true := read_qnan k

theorem isN_can (k : FloatKind) (x : Nat) : isN k (can k x) = isN k x := by
  unfold can
  split
  · rename_i h; rw [isN_qnan, h]
  · rfl

theorem can_can (k : FloatKind) (x : Nat) : can k (can k x) = can k x := by
  unfold can
  split
  · rename_i h; rw [if_pos (isN_qnan k)]
  · rfl

theorem can_of (k : FloatKind) (x : Nat) (h : isN k x = false) : can k x = x := by unfold can; rw [if_neg (by simp [h])]

theorem read_nan {k : FloatKind} {x : Nat} (h : isN k x = true) : ∃ s t, k.format.read x = .nan s t := by
  unfold isN Ieee.Datum.isNaN at h
  cases hr : k.format.read x <;> simp_all

theorem order_nan_left {k : FloatKind} {x y : Nat} (h : isN k x = true) : k.format.order x y = none := by
  obtain ⟨s, t, e⟩ := read_nan h
  unfold Ieee.Format.order Ieee.Datum.order
  rw [e]
theorem order_nan_right {k : FloatKind} {x y : Nat} (h : isN k y = true) : k.format.order x y = none := by
  obtain ⟨s, t, e⟩ := read_nan h
  unfold Ieee.Format.order Ieee.Datum.order
  rw [e]
  cases k.format.read x <;> rfl

theorem order_can (k : FloatKind) (x y : Nat) : k.format.order (can k x) (can k y) = k.format.order x y := by
  by_cases hx : isN k x = true
  · rw [order_nan_left (by rw [isN_can]; exact hx), order_nan_left hx]
  · rw [can_of k x (by simpa using hx)]
    by_cases hy : isN k y = true
    · rw [order_nan_right (by rw [isN_can]; exact hy), order_nan_right hy]
    · rw [can_of k y (by simpa using hy)]

theorem lt_can (k : FloatKind) (x y : Nat) : lt k (can k x) (can k y) = lt k x y := by unfold lt; rw [order_can]
theorem eq_can (k : FloatKind) (x y : Nat) : eq k (can k x) (can k y) = eq k x y := by unfold eq; rw [order_can]
theorem gt_can (k : FloatKind) (x y : Nat) : gt k (can k x) (can k y) = gt k x y := by unfold gt; rw [order_can]

theorem compare_self_int (n : Int) : compare n n = .eq := by simp [compare, compareOfLessAndEq]
theorem compare_self_nat (n : Nat) : compare n n = .eq := by simp [compare, compareOfLessAndEq]
theorem order_self {k : FloatKind} {x : Nat} (h : isN k x = false) : k.format.order x x = some .eq := by
  unfold isN at h
  unfold Ieee.Format.order Ieee.Datum.order
  cases hr : k.format.read x with
  | nan s t => rw [hr] at h; exact absurd h (by simp [Ieee.Datum.isNaN])
  | infinity s => simp only [compare_self_nat]
  | number s m e => simp only [compare_self_int]
theorem eq_self (k : FloatKind) (x : Nat) : eq k x x = !(isN k x) := by
  cases h : isN k x with
  | true => unfold eq; rw [order_nan_left h]; rfl
  | false => unfold eq; rw [order_self h]; rfl
theorem eq_can_self (k : FloatKind) (x : Nat) : eq k (can k x) (can k x) = !(isN k x) := by rw [eq_self, isN_can]
theorem can_nan {k : FloatKind} {x : Nat} (h : isN k x = true) : can k x = qnan k := by unfold can; rw [if_pos h]
theorem wf32 {x : Nat} (h : (Lit.float .f32 x).wf = true) : x < 4294967296 := by simpa [Lit.wf] using h
theorem wf64 {x : Nat} (h : (Lit.float .f64 x).wf = true) : x < 18446744073709551616 := by simpa [Lit.wf] using h
theorem can32_lt {x : Nat} (h : x < 4294967296) : can .f32 x < 4294967296 := by
  unfold can; split
  · decide
  · exact h
theorem can64_lt {x : Nat} (h : x < 18446744073709551616) : can .f64 x < 18446744073709551616 := by
  unfold can; split
  · decide
  · exact h

theorem sum_nan_left (a b : Ieee.Datum) (h : a.isNaN = true) : a.sum b = none := by
  cases a <;> simp_all [Ieee.Datum.isNaN, Ieee.Datum.sum]
theorem sum_nan_right (a b : Ieee.Datum) (h : b.isNaN = true) : a.sum b = none := by
  cases b <;> simp_all [Ieee.Datum.isNaN]
  cases a <;> rfl
theorem opposite_nan (b : Ieee.Datum) : b.opposite.isNaN = b.isNaN := by cases b <;> rfl
theorem product_nan_left (a b : Ieee.Datum) (h : a.isNaN = true) : a.product b = none := by
  cases a <;> simp_all [Ieee.Datum.isNaN, Ieee.Datum.product]
theorem product_nan_right (a b : Ieee.Datum) (h : b.isNaN = true) : a.product b = none := by
  cases b <;> simp_all [Ieee.Datum.isNaN]
  cases a <;> rfl
theorem quotient_nan_left (d : Nat) (a b : Ieee.Datum) (h : a.isNaN = true) : a.quotient d b = none := by
  cases a <;> simp_all [Ieee.Datum.isNaN, Ieee.Datum.quotient]
theorem quotient_nan_right (d : Nat) (a b : Ieee.Datum) (h : b.isNaN = true) : a.quotient d b = none := by
  cases b <;> simp_all [Ieee.Datum.isNaN]
  cases a <;> rfl

theorem raw_nan_left {op : BinOp} {k : FloatKind} {x y : Nat} (h : isN k x = true) : raw op k x y = none := by
  have h' : (k.format.read x).isNaN = true := h
  unfold raw
  cases op <;> simp only [Ieee.Format.add, Ieee.Format.sub, Ieee.Format.mul, Ieee.Format.div, sum_nan_left _ _ h', product_nan_left _ _ h', quotient_nan_left _ _ _ h', Option.map_none]
theorem raw_nan_right {op : BinOp} {k : FloatKind} {x y : Nat} (h : isN k y = true) : raw op k x y = none := by
  have h' : (k.format.read y).isNaN = true := h
  have h'' : (k.format.read y).opposite.isNaN = true := by rw [opposite_nan]; exact h'
  unfold raw
  cases op <;> simp only [Ieee.Format.add, Ieee.Format.sub, Ieee.Format.mul, Ieee.Format.div, sum_nan_right _ _ h', sum_nan_right _ _ h'', product_nan_right _ _ h', quotient_nan_right _ _ _ h', Option.map_none]

theorem raw_can (op : BinOp) (k : FloatKind) (x y : Nat) : raw op k (can k x) (can k y) = raw op k x y := by
  by_cases hx : isN k x = true
  · rw [raw_nan_left (by rw [isN_can]; exact hx), raw_nan_left hx]
  · rw [can_of k x (by simpa using hx)]
    by_cases hy : isN k y = true
    · rw [raw_nan_right (by rw [isN_can]; exact hy), raw_nan_right hy]
    · rw [can_of k y (by simpa using hy)]

theorem F_can (op : BinOp) (k : FloatKind) (x y : Nat) : F op k (can k x) (can k y) = F op k x y := by unfold F; rw [raw_can]

-- what is written is no NaN
theorem read_word (f : Ieee.Format) (s : Bool) (r : Nat) (h : r ≤ f.infRung) : (f.read (f.word s r)).isNaN = false := by
  have hl := f.infRung_lt
  have hr : f.word s r % f.signWeight = r := by
    unfold Ieee.Format.word
    split
    · rw [Nat.add_mod, Nat.mod_self, Nat.zero_add, Nat.mod_mod, Nat.mod_eq_of_lt (by omega)]
    · rw [Nat.mod_eq_of_lt (by omega)]
  unfold Ieee.Format.read
  simp only [hr]
  split
  · rfl
  · split
    · rfl
    · split
      · rfl
      · omega

theorem write_notNaN (f : Ieee.Format) (d : Ieee.Datum) (h : d.isNaN = false) : (f.read (f.write d)).isNaN = false := by
  cases d with
  | nan s t => simp [Ieee.Datum.isNaN] at h
  | infinity s => exact read_word f s _ (Nat.le_refl _)
  | number s m e =>
    simp only [Ieee.Format.write, Ieee.Format.nearest]
    split
    · exact read_word f s 0 (Nat.zero_le _)
    · exact read_word f s _ (Nat.min_le_right _ _)

theorem sum_num {a b c : Ieee.Datum} (h : a.sum b = some c) : c.isNaN = false := by
  unfold Ieee.Datum.sum at h
  split at h <;> try (simp at h; done)
  · split at h
    · cases h; rfl
    · cases h
  · cases h; rfl
  · cases h; rfl
  · cases h; rfl
theorem product_num {a b c : Ieee.Datum} (h : a.product b = some c) : c.isNaN = false := by
  unfold Ieee.Datum.product at h
  split at h <;> try (simp at h; done)
  · cases h; rfl
  · split at h
    · cases h
    · cases h; rfl
  · split at h
    · cases h
    · cases h; rfl
  · cases h; rfl
theorem quotient_num {d : Nat} {a b c : Ieee.Datum} (h : a.quotient d b = some c) : c.isNaN = false := by
  unfold Ieee.Datum.quotient at h
  split at h <;> try (simp at h; done)
  · cases h; rfl
  · cases h; rfl
  · split at h
    · split at h
      · cases h
      · cases h; rfl
    · cases h; rfl

theorem raw_num {op : BinOp} {k : FloatKind} {x y r : Nat} (h : raw op k x y = some r) : isN k r = false := by
  unfold raw at h
  split at h
  · obtain ⟨d, hd, rfl⟩ := Option.map_eq_some_iff.1 h; exact write_notNaN _ _ (sum_num hd)
  · obtain ⟨d, hd, rfl⟩ := Option.map_eq_some_iff.1 h; exact write_notNaN _ _ (sum_num hd)
  · obtain ⟨d, hd, rfl⟩ := Option.map_eq_some_iff.1 h; exact write_notNaN _ _ (product_num hd)
  · obtain ⟨d, hd, rfl⟩ := Option.map_eq_some_iff.1 h; exact write_notNaN _ _ (quotient_num hd)
  · cases h

theorem nan32 (t : Nat) : isN .f32 ((t % 2) * 2 ^ 31 + 0x7f800000 + 1 + (t / 2) % (2 ^ 23 - 1)) = true := by
  have h1 : (t / 2) % (2 ^ 23 - 1) < 2 ^ 23 - 1 := Nat.mod_lt _ (by decide)
  generalize (t / 2) % (2 ^ 23 - 1) = u at h1 ⊢
  have h2 : t % 2 < 2 := Nat.mod_lt _ (by decide)
  generalize t % 2 = v at h2 ⊢
  have e1 : Ieee.single.signWeight = 2147483648 := by decide
  have e2 : Ieee.single.infRung = 2139095040 := by decide
  have e3 : Ieee.single.binade = 8388608 := by decide
  unfold isN Ieee.Format.read
  simp only [FloatKind.format, e1, e2, e3]
  rw [show (v * 2 ^ 31 + 0x7f800000 + 1 + u) % 2147483648 = 2139095041 + u by omega]
  rw [if_neg (by omega), if_neg (by omega), if_neg (by omega)]
  rfl
theorem nan64 (t : Nat) : isN .f64 ((t % 2) * 2 ^ 63 + 0x7ff0000000000000 + 1 + (t / 2) % (2 ^ 52 - 1)) = true := by
  have h1 : (t / 2) % (2 ^ 52 - 1) < 2 ^ 52 - 1 := Nat.mod_lt _ (by decide)
  generalize (t / 2) % (2 ^ 52 - 1) = u at h1 ⊢
  have h2 : t % 2 < 2 := Nat.mod_lt _ (by decide)
  generalize t % 2 = v at h2 ⊢
  have e1 : Ieee.double.signWeight = 9223372036854775808 := by decide
  have e2 : Ieee.double.infRung = 9218868437227405312 := by decide
  have e3 : Ieee.double.binade = 4503599627370496 := by decide
  unfold isN Ieee.Format.read
  simp only [FloatKind.format, e1, e2, e3]
  rw [show (v * 2 ^ 63 + 0x7ff0000000000000 + 1 + u) % 9223372036854775808 = 9218868437227405313 + u by omega]
  rw [if_neg (by omega), if_neg (by omega), if_neg (by omega)]
  rfl

theorem isN_nanBits (w : World) (k : FloatKind) (x y : Nat) : isN k (ans w (.nanBits k x y)) = true := by
  cases k
  · exact nan32 _
  · exact nan64 _
theorem isN_nanConv (w : World) (k : FloatKind) (x : Nat) : isN k (ans w (.nanConv k x)) = true := by
  cases k
  · exact nan32 _
  · exact nan64 _

/-- THE BITS THAT THE MODEL GIVES ARE THE PLAIN FUNCTION's. -/
theorem can_out (w : World) (op : BinOp) (k : FloatKind) (x y : Nat) : can k (out w op k x y) = F op k (can k x) (can k y) := by
  rw [F_can]
  unfold out F
  cases h : raw op k x y with
  | none => simp only [Option.getD_none]; unfold can; rw [if_pos (isN_nanBits w k x y)]
  | some r => simp only [Option.getD_some]; exact can_of k r (raw_num h)

theorem can_F (op : BinOp) (k : FloatKind) (x y : Nat) : can k (F op k x y) = F op k x y := by
  unfold F
  cases h : raw op k x y with
  | none => simp only [Option.getD_none]; unfold can; rw [if_pos (isN_qnan k)]
  | some r => simp only [Option.getD_some]; exact can_of k r (raw_num h)

/-- Where the operation is valid the model gives just that. -/
theorem out_of {w : World} {op : BinOp} {k : FloatKind} {x y r : Nat} (h : raw op k x y = some r) : out w op k x y = r := by
  unfold out; rw [h]; rfl
theorem dr_of {op : BinOp} {k : FloatKind} {x y r : Nat} (h : raw op k x y = some r) : dr op k x y = 0 := by
  unfold dr; rw [h]; rfl

-- conversions
/-- float32 to float64. -/
def widen (x : Nat) : Nat := if isN .f32 x then qnan .f64 else FloatKind.f64.format.write (FloatKind.f32.format.read x)
def widenOut (w : World) (x : Nat) : Nat := if isN .f32 x then ans w (.nanConv .f64 x) else FloatKind.f64.format.write (FloatKind.f32.format.read x)
def widenDr (x : Nat) : Nat := if isN .f32 x then 1 else 0

theorem can_widen (x : Nat) : can .f64 (widen x) = widen x := by
  unfold widen
  split
  · unfold can; rw [if_pos (isN_qnan _)]
  · rename_i h; exact can_of _ _ (write_notNaN _ _ (by simpa [isN] using h))
theorem can_widenOut (w : World) (x : Nat) : can .f64 (widenOut w x) = widen (can .f32 x) := by
  unfold widenOut widen
  rw [isN_can]
  split
  · unfold can; rw [if_pos (isN_nanConv _ _ _)]
  · rename_i h
    rw [can_of .f32 x (by simpa using h)]
    exact can_of _ _ (write_notNaN _ _ (by simpa [isN] using h))

/-- float64 to float32, where it is finite and does not pass the kind, or no number, or an infinity. -/
def narrow (x : Nat) : Nat := if isN .f64 x then qnan .f32 else FloatKind.f32.format.write (FloatKind.f64.format.read x)
/-- The number is finite and too great for float32. -/
def over (x : Nat) : Bool :=
  match FloatKind.f64.format.read x with
  | .number s m e => (FloatKind.f32.format.read (FloatKind.f32.format.write (.number s m e))).isInfinity
  | _ => false
def narrowOut (w : World) (x : Nat) : Nat := if isN .f64 x then ans w (.nanConv .f32 x) else if over x then ans w (.floatToFloat x) else FloatKind.f32.format.write (FloatKind.f64.format.read x)
def narrowDr (x : Nat) : Nat := if isN .f64 x || over x then 1 else 0

theorem can_narrow (x : Nat) : can .f32 (narrow x) = narrow x := by
  unfold narrow
  split
  · unfold can; rw [if_pos (isN_qnan _)]
  · rename_i h; exact can_of _ _ (write_notNaN _ _ (by simpa [isN] using h))
theorem can_narrowOut (w : World) (x : Nat) (ho : over x = false) : can .f32 (narrowOut w x) = narrow (can .f64 x) := by
  unfold narrowOut narrow
  rw [isN_can, ho]
  split
  · unfold can; rw [if_pos (isN_nanConv _ _ _)]
  · rename_i h
    rw [can_of .f64 x (by simpa using h)]
    simp only [Bool.false_eq_true, if_false]
    exact can_of _ _ (write_notNaN _ _ (by simpa [isN] using h))

-- the root
def root (x : Nat) : Nat := (FloatKind.f64.format.sqrt x).getD (qnan .f64)
def rootOut (w : World) (x : Nat) : Nat := (FloatKind.f64.format.sqrt x).getD (ans w (.nanBits .f64 x x))
def rootDr (x : Nat) : Nat := if (FloatKind.f64.format.sqrt x).isSome then 0 else 1

theorem root_num {d : Nat} {a c : Ieee.Datum} (h : a.root d = some c) : c.isNaN = false := by
  unfold Ieee.Datum.root at h
  split at h
  · cases h
  · split at h
    · cases h
    · cases h; rfl
  · split at h
    · cases h; rfl
    · split at h
      · cases h
      · cases h; rfl
theorem sqrt_num {x r : Nat} (h : FloatKind.f64.format.sqrt x = some r) : isN .f64 r = false := by
  unfold Ieee.Format.sqrt at h
  obtain ⟨d, hd, rfl⟩ := Option.map_eq_some_iff.1 h
  exact write_notNaN _ _ (root_num hd)
theorem sqrt_nan {x : Nat} (h : isN .f64 x = true) : FloatKind.f64.format.sqrt x = none := by
  obtain ⟨s, t, e⟩ := read_nan h
  unfold Ieee.Format.sqrt
  rw [e]
  rfl
theorem can_rootOut (w : World) (x : Nat) : can .f64 (rootOut w x) = root (can .f64 x) := by
  unfold rootOut root
  by_cases hx : isN .f64 x = true
  · rw [sqrt_nan hx, sqrt_nan (by rw [isN_can]; exact hx)]
    simp only [Option.getD_none]
    unfold can
    rw [if_pos (isN_nanBits w .f64 x x)]
  · rw [can_of .f64 x (by simpa using hx)]
    cases h : FloatKind.f64.format.sqrt x with
    | none => simp only [Option.getD_none]; unfold can; rw [if_pos (isN_nanBits w .f64 x x)]
    | some r => simp only [Option.getD_some]; exact can_of _ r (sqrt_num h)

-- the walk's laws
section
variable {P : Program} (w : World)

theorem drewN_if (c : Bool) : (if c = true then w else w.drew) = w.drewN (if c then 0 else 1) := by cases c <;> rfl

theorem run_arith (op : BinOp) (k : FloatKind) (x y : Nat) (hop : op = .add ∨ op = .sub ∨ op = .mul ∨ op = .quo) :
    (Op.floatArith op k x y).run P w = .ok (.float k (out w op k x y)) (w.drewN (dr op k x y)) := by
  cases h : raw op k x y with
  | some r =>
    rw [out_of h, dr_of h, World.drewN_zero]
    rcases hop with rfl | rfl | rfl | rfl <;> (have h' := h; simp only [raw] at h'; simp [Op.floatArith, h'])
  | none =>
    have e1 : out w op k x y = ans w (.nanBits k x y) := by unfold out; rw [h]; rfl
    have e2 : dr op k x y = 1 := by unfold dr; rw [h]; rfl
    rw [e1, e2]
    rcases hop with rfl | rfl | rfl | rfl <;> (have h' := h; simp only [raw] at h'; simp [Op.floatArith, h', Question.forced, ans]; rfl)

@[go_sem] theorem run_add (t : TypeId) (k : FloatKind) (x y : Nat) : (binOp .add t (.float k x) (.float k y)).run P w = .ok (.float k (out w .add k x y)) (w.drewN (dr .add k x y)) := by
  have := run_arith (P := P) w .add k x y (by simp); simpa [binOp] using this
@[go_sem] theorem run_sub (t : TypeId) (k : FloatKind) (x y : Nat) : (binOp .sub t (.float k x) (.float k y)).run P w = .ok (.float k (out w .sub k x y)) (w.drewN (dr .sub k x y)) := by
  have := run_arith (P := P) w .sub k x y (by simp); simpa [binOp] using this
@[go_sem] theorem run_mul (t : TypeId) (k : FloatKind) (x y : Nat) : (binOp .mul t (.float k x) (.float k y)).run P w = .ok (.float k (out w .mul k x y)) (w.drewN (dr .mul k x y)) := by
  have := run_arith (P := P) w .mul k x y (by simp); simpa [binOp] using this
@[go_sem] theorem run_quo (t : TypeId) (k : FloatKind) (x y : Nat) : (binOp .quo t (.float k x) (.float k y)).run P w = .ok (.float k (out w .quo k x y)) (w.drewN (dr .quo k x y)) := by
  have := run_arith (P := P) w .quo k x y (by simp); simpa [binOp] using this

@[go_sem] theorem cmp_eql (t : TypeId) (k : FloatKind) (a b : Nat) : binOp .eql t (.float k a) (.float k b) = pure (.bool (eq k (can k a) (can k b))) := by rw [eq_can]; simp [binOp, Op.floatCmp, eq]
@[go_sem] theorem cmp_neq (t : TypeId) (k : FloatKind) (a b : Nat) : binOp .neq t (.float k a) (.float k b) = pure (.bool (!(eq k (can k a) (can k b)))) := by rw [eq_can]; simp [binOp, Op.floatCmp, eq]; rfl
@[go_sem] theorem cmp_lss (t : TypeId) (k : FloatKind) (a b : Nat) : binOp .lss t (.float k a) (.float k b) = pure (.bool (lt k (can k a) (can k b))) := by rw [lt_can]; simp [binOp, Op.floatCmp, lt]
@[go_sem] theorem cmp_leq (t : TypeId) (k : FloatKind) (a b : Nat) : binOp .leq t (.float k a) (.float k b) = pure (.bool (le k (can k a) (can k b))) := by unfold le; rw [lt_can, eq_can]; simp [binOp, Op.floatCmp, lt, eq]
@[go_sem] theorem cmp_gtr (t : TypeId) (k : FloatKind) (a b : Nat) : binOp .gtr t (.float k a) (.float k b) = pure (.bool (gt k (can k a) (can k b))) := by rw [gt_can]; simp [binOp, Op.floatCmp, gt]
@[go_sem] theorem cmp_geq (t : TypeId) (k : FloatKind) (a b : Nat) : binOp .geq t (.float k a) (.float k b) = pure (.bool (ge k (can k a) (can k b))) := by unfold ge; rw [gt_can, eq_can]; simp [binOp, Op.floatCmp, gt, eq]

end
end Fl
end Go.Proofs.YtmlodheanckadaaDoor
