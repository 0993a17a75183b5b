/- Floats with one NaN. -/
import Derived.Test.YtdfoobfofjbjiaaAbCore
set_option linter.unusedSimpArgs false
set_option linter.unusedVariables false
namespace Go.Ab
open Ieee

theorem read_nanOf (k : FloatKind) : (k.format.read (nanOf k)).isNaN = true := by cases k <;> rfl
theorem canon_nan {k : FloatKind} {b : Nat} (h : (k.format.read b).isNaN = true) : canon k b = nanOf k := by simp [canon, h]
theorem canon_num {k : FloatKind} {b : Nat} (h : (k.format.read b).isNaN = false) : canon k b = b := by simp [canon, h]
theorem canon_isNaN (k : FloatKind) (b : Nat) : (k.format.read (canon k b)).isNaN = (k.format.read b).isNaN := by
  cases h : (k.format.read b).isNaN
  · rw [canon_num h, h]
  · rw [canon_nan h, read_nanOf]
theorem canon_canon (k : FloatKind) (b : Nat) : canon k (canon k b) = canon k b := by
  cases h : (k.format.read b).isNaN
  · rw [canon_num (by rw [canon_isNaN, h]), canon_num h]
  · rw [canon_nan (by rw [canon_isNaN, h]), canon_nan h]

theorem Datum.nan_of {d : Datum} (h : d.isNaN = true) : ∃ s f, d = .nan s f := by
  cases d <;> simp [Datum.isNaN] at h
  exact ⟨_, _, rfl⟩

/-- A function of two data that has no answer at a NaN. -/
theorem canon2 {β : Type} (f : Datum → Datum → Option β) (h1 : ∀ s t d, f (.nan s t) d = none) (h2 : ∀ s t d, f d (.nan s t) = none) (k : FloatKind) (x y : Nat) :
    f (k.format.read (canon k x)) (k.format.read (canon k y)) = f (k.format.read x) (k.format.read y) := by
  cases hx : (k.format.read x).isNaN
  · rw [canon_num hx]
    cases hy : (k.format.read y).isNaN
    · rw [canon_num hy]
    · obtain ⟨s, t, e⟩ := Datum.nan_of hy
      obtain ⟨s', t', e'⟩ := Datum.nan_of (read_nanOf k)
      rw [canon_nan hy, e, e', h2, h2]
  · obtain ⟨s, t, e⟩ := Datum.nan_of hx
    obtain ⟨s', t', e'⟩ := Datum.nan_of (read_nanOf k)
    rw [canon_nan hx, e, e', h1, h1]
theorem canon1 {β : Type} (f : Datum → Option β) (h1 : ∀ s t, f (.nan s t) = none) (k : FloatKind) (x : Nat) :
    f (k.format.read (canon k x)) = f (k.format.read x) := by
  cases hx : (k.format.read x).isNaN
  · rw [canon_num hx]
  · obtain ⟨s, t, e⟩ := Datum.nan_of hx
    obtain ⟨s', t', e'⟩ := Datum.nan_of (read_nanOf k)
    rw [canon_nan hx, e, e', h1, h1]

theorem sum_nan1 (s : Bool) (t : Nat) (d : Datum) : Datum.sum (.nan s t) d = none := by cases d <;> rfl
theorem sum_nan2 (s : Bool) (t : Nat) (d : Datum) : Datum.sum d (.nan s t) = none := by cases d <;> rfl
theorem prod_nan1 (s : Bool) (t : Nat) (d : Datum) : Datum.product (.nan s t) d = none := by cases d <;> rfl
theorem prod_nan2 (s : Bool) (t : Nat) (d : Datum) : Datum.product d (.nan s t) = none := by cases d <;> rfl
theorem quot_nan1 (n : Nat) (s : Bool) (t : Nat) (d : Datum) : Datum.quotient n (.nan s t) d = none := by cases d <;> rfl
theorem quot_nan2 (n : Nat) (s : Bool) (t : Nat) (d : Datum) : Datum.quotient n d (.nan s t) = none := by cases d <;> rfl
theorem order_nan1 (s : Bool) (t : Nat) (d : Datum) : Datum.order (.nan s t) d = none := by cases d <;> rfl
theorem order_nan2 (s : Bool) (t : Nat) (d : Datum) : Datum.order d (.nan s t) = none := by cases d <;> rfl

theorem add_canon (k : FloatKind) (x y : Nat) : k.format.add (canon k x) (canon k y) = k.format.add x y := by
  simp only [Format.add]; rw [canon2 Datum.sum sum_nan1 sum_nan2]
theorem sub_canon (k : FloatKind) (x y : Nat) : k.format.sub (canon k x) (canon k y) = k.format.sub x y := by
  simp only [Format.sub]; rw [canon2 (fun a b => Datum.sum a b.opposite) (fun s t d => by simp only [sum_nan1]) (fun s t d => by simp only [Datum.opposite, sum_nan2])]
theorem mul_canon (k : FloatKind) (x y : Nat) : k.format.mul (canon k x) (canon k y) = k.format.mul x y := by
  simp only [Format.mul]; rw [canon2 Datum.product prod_nan1 prod_nan2]
theorem div_canon (k : FloatKind) (x y : Nat) : k.format.div (canon k x) (canon k y) = k.format.div x y := by
  simp only [Format.div]; rw [canon2 (Datum.quotient _) (quot_nan1 _) (quot_nan2 _)]
theorem order_canon (k : FloatKind) (x y : Nat) : k.format.order (canon k x) (canon k y) = k.format.order x y := by
  simp only [Format.order]; rw [canon2 Datum.order order_nan1 order_nan2]
theorem sqrt_canon (k : FloatKind) (x : Nat) : k.format.sqrt (canon k x) = k.format.sqrt x := by
  simp only [Format.sqrt]; rw [canon1 (Datum.root _) (fun s t => rfl)]

/-- What an operation gives: its bits, or the one NaN. -/
def outF (k : FloatKind) : Option Nat → Nat
  | some r => canon k r
  | none => nanOf k
def addF (k : FloatKind) (x y : Nat) : Nat := outF k (k.format.add x y)
def subF (k : FloatKind) (x y : Nat) : Nat := outF k (k.format.sub x y)
def mulF (k : FloatKind) (x y : Nat) : Nat := outF k (k.format.mul x y)
def divF (k : FloatKind) (x y : Nat) : Nat := outF k (k.format.div x y)
def sqrtF (k : FloatKind) (x : Nat) : Nat := outF k (k.format.sqrt x)
def ltF (k : FloatKind) (x y : Nat) : Bool := k.format.order x y == some .lt
def eqF (k : FloatKind) (x y : Nat) : Bool := k.format.order x y == some .eq
def leF (k : FloatKind) (x y : Nat) : Bool := k.format.order x y == some .lt || k.format.order x y == some .eq
def gtF (k : FloatKind) (x y : Nat) : Bool := k.format.order x y == some .gt
def geF (k : FloatKind) (x y : Nat) : Bool := k.format.order x y == some .gt || k.format.order x y == some .eq
def negF (k : FloatKind) (x : Nat) : Nat := canon k (Op.negFloat k x)
def ofIntF (k : FloatKind) (n : Int) : Nat := canon k (k.nearest n)

theorem read_nan_iff (f : Format) (x : Nat) (hb : f.binade ≤ f.infRung) : (f.read x).isNaN = decide (f.infRung < x % f.signWeight) := by
  simp only [Format.read]
  by_cases h1 : x % f.signWeight < f.binade
  · rw [if_pos h1]; simp [Datum.isNaN]; omega
  · rw [if_neg h1]
    by_cases h2 : x % f.signWeight < f.infRung
    · rw [if_pos h2]; simp [Datum.isNaN]; omega
    · rw [if_neg h2]
      by_cases h3 : x % f.signWeight = f.infRung
      · rw [if_pos h3]; simp [Datum.isNaN, h3]
      · rw [if_neg h3]; simp [Datum.isNaN]; omega
theorem kind_binade (k : FloatKind) : k.format.binade ≤ k.format.infRung := by cases k <;> decide

theorem cut32_nan (t : Nat) : (Ieee.single.read ((t % 2) * 2 ^ 31 + 0x7f800000 + 1 + (t / 2) % (2 ^ 23 - 1))).isNaN = true := by
  rw [read_nan_iff Ieee.single _ (kind_binade .f32)]
  have h1 : Ieee.single.infRung = 2139095040 := by decide
  have h2 : Ieee.single.signWeight = 2147483648 := by decide
  rw [h1, h2, show (t % 2) * 2 ^ 31 + 0x7f800000 + 1 + (t / 2) % (2 ^ 23 - 1) = 2147483648 * (t % 2) + (2139095041 + (t / 2) % 8388607) from by omega, Nat.mul_add_mod, Nat.mod_eq_of_lt (by omega)]
  simp only [decide_eq_true_eq]
  omega
theorem cut64_nan (t : Nat) : (Ieee.double.read ((t % 2) * 2 ^ 63 + 0x7ff0000000000000 + 1 + (t / 2) % (2 ^ 52 - 1))).isNaN = true := by
  rw [read_nan_iff Ieee.double _ (kind_binade .f64)]
  have h1 : Ieee.double.infRung = 9218868437227405312 := by decide
  have h2 : Ieee.double.signWeight = 9223372036854775808 := by decide
  rw [h1, h2, show (t % 2) * 2 ^ 63 + 0x7ff0000000000000 + 1 + (t / 2) % (2 ^ 52 - 1) = 9223372036854775808 * (t % 2) + (9218868437227405313 + (t / 2) % 4503599627370495) from by omega, Nat.mul_add_mod, Nat.mod_eq_of_lt (by omega)]
  simp only [decide_eq_true_eq]
  omega
theorem cut_nanBits (k : FloatKind) (x y t : Nat) : canon k ((Question.nanBits k x y).cut t) = nanOf k := by
  cases k
  · exact canon_nan (k := .f32) (cut32_nan t)
  · exact canon_nan (k := .f64) (cut64_nan t)
theorem cut_nanConv (k : FloatKind) (x t : Nat) : canon k ((Question.nanConv k x).cut t) = nanOf k := by
  cases k
  · exact canon_nan (k := .f32) (cut32_nan t)
  · exact canon_nan (k := .f64) (cut64_nan t)
theorem cut_nanMinMax (k : FloatKind) (m : Bool) (x y t : Nat) : canon k ((Question.nanMinMax k m x y).cut t) = nanOf k := by
  cases k
  · exact canon_nan (k := .f32) (cut32_nan t)
  · exact canon_nan (k := .f64) (cut64_nan t)

/-- The sign bit turned leaves the rung as it is. -/
theorem xor_mod (x n : Nat) : (x ^^^ 2 ^ n) % 2 ^ n = x % 2 ^ n := by
  apply Nat.eq_of_testBit_eq
  intro i
  simp only [Nat.testBit_mod_two_pow, Nat.testBit_xor, Nat.testBit_two_pow]
  by_cases h : i < n
  · have : decide (n = i) = false := by simp; omega
    simp [h, this]
  · simp [h]
theorem neg_isNaN (k : FloatKind) (x : Nat) : (k.format.read (Op.negFloat k x)).isNaN = (k.format.read x).isNaN := by
  rw [read_nan_iff _ _ (kind_binade k), read_nan_iff _ _ (kind_binade k)]
  have : Op.negFloat k x % k.format.signWeight = x % k.format.signWeight := xor_mod x _
  rw [this]
theorem negF_canon (k : FloatKind) (x : Nat) : negF k (canon k x) = canon k (Op.negFloat k x) := by
  unfold negF
  cases h : (k.format.read x).isNaN
  · rw [canon_num h]
  · rw [canon_nan (b := Op.negFloat k (canon k x)) (by rw [neg_isNaN, canon_isNaN, h]), canon_nan (b := Op.negFloat k x) (by rw [neg_isNaN, h])]
end Go.Ab
