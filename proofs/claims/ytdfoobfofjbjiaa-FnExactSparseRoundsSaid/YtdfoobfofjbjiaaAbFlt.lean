/- Floats: which numbers are finite, and that widening, roots and narrowing of 32-bit numbers stay in range. -/
import Derived.Test.YtdfoobfofjbjiaaAbLib
set_option linter.unusedSimpArgs false
set_option linter.unusedVariables false
namespace Go.Ab
open Ieee

/-- Whether a float is a number. -/
def isFin (k : FloatKind) (b : Nat) : Bool := match k.format.read b with | .number .. => true | _ => false
def isInfF (k : FloatKind) (b : Nat) : Bool := (k.format.read b).isInfinity
def isNaNF (k : FloatKind) (b : Nat) : Bool := (k.format.read b).isNaN

theorem fin_iff (k : FloatKind) (b : Nat) : isFin k b = (!isNaNF k b && !isInfF k b) := by
  unfold isFin isNaNF isInfF
  cases k.format.read b <;> rfl

theorem infRung_pos (k : FloatKind) : 0 < k.format.infRung := by cases k <;> decide
theorem word_small (f : Format) (r : Nat) (h : r < f.signWeight) : ∀ neg, f.word neg r % f.signWeight = r := by
  intro neg
  unfold Format.word
  split
  · rw [Nat.add_mod_left, Nat.mod_eq_of_lt h]
  · exact Nat.mod_eq_of_lt h
theorem isFin_iff (k : FloatKind) (b : Nat) : isFin k b = decide (b % k.format.signWeight < k.format.infRung) := by
  unfold isFin
  have hb := kind_binade k
  simp only [Format.read]
  by_cases h1 : b % k.format.signWeight < k.format.binade
  · rw [if_pos h1]; simp; omega
  · rw [if_neg h1]
    by_cases h2 : b % k.format.signWeight < k.format.infRung
    · rw [if_pos h2]; simp [h2]
    · rw [if_neg h2]
      by_cases h3 : b % k.format.signWeight = k.format.infRung
      · rw [if_pos h3]; simp [h3]
      · rw [if_neg h3]; simp; omega
theorem isInf_iff (k : FloatKind) (b : Nat) : isInfF k b = decide (b % k.format.signWeight = k.format.infRung) := by
  unfold isInfF
  have hb := kind_binade k
  simp only [Format.read]
  by_cases h1 : b % k.format.signWeight < k.format.binade
  · rw [if_pos h1]; simp [Datum.isInfinity]; omega
  · rw [if_neg h1]
    by_cases h2 : b % k.format.signWeight < k.format.infRung
    · rw [if_pos h2]; simp [Datum.isInfinity]; omega
    · rw [if_neg h2]
      by_cases h3 : b % k.format.signWeight = k.format.infRung
      · rw [if_pos h3]; simp [Datum.isInfinity, h3]
      · rw [if_neg h3]; simp [Datum.isInfinity, h3]
theorem isNaN_iff (k : FloatKind) (b : Nat) : isNaNF k b = decide (k.format.infRung < b % k.format.signWeight) := read_nan_iff _ _ (kind_binade k)
theorem infRung_lt (k : FloatKind) : k.format.infRung < k.format.signWeight := by cases k <;> decide

/-! what is taken from itself -/
theorem order_zero (k : FloatKind) : k.format.order 0 0 = some .eq := by cases k <;> decide
theorem signed_neg (s : Bool) (m : Nat) : signed s m 0 + signed (!s) m 0 = 0 := by
  unfold signed
  cases s <;> simp <;> omega
theorem canon_zero (k : FloatKind) : canon k 0 = 0 := by cases k <;> decide
theorem sub_self_fin (k : FloatKind) (b : Nat) : eqF k (subF k b b) 0 = isFin k b := by
  unfold isFin subF eqF
  simp only [Format.sub]
  cases h : k.format.read b with
  | number s m e =>
    simp only [Datum.opposite, Datum.sum, Option.map_some, outF]
    have e0 : (e - min e e).toNat = 0 := by rw [Int.min_self]; simp
    rw [e0, signed_neg, if_pos rfl]
    have : (s && !s) = false := by cases s <;> rfl
    rw [this]
    have e1 : k.format.write (.number false (Int.natAbs 0) (min e e)) = 0 := by simp [Format.write, Format.nearest, Format.word]
    rw [e1, canon_zero, order_zero]; rfl
  | infinity s =>
    simp only [Datum.opposite, Datum.sum]
    rw [if_neg (by cases s <;> simp)]
    simp only [Option.map_none, outF, Format.order]
    obtain ⟨s', t', e'⟩ := Datum.nan_of (read_nanOf k)
    rw [e', order_nan1]; rfl
  | nan s t =>
    simp only [Datum.opposite, sum_nan1]
    simp only [Option.map_none, outF, Format.order]
    obtain ⟨s', t', e'⟩ := Datum.nan_of (read_nanOf k)
    rw [e', order_nan1]; rfl

/-- A number is itself, unless it is no number. -/
theorem order_self (k : FloatKind) (b : Nat) : k.format.order b b = if isNaNF k b then none else some .eq := by
  unfold isNaNF
  simp only [Format.order]
  cases h : k.format.read b with
  | number s m e => simp [Datum.order, Datum.isNaN]
  | infinity s => simp [Datum.order, Datum.isNaN]
  | nan s t => simp [Datum.order, Datum.isNaN]
theorem eqF_self (k : FloatKind) (b : Nat) : eqF k b b = !isNaNF k b := by
  unfold eqF
  rw [order_self]
  cases isNaNF k b <;> simp

/-! rounding -/
/-- The rung of the word nearest to a number. -/
def rung (f : Format) (mag : Nat) (place : Int) : Nat :=
  let last := max (place + mag.log2 - f.fractionBits) f.leastPlace
  (last - f.leastPlace).toNat * f.binade + Toward.even.cut false (mag <<< (place - last).toNat) (last - place).toNat
theorem cut_even (neg : Bool) (n d : Nat) : Toward.even.cut neg n d = Toward.even.cut false n d := rfl
theorem nearest_rung (f : Format) (neg : Bool) (mag : Nat) (place : Int) (h : mag ≠ 0) : f.nearest neg mag place = f.word neg (min (rung f mag place) f.infRung) := by
  unfold Format.nearest rung
  rw [if_neg h]
  simp only [cut_even neg]

theorem nearest_mod (f : Format) (neg : Bool) (mag : Nat) (place : Int) (h : mag ≠ 0) (hi : rung f mag place ≤ f.infRung) (hs : f.infRung < f.signWeight) : f.nearest neg mag place % f.signWeight = rung f mag place := by
  rw [nearest_rung _ _ _ _ h, word_small _ _ (by omega), Nat.min_eq_left hi]
theorem fmt64 : FloatKind.f64.format = Ieee.double := rfl
theorem fmt32 : FloatKind.f32.format = Ieee.single := rfl
theorem enc64 (s : Bool) (m : Nat) (e : Int) : FloatKind.f64.encode (.number s m e) = Ieee.double.nearest s m e := rfl
theorem cut_zero (neg : Bool) (n : Nat) : Toward.even.cut neg n 0 = n := by
  simp [Toward.cut, Nat.mod_one]

theorem cut_le (neg : Bool) (n d : Nat) : Toward.even.cut neg n d ≤ n / 2 ^ (min d (n.log2 + 2)) + 1 := by
  simp only [Toward.cut, Nat.one_shiftLeft]
  have : ∀ b : Bool, b.toNat ≤ 1 := by intro b; cases b <;> simp
  exact Nat.add_le_add_left (this _) _
theorem div_log (n d k : Nat) (h : n < 2 ^ (k + d)) : n / 2 ^ d < 2 ^ k := by
  rw [Nat.div_lt_iff_lt_mul (Nat.pow_pos (by omega)), ← Nat.pow_add]; exact h

/-- A kept number has at most one digit more than the fraction. -/
theorem kept_le (f : Format) (mag : Nat) (place : Int) (hm : mag ≠ 0) :
    Toward.even.cut false (mag <<< (place - max (place + mag.log2 - f.fractionBits) f.leastPlace).toNat) (max (place + mag.log2 - f.fractionBits) f.leastPlace - place).toNat ≤ 2 * f.binade := by
  have hl : mag < 2 ^ (mag.log2 + 1) := Nat.lt_log2_self
  generalize hL : max (place + mag.log2 - f.fractionBits) f.leastPlace = last
  have h1 : place + mag.log2 - f.fractionBits ≤ last := by omega
  have e2 : 2 * f.binade = 2 ^ (f.fractionBits + 1) := by unfold Format.binade; rw [Nat.pow_succ]; omega
  rw [e2]
  rcases Int.le_total place last with h | h
  · have e : (place - last).toNat = 0 := by omega
    rw [e, Nat.shiftLeft_zero]
    refine Nat.le_trans (cut_le _ _ _) ?_
    generalize hd : (last - place).toNat = d
    have h3 : mag.log2 ≤ f.fractionBits + d := by omega
    have h4 : mag / 2 ^ (min d (mag.log2 + 2)) < 2 ^ (f.fractionBits + 1) := by
      apply div_log
      refine Nat.lt_of_lt_of_le hl (Nat.pow_le_pow_right (by omega) ?_)
      omega
    omega
  · have e : (last - place).toNat = 0 := by omega
    rw [e, cut_zero, Nat.shiftLeft_eq]
    generalize hd : (place - last).toNat = d
    have h3 : mag.log2 + d ≤ f.fractionBits := by omega
    have : mag * 2 ^ d < 2 ^ (mag.log2 + 1) * 2 ^ d := Nat.mul_lt_mul_of_pos_right hl (Nat.pow_pos (by omega))
    rw [← Nat.pow_add] at this
    exact Nat.le_of_lt (Nat.lt_of_lt_of_le this (Nat.pow_le_pow_right (by omega) (by omega)))
theorem rung_le (f : Format) (mag : Nat) (place : Int) (hm : mag ≠ 0) (n : Nat) (h : place + mag.log2 - f.fractionBits - f.leastPlace ≤ n) : rung f mag place ≤ (n + 2) * f.binade := by
  have := kept_le f mag place hm
  unfold rung
  simp only
  have h1 : (max (place + mag.log2 - f.fractionBits) f.leastPlace - f.leastPlace).toNat ≤ n := by omega
  have h2 := Nat.mul_le_mul_right f.binade h1
  have h3 : (n + 2) * f.binade = n * f.binade + 2 * f.binade := by rw [Nat.add_mul]
  omega

theorem pow_consts : Ieee.double.binade = 4503599627370496 ∧ Ieee.double.infRung = 9218868437227405312 ∧ Ieee.double.signWeight = 9223372036854775808 ∧ Ieee.double.leastPlace = -1074 ∧ Ieee.double.fractionBits = 52 ∧
    Ieee.single.binade = 8388608 ∧ Ieee.single.infRung = 2139095040 ∧ Ieee.single.signWeight = 2147483648 ∧ Ieee.single.leastPlace = -149 ∧ Ieee.single.fractionBits = 23 := by decide

/-- A number that is read: how great it is. -/
theorem read_number {f : Format} {b : Nat} {s : Bool} {m : Nat} {e : Int} (h : f.read b = .number s m e) :
    (b % f.signWeight < f.infRung ∨ b % f.signWeight < f.binade) ∧ m < 2 * f.binade ∧ f.leastPlace ≤ e ∧ (e - f.leastPlace).toNat = (b % f.signWeight) / f.binade - 1 ∧ m = (if b % f.signWeight < f.binade then b % f.signWeight else f.binade + b % f.signWeight % f.binade) := by
  have hb : 0 < f.binade := Nat.pow_pos (by omega)
  unfold Format.read at h
  simp only at h
  split at h
  · rename_i h1
    cases h
    refine ⟨.inr h1, by omega, Int.le_refl _, ?_, by rw [if_pos h1]⟩
    rw [Nat.div_eq_of_lt h1]; simp
  · rename_i h1
    split at h
    · rename_i h2
      cases h
      refine ⟨.inl h2, ?_, by omega, by omega, by rw [if_neg h1]⟩
      have := Nat.mod_lt (b % f.signWeight) hb
      omega
    · split at h <;> cases h
theorem log_lt {m n : Nat} (h : m < 2 ^ n) (hm : m ≠ 0) : m.log2 < n := (Nat.log2_lt hm).2 h

/-- A word that a number is rounded to, of a format, is a number if its rung is below infinity. -/
theorem nearest_fin (k : FloatKind) (neg : Bool) (mag : Nat) (place : Int) (h : mag = 0 ∨ rung k.format mag place < k.format.infRung) : isFin k (k.format.nearest neg mag place) = true := by
  have hi := infRung_lt k
  rw [isFin_iff]
  by_cases hm : mag = 0
  · subst hm
    simp only [Format.nearest, if_pos]
    rw [word_small _ _ (by omega)]
    have := infRung_pos k
    simp; omega
  · have h := h.resolve_left hm
    rw [nearest_rung _ _ _ _ hm, word_small _ _ (by omega)]
    simp; omega

/-- A 32-bit number as a 64-bit one. -/
def wide (x : Nat) : Nat := (floatToF .f32 x .f64).getD 0
theorem fin_notInf {k : FloatKind} {b : Nat} (h : isFin k b = true) : (k.decode b).isInfinity = false := by
  rw [fin_iff] at h
  simp at h
  exact h.2
theorem fin_canon {k : FloatKind} {b : Nat} (h : isFin k b = true) : canon k b = b := by
  rw [fin_iff] at h
  simp at h
  exact canon_num h.1

theorem wide_rung {x : Nat} {s : Bool} {m : Nat} {e : Int} (h : Ieee.single.read x = .number s m e) (hm : m ≠ 0) : rung Ieee.double m e ≤ 1151 * Ieee.double.binade := by
  obtain ⟨c1, c2, c3, c4, c5, d1, d2, d3, d4, d5⟩ := pow_consts
  obtain ⟨h1, h2, h3, h4, _⟩ := read_number h
  rw [d1] at h2 h4 h1
  rw [d3] at h4 h1
  rw [d4] at h4 h3
  rw [d2] at h1
  have hl : m.log2 < 24 := log_lt (by omega) hm
  refine rung_le _ _ _ hm 1149 ?_
  rw [c4, c5]
  omega

theorem floatToF_wide (x : Nat) : floatToF .f32 x .f64 = some (wide x) ∧ isFin .f64 (wide x) = isFin .f32 x ∧ isNaNF .f64 (wide x) = isNaNF .f32 x := by
  obtain ⟨c1, c2, c3, c4, c5, d1, d2, d3, d4, d5⟩ := pow_consts
  unfold wide floatToF
  rw [if_neg (by decide)]
  cases h : FloatKind.f32.decode x with
  | nan s t =>
    have h' : FloatKind.f32.format.read x = .nan s t := h
    refine ⟨rfl, ?_, ?_⟩
    · simp only [isFin, h', Option.getD_some]; decide
    · simp only [isNaNF, h', Option.getD_some, Datum.isNaN]; exact read_nanOf .f64
  | infinity s =>
    have h' : FloatKind.f32.format.read x = .infinity s := h
    refine ⟨rfl, ?_, ?_⟩
    · simp only [isFin, h', Option.getD_some]; cases s <;> decide
    · simp only [isNaNF, h', Option.getD_some]; cases s <;> decide
  | number s m e =>
    have h' : Ieee.single.read x = .number s m e := h
    have hf : isFin .f64 (FloatKind.f64.encode (.number s m e)) = true := by
      refine nearest_fin .f64 s m e ?_
      by_cases hm : m = 0
      · exact .inl hm
      · right
        have := wide_rung h' hm
        show rung Ieee.double m e < Ieee.double.infRung
        rw [c1] at this; rw [c2]
        omega
    simp only
    rw [fin_notInf hf, if_neg (by simp), fin_canon hf]
    have h2 : FloatKind.f32.format.read x = .number s m e := h
    refine ⟨rfl, ?_, ?_⟩
    · simp only [Option.getD_some]; rw [hf]; simp only [isFin, h2]
    · simp only [Option.getD_some]
      have := fin_iff .f64 (FloatKind.f64.encode (.number s m e))
      rw [hf] at this
      simp at this
      rw [this.1]
      simp only [isNaNF, h2, Datum.isNaN]

/-- The sign taken away. -/
def low63 (b : Nat) : Nat := b % 9223372036854775808
def absF (b : Nat) : Nat := canon .f64 (low63 b)
theorem absF_mod (b : Nat) : low63 b % Ieee.double.signWeight = b % Ieee.double.signWeight := by
  unfold low63; rw [show Ieee.double.signWeight = 9223372036854775808 from by decide, Nat.mod_mod]

/-- The greatest 64-bit number. -/
theorem gt_max (b : Nat) : gtF .f64 (absF b) 9218868437227405311 = isInfF .f64 b := by
  obtain ⟨c1, c2, c3, c4, c5, d1, d2, d3, d4, d5⟩ := pow_consts
  unfold gtF absF
  have e : ∀ x y, FloatKind.f64.format.order (canon .f64 x) y = FloatKind.f64.format.order x y := by
    intro x y
    simp only [Format.order]
    exact canon1 (fun d => Datum.order d _) (fun s t => order_nan1 s t _) .f64 x
  rw [e]
  generalize hc : low63 b = c
  have hcb : isInfF .f64 b = isInfF .f64 c := by
    rw [isInf_iff, isInf_iff]
    show decide (b % Ieee.double.signWeight = _) = decide (c % Ieee.double.signWeight = _)
    rw [← hc, absF_mod]
  have hcl : c < 9223372036854775808 := by rw [← hc]; exact Nat.mod_lt _ (by omega)
  rw [hcb]
  have hmax : FloatKind.f64.format.read 9218868437227405311 = .number false 9007199254740991 971 := by decide
  simp only [Format.order, hmax]
  cases h : FloatKind.f64.format.read c with
  | nan s t => rw [order_nan1]; simp only [isInfF, h, Datum.isInfinity]; rfl
  | infinity s =>
    simp only [isInfF, h, Datum.isInfinity, Datum.order]
    have : s = false := by
      have h' : Ieee.double.read c = .infinity s := h
      unfold Format.read at h'
      simp only [c1, c2, c3] at h'
      rw [Nat.mod_eq_of_lt hcl, Nat.div_eq_of_lt hcl] at h'
      split at h'
      · cases h'
      · split at h'
        · cases h'
        · split at h'
          · cases h'; rfl
          · cases h'
    subst this; rfl
  | number s m e =>
    have h' : Ieee.double.read c = .number s m e := h
    simp only [isInfF, h, Datum.isInfinity, Datum.order]
    have hs : s = false := by
      unfold Format.read at h'
      simp only [c1, c2, c3] at h'
      rw [Nat.mod_eq_of_lt hcl, Nat.div_eq_of_lt hcl] at h'
      split at h'
      · cases h'; rfl
      · split at h'
        · cases h'; rfl
        · split at h' <;> cases h'
    subst hs
    obtain ⟨h1, h2, h3, h4, _⟩ := read_number h'
    rw [c1] at h1 h2 h4; rw [c3] at h1 h4; rw [c2] at h1; rw [c4] at h3 h4
    rw [Nat.mod_eq_of_lt hcl] at h1 h4
    have he : e ≤ 971 := by omega
    have hmin : min e 971 = e := by omega
    rw [hmin]
    have e0 : (e - e).toNat = 0 := by omega
    rw [e0]
    have hle : signed false m 0 ≤ signed false 9007199254740991 (971 - e).toNat := by
      simp only [signed, Bool.false_eq_true, if_false, Nat.shiftLeft_zero, Nat.shiftLeft_eq]
      have : 1 ≤ 2 ^ (971 - e).toNat := Nat.pow_pos (by omega)
      have := Nat.mul_le_mul_left 9007199254740991 this
      omega
    have : compare (signed false m 0) (signed false 9007199254740991 (971 - e).toNat) ≠ .gt := by
      rw [Ne, Int.compare_eq_gt]; omega
    cases hh : compare (signed false m 0) (signed false 9007199254740991 (971 - e).toNat) with
    | gt => exact absurd hh this
    | lt => rfl
    | eq => rfl

/-! roots -/
theorem rootFrom_sq (n : Nat) : ∀ (todo root : Nat), root * root ≤ n → Datum.rootFrom n todo root * Datum.rootFrom n todo root ≤ n
  | 0, root, h => h
  | todo + 1, root, h => by
    unfold Datum.rootFrom
    apply rootFrom_sq n todo
    split
    · assumption
    · exact h

/-- The root of a 32-bit number, as a 64-bit one, is narrowed without going out of range. -/
def narrow (y : Nat) : Nat := (floatToF .f64 y .f32).getD 0
def rootF (x : Nat) : Nat := narrow (sqrtF .f64 (wide x))

theorem narrow_ok {y : Nat} (h : ∀ s m e, Ieee.double.read y = .number s m e → m = 0 ∨ e ≤ 60) : floatToF .f64 y .f32 = some (narrow y) := by
  obtain ⟨c1, c2, c3, c4, c5, d1, d2, d3, d4, d5⟩ := pow_consts
  unfold narrow floatToF
  rw [if_neg (by decide)]
  cases hr : FloatKind.f64.decode y with
  | nan s t => rfl
  | infinity s => rfl
  | number s m e =>
    have hr' : Ieee.double.read y = .number s m e := hr
    have hf : isFin .f32 (FloatKind.f32.encode (.number s m e)) = true := by
      refine nearest_fin .f32 s m e ?_
      by_cases hm : m = 0
      · exact .inl hm
      · right
        have he := (h s m e hr').resolve_left hm
        obtain ⟨h1, h2, h3, h4, _⟩ := read_number hr'
        rw [c1] at h2
        have hl : m.log2 < 53 := log_lt (by omega) hm
        have := rung_le Ieee.single m e hm 238 (by rw [d4, d5]; omega)
        show rung Ieee.single m e < Ieee.single.infRung
        rw [d1] at this; rw [d2]
        omega
    simp only
    rw [fin_notInf hf, if_neg (by simp)]
    rfl

theorem wide_place {x : Nat} {s : Bool} {m : Nat} {e : Int} (h : Ieee.double.read (wide x) = .number s m e) (hm : m ≠ 0) : e ≤ 77 := by
  obtain ⟨c1, c2, c3, c4, c5, d1, d2, d3, d4, d5⟩ := pow_consts
  obtain ⟨h1, h2, h3, h4, h5⟩ := read_number h
  rw [c1] at h1 h2 h4 h5; rw [c3] at h1 h4 h5; rw [c2] at h1; rw [c4] at h3 h4
  have hfx : isFin .f32 x = true := by
    rw [← (floatToF_wide x).2.1]
    simp only [isFin, show FloatKind.f64.format.read (wide x) = _ from h]
  cases hx : FloatKind.f32.format.read x with
  | nan s t => simp [isFin, hx] at hfx
  | infinity s => simp [isFin, hx] at hfx
  | number s' m' e' =>
    have hx' : Ieee.single.read x = .number s' m' e' := hx
    have hw : wide x = Ieee.double.nearest s' m' e' := by
      have := (floatToF_wide x).1
      unfold floatToF at this
      rw [if_neg (by decide)] at this
      rw [show FloatKind.f32.decode x = _ from hx] at this
      simp only at this
      split at this
      · cases this
      · have h6 : isFin .f64 (FloatKind.f64.encode (.number s' m' e')) = true := by
          rw [enc64]
          refine nearest_fin .f64 s' m' e' ?_
          by_cases hm : m' = 0
          · exact .inl hm
          · right
            have := wide_rung hx' hm
            show rung Ieee.double m' e' < Ieee.double.infRung
            rw [c1] at this; rw [c2]
            omega
        rw [fin_canon h6] at this
        rw [enc64] at this
        exact (Option.some.inj this).symm
    by_cases hm' : m' = 0
    · rw [hw, hm'] at h5
      simp only [Format.nearest, if_pos] at h5
      have : Ieee.double.word s' 0 % 9223372036854775808 = 0 := by
        have := word_small Ieee.double 0 (by decide) s'
        rwa [c3] at this
      rw [this] at h5
      simp at h5
      exact absurd h5 hm
    · have hr := wide_rung hx' hm'
      rw [c1] at hr
      have hq := nearest_mod Ieee.double s' m' e' hm' (by rw [c2]; omega) (by decide)
      rw [← hw, c3] at hq
      generalize rung Ieee.double m' e' = q at hr hq
      generalize wide x % 9223372036854775808 = y at *
      omega

theorem root_small {s : Bool} {m : Nat} {e : Int} {m2 : Nat} {e2 : Int} (h : Datum.root 54 (.number s m e) = some (.number false m2 e2)) (hm : m ≠ 0) (hml : m < 2 ^ 53) (he : e ≤ 77) (hm2 : m2 ≠ 0) : e2 + m2.log2 ≤ 80 := by
  simp only [Datum.root, if_neg hm] at h
  split at h
  · cases h
  · have h := Option.some.inj h
    injection h with _ h1 h2
    have hlog : m.log2 ≤ 52 := by have := log_lt hml hm; omega
    generalize hp : ((e - ((2 * 54 - m.log2 : Nat) : Int)) % 2).toNat = p at h1 h2
    have hp' : p ≤ 1 := by omega
    generalize hn : m <<< (2 * 54 - m.log2 + p) = n at h1
    have hnl : n < 2 ^ 110 := by
      rw [← hn, Nat.shiftLeft_eq]
      have hl : m < 2 ^ (m.log2 + 1) := Nat.lt_log2_self
      have : m * 2 ^ (2 * 54 - m.log2 + p) < 2 ^ (m.log2 + 1) * 2 ^ (2 * 54 - m.log2 + p) := Nat.mul_lt_mul_of_pos_right hl (Nat.pow_pos (by omega))
      rw [← Nat.pow_add] at this
      exact Nat.lt_of_lt_of_le this (Nat.pow_le_pow_right (by omega) (by omega))
    generalize hw : Datum.rootFrom n (n.log2 / 2 + 1) 0 = r at h1
    have hsq : r * r ≤ n := by rw [← hw]; exact rootFrom_sq _ _ _ (by omega)
    have hr : r < 2 ^ 55 := by
      rcases Nat.lt_or_ge r (2 ^ 55) with h | h
      · exact h
      · have := Nat.mul_le_mul h h
        rw [← Nat.pow_add] at this
        omega
    have hm2l : m2 < 2 ^ 57 := by
      rw [← h1]
      have : ∀ b : Bool, b.toNat ≤ 1 := by intro b; cases b <;> simp
      have := this (r * r != n)
      omega
    have := log_lt hm2l hm2
    omega

theorem root_ok (x : Nat) : floatToF .f64 (sqrtF .f64 (wide x)) .f32 = some (rootF x) := by
  obtain ⟨c1, c2, c3, c4, c5, d1, d2, d3, d4, d5⟩ := pow_consts
  refine narrow_ok ?_
  intro s m e h
  unfold sqrtF at h
  simp only [Format.sqrt] at h
  cases hx : FloatKind.f64.format.read (wide x) with
  | nan s' t =>
    rw [hx] at h
    simp only [Datum.root, Option.map_none, outF] at h
    have := read_nanOf .f64
    rw [show FloatKind.f64.format.read (nanOf .f64) = _ from h] at this
    cases this
  | infinity s' =>
    rw [hx] at h
    simp only [Datum.root] at h
    split at h
    · simp only [Option.map_none, outF] at h
      have := read_nanOf .f64
      rw [show FloatKind.f64.format.read (nanOf .f64) = _ from h] at this
      cases this
    · cases s'
      · have : Ieee.double.read (canon .f64 (FloatKind.f64.format.write (.infinity false))) = .infinity false := by decide
        simp only [Option.map_some, outF] at h
        rw [this] at h; cases h
      · rename_i hh; exact absurd rfl hh
  | number s' m' e' =>
    rw [hx] at h
    have hx' : Ieee.double.read (wide x) = .number s' m' e' := hx
    by_cases hm' : m' = 0
    · subst hm'
      simp only [Datum.root, if_pos, Option.map_some, outF, Format.write, Format.nearest, fmt64] at h
      left
      have h0 : ∀ b, Ieee.double.read (canon .f64 (Ieee.double.word b 0)) = .number b 0 (-1074) := by decide
      rw [show Ieee.double.read _ = _ from h0 s'] at h
      cases h; rfl
    · have he' := wide_place hx' hm'
      cases hr : Datum.root (FloatKind.f64.format.fractionBits + 2) (.number s' m' e') with
      | none =>
        rw [hr] at h
        simp only [Option.map_none, outF] at h
        have := read_nanOf .f64
        rw [show FloatKind.f64.format.read (nanOf .f64) = _ from h] at this
        cases this
      | some d =>
        have hd : ∃ m2 e2, d = .number false m2 e2 := by
          simp only [Datum.root, if_neg hm'] at hr
          split at hr
          · cases hr
          · cases hr; exact ⟨_, _, rfl⟩
        obtain ⟨m2, e2, rfl⟩ := hd
        rw [hr] at h
        simp only [Option.map_some, outF, Format.write] at h
        by_cases hm2 : m2 = 0
        · subst hm2
          simp only [Format.nearest, if_pos, fmt64] at h
          left
          have h0 : Ieee.double.read (canon .f64 (Ieee.double.word false 0)) = .number false 0 (-1074) := by decide
          rw [show Ieee.double.read _ = _ from h0] at h
          cases h; rfl
        · right
          have hml : m' < 2 ^ 53 := by
            have := (read_number hx').2.1
            rw [c1] at this; omega
          have hsm := root_small hr hm' hml he' hm2
          have hru := rung_le Ieee.double m2 e2 hm2 1102 (by rw [c4, c5]; omega)
          rw [c1] at hru
          have hru2 : rung Ieee.double m2 e2 < 9218868437227405312 := by omega
          rw [fmt64] at h
          have hfin : isFin .f64 (Ieee.double.nearest false m2 e2) = true := by
            refine nearest_fin .f64 false m2 e2 (.inr ?_)
            show rung Ieee.double m2 e2 < Ieee.double.infRung
            rw [c2]; exact hru2
          rw [fin_canon hfin] at h
          have hq := nearest_mod Ieee.double false m2 e2 hm2 (by rw [c2]; exact Nat.le_of_lt hru2) (by decide)
          generalize Ieee.double.nearest false m2 e2 = y at h hq
          obtain ⟨h1, h2, h3, h4, _⟩ := read_number h
          rw [c4] at h3 h4; rw [c1] at h4
          rw [hq] at h4
          generalize rung Ieee.double m2 e2 = q at hru h4
          omega

theorem nearest_notNaN (k : FloatKind) (neg : Bool) (mag : Nat) (place : Int) : isNaNF k (k.format.nearest neg mag place) = false := by
  have hi := infRung_lt k
  rw [isNaN_iff]
  by_cases hm : mag = 0
  · subst hm
    simp only [Format.nearest, if_pos]
    rw [word_small _ _ (by omega)]
    simp
  · rw [nearest_rung _ _ _ _ hm, word_small _ _ (by omega)]
    simp; omega
theorem isNaN_canon (k : FloatKind) (b : Nat) : isNaNF k (canon k b) = isNaNF k b := canon_isNaN k b
theorem ofInt_notNaN (k : FloatKind) (n : Int) : isNaNF k (ofIntF k n) = false := by
  unfold ofIntF; rw [isNaN_canon]; exact nearest_notNaN k _ _ _
end Go.Ab
