/- Small functions of the program, and of Go's slices. -/
import Derived.Test.YtdfoobfofjbjiaaSpA
set_option linter.unusedSimpArgs false
set_option linter.unusedVariables false
namespace Go.Ab
open Go.Proofs
set_option maxRecDepth 100000

theorem inRange_ok (n low high : Int) (H : AHeap) : ACalls Try.prog 87 [i64 n, i64 low, i64 high] H (Ret (.bool (decide (low ≤ n) && decide (n ≤ high))) H) := by
  refine call_in Try.ft87 hmix Try.func87 (by kernel_rfl) ?_
  by_cases h1 : low ≤ n <;> simp [Try.f87, Try.ft87, h1] <;> exact .mk _ _
theorem length_ok {x : AV} {xs : List Int} (H : AHeap) (h : Sl H i64 x xs) : ACalls Try.prog 109 [x] H (Ret (i64 xs.length) H) := by
  refine call_in Try.ft109 hmix Try.func109 (by kernel_rfl) ?_
  simp [Try.f109, Try.ft109, h.len]; exact .mk _ _
theorem lengthF_ok {x : AV} {xs : List Nat} (H : AHeap) (h : Sl H f32 x xs) : ACalls Try.prog 156 [x] H (Ret (i64 xs.length) H) := by
  refine call_in Try.ft156 hmix Try.func156 (by kernel_rfl) ?_
  simp [Try.f156, Try.ft156, h.len]; exact .mk _ _
theorem mul_ok (a b : Nat) (H : AHeap) : ACalls Try.prog 91 [f32 a, f32 b] H (Ret (f32 (mulF .f32 a b)) H) := by
  refine call_in Try.ft91 hmix Try.func91 (by kernel_rfl) ?_
  simp [Try.f91, Try.ft91]; exact .mk _ _

/-! floats -/
theorem bits64_ok (b : Nat) (H : AHeap) : ACalls Try.prog 194 [f64 b] H (fun v H' => ∃ n : Nat, v = .int .u64 n ∧ canon .f64 n = b ∧ H' = H) :=
  bits64_in Try.func194 (by kernel_rfl) (by kernel_rfl) b
theorem from64_ok (n : Int) (H : AHeap) : ACalls Try.prog 193 [.int .u64 n] H (Ret (f64 (canon .f64 n.toNat)) H) :=
  from64_in Try.func193 (by kernel_rfl) (by kernel_rfl) n
theorem sqrt_ok (b : Nat) (H : AHeap) : ACalls Try.prog 216 [f64 b] H (Ret (f64 (sqrtF .f64 b)) H) :=
  sqrt_in Try.func216 (by kernel_rfl) (by kernel_rfl) b
theorem absF_canon (n : Nat) : absF (canon .f64 n) = absF n := by
  unfold absF
  cases h : isNaNF .f64 n
  · rw [canon_num h]
  · have e : isNaNF .f64 (low63 n) = true := by
      rw [isNaN_iff] at h ⊢
      show decide (_ < _ % Ieee.double.signWeight) = true
      rw [absF_mod]; exact h
    have e' : isNaNF .f64 (low63 (canon .f64 n)) = true := by
      rw [isNaN_iff]
      show decide (_ < _ % Ieee.double.signWeight) = true
      rw [absF_mod]
      have := isNaN_canon .f64 n
      rw [h, isNaN_iff] at this; exact this
    rw [canon_nan e, canon_nan e']
theorem bin_sign {P : Program} (t : TypeId) (x y : Operand) (n : Nat) : aBin' P .andNot t x y (.int .u64 n) (.int .u64 9223372036854775808) = some (.int .u64 (low63 n)) := by
  rw [bin_andNot, andNot_sign]
set_option maxHeartbeats 2000000 in
theorem abs_ok (b : Nat) (H : AHeap) : ACalls Try.prog 138 [f64 b] H (Ret (f64 (absF b)) H) := by
  refine call_in Try.ft138 hmix Try.func138 (by kernel_rfl) ?_
  simp [Try.f138, Try.ft138]
  refine (bits64_ok b H).mono ?_
  rintro _ H' ⟨n, rfl, rfl, rfl⟩
  have h9 := from64_ok (low63 n : Int) H'
  rw [Int.toNat_natCast, show canon .f64 (low63 n) = absF (canon .f64 n) from (absF_canon n).symm] at h9
  simp [-bin_andNot, bin_sign]
  generalize (low63 n : Int) = q at h9 ⊢
  generalize absF (canon .f64 n) = r at h9 ⊢
  generalize canon .f64 n = s
  refine h9.mono ?_
  rintro _ _ ⟨rfl, rfl⟩
  simp
  exact .mk _ _
theorem isNaN_ok (b : Nat) (H : AHeap) : ACalls Try.prog 205 [f64 b] H (Ret (.bool (isNaNF .f64 b)) H) := by
  refine call_in Try.ft205 hmix Try.func205 (by kernel_rfl) ?_
  simp [Try.f205, Try.ft205, eqF_self]; exact .mk _ _
theorem isInf_ok (b : Nat) (H : AHeap) : ACalls Try.prog 206 [f64 b, i64 0] H (Ret (.bool (isInfF .f64 b)) H) := by
  refine call_in Try.ft206 hmix Try.func206 (by kernel_rfl) ?_
  simp [Try.f206, Try.ft206]
  refine (abs_ok b H).on ?_
  have : canon .f64 9218868437227405311 = 9218868437227405311 := by decide
  simp [this, gt_max]; exact .mk _ _
theorem isFinite64_ok (b : Nat) (H : AHeap) : ACalls Try.prog 170 [f64 b] H (Ret (.bool (isFin .f64 b)) H) := by
  refine call_in Try.ft170 hmix Try.func170 (by kernel_rfl) ?_
  simp [Try.f170, Try.ft170]
  refine (isNaN_ok b H).on ?_
  rw [fin_iff]
  cases hn : isNaNF .f64 b
  · simp
    refine (isInf_ok b H).on ?_
    simp; exact .mk _ _
  · simp; exact .mk _ _
theorem isFinite_ok (b : Nat) (H : AHeap) : ACalls Try.prog 95 [f32 b] H (Ret (.bool (isFin .f32 b)) H) := by
  refine call_in Try.ft95 hmix Try.func95 (by kernel_rfl) ?_
  simp [Try.f95, Try.ft95]
  refine (isFinite64_ok _ H).on ?_
  simp; exact .mk _ _
theorem sqrtGo_ok (b : Nat) (H : AHeap) : ACalls Try.prog 203 [f64 b] H (Ret (f64 (sqrtF .f64 b)) H) := by
  refine call_in Try.ft203 hmix Try.func203 (by kernel_rfl) ?_
  simp [Try.f203, Try.ft203]
  refine (sqrt_ok _ H).on ?_
  simp; exact .mk _ _
theorem rootNumber_ok (b : Nat) (H : AHeap) : ACalls Try.prog 168 [f32 b] H (Ret (f32 (rootF b)) H) := by
  refine call_in Try.ft168 hmix Try.func168 (by kernel_rfl) ?_
  simp [Try.f168, Try.ft168]
  refine (sqrtGo_ok _ H).on ?_
  simp; exact .mk _ _

/-! searching -/
/-- What a function that is handed over tells of an element. -/
def Tells {α : Type} (P : Program) (g : FuncId) (us vs : List AV) (f : α → AV) (p : α → Bool) (xs : List α) (H : AHeap) : Prop :=
  ∀ n ∈ xs, ∀ H', H.le H' → ACalls P g (us ++ [f n] ++ vs) H' (Ret (.bool (p n)) H')
/-- The index of the first element of which p is so, or -1. -/
def findI {α : Type} (p : α → Bool) (xs : List α) : Int := if xs.any p then (xs.findIdx p : Nat) else -1
theorem findI_hit {α : Type} [Inhabited α] {p : α → Bool} {xs : List α} {k : Nat} (hk : k < xs.length) (h : p (nth xs k) = true) (hb : ∀ i, i < k → p (nth xs i) = false) : findI p xs = k := by
  unfold findI
  rw [if_pos (List.any_eq_true.2 ⟨nth xs k, nth_mem hk, h⟩), (List.findIdx_eq hk).2 ⟨by rw [nth_eq hk]; exact h, fun j hj => by rw [nth_eq (by omega)]; exact hb j hj⟩]
theorem findI_none {α : Type} [Inhabited α] {p : α → Bool} {xs : List α} (hb : ∀ i, i < xs.length → p (nth xs i) = false) : findI p xs = -1 := by
  unfold findI
  rw [if_neg]
  intro h
  obtain ⟨x, h1, h2⟩ := List.any_eq_true.1 h
  obtain ⟨i, hi, rfl⟩ := mem_nth h1
  rw [hb i hi] at h2; cases h2
theorem findI_nonneg {α : Type} (p : α → Bool) (xs : List α) : decide (0 ≤ findI p xs) = xs.any p := by
  unfold findI
  cases xs.any p <;> simp

theorem indexFuncF_ok {x : AV} {xs : List Nat} (H : AHeap) (h : Sl H f32 x xs) (hl : xs.length ≤ 140737488355328) {g : FuncId} {us vs : List AV} {p : Nat → Bool} (hg : Tells Try.prog g us vs f32 p xs H) :
    ACalls Try.prog 204 [x, .func (.func g) us vs] H (Ret (i64 (findI p xs)) H) := by
  refine call_in Try.ft204 hmix Try.func204 (by kernel_rfl) ?_
  simp [Try.f204, Try.ft204, h.len]
  refine AW_for xs.length (fun k fr H' => H' = H ∧ fr 0 = x ∧ fr 1 = .func (.func g) us vs ∧ fr 7 = i64 xs.length ∧ fr 8 = i64 k ∧ ∀ i, i < k → p (nth xs i) = false) ?_ ?_
  · simp
  · rintro k fr H' hk ⟨rfl, g0, g1, g7, g8, hp⟩
    by_cases hlt : k < xs.length
    · simp [g0, g1, g7, g8, hlt, h.idx, h.nth]
      have := hg (nth xs k) (nth_mem hlt) H' (AHeap.le_refl _)
      simp at this
      refine this.on ?_
      cases hpk : p (nth xs k) with
      | true => simp; rw [findI_hit hlt hpk hp]; exact .mk _ _
      | false =>
        simp
        refine ⟨wadd k (by omega), fun i hik => ?_⟩
        rcases Nat.lt_or_ge i k with h1 | h1
        · exact hp i h1
        · have : i = k := by omega
          subst this; exact hpk
    · simp [g0, g1, g7, g8, hlt]
      rw [findI_none fun i hi => hp i (by omega)]; exact .mk _ _
theorem containsFuncF_ok {x : AV} {xs : List Nat} (H : AHeap) (h : Sl H f32 x xs) (hl : xs.length ≤ 140737488355328) {g : FuncId} {us vs : List AV} {p : Nat → Bool} (hg : Tells Try.prog g us vs f32 p xs H) :
    ACalls Try.prog 165 [x, .func (.func g) us vs] H (Ret (.bool (xs.any p)) H) := by
  refine call_in Try.ft165 hmix Try.func165 (by kernel_rfl) ?_
  simp [Try.f165, Try.ft165]
  refine (indexFuncF_ok H h hl hg).on ?_
  simp [findI_nonneg]; exact .mk _ _

theorem indexFuncI_ok {x : AV} {xs : List Int} (H : AHeap) (h : Sl H i64 x xs) (hl : xs.length ≤ 140737488355328) {g : FuncId} {us vs : List AV} {p : Int → Bool} (hg : Tells Try.prog g us vs i64 p xs H) :
    ACalls Try.prog 208 [x, .func (.func g) us vs] H (Ret (i64 (findI p xs)) H) := by
  refine call_in Try.ft208 hmix Try.func208 (by kernel_rfl) ?_
  simp [Try.f208, Try.ft208, h.len]
  refine AW_for xs.length (fun k fr H' => H' = H ∧ fr 0 = x ∧ fr 1 = .func (.func g) us vs ∧ fr 7 = i64 xs.length ∧ fr 8 = i64 k ∧ ∀ i, i < k → p (nth xs i) = false) ?_ ?_
  · simp
  · rintro k fr H' hk ⟨rfl, g0, g1, g7, g8, hp⟩
    by_cases hlt : k < xs.length
    · simp [g0, g1, g7, g8, hlt, h.idx, h.nth]
      have := hg (nth xs k) (nth_mem hlt) H' (AHeap.le_refl _)
      simp at this
      refine this.on ?_
      cases hpk : p (nth xs k) with
      | true => simp; rw [findI_hit hlt hpk hp]; exact .mk _ _
      | false =>
        simp
        refine ⟨wadd k (by omega), fun i hik => ?_⟩
        rcases Nat.lt_or_ge i k with h1 | h1
        · exact hp i h1
        · have : i = k := by omega
          subst this; exact hpk
    · simp [g0, g1, g7, g8, hlt]
      rw [findI_none fun i hi => hp i (by omega)]; exact .mk _ _
theorem containsFuncI_ok {x : AV} {xs : List Int} (H : AHeap) (h : Sl H i64 x xs) (hl : xs.length ≤ 140737488355328) {g : FuncId} {us vs : List AV} {p : Int → Bool} (hg : Tells Try.prog g us vs i64 p xs H) :
    ACalls Try.prog 173 [x, .func (.func g) us vs] H (Ret (.bool (xs.any p)) H) := by
  refine call_in Try.ft173 hmix Try.func173 (by kernel_rfl) ?_
  simp [Try.f173, Try.ft173]
  refine (indexFuncI_ok H h hl hg).on ?_
  simp [findI_nonneg]; exact .mk _ _

theorem cellsAt_le {H H' : AHeap} {i : Nat} {xs : List AV} (h : cellsAt H i = some xs) (hle : H.le H') : cellsAt H' i = some xs := by
  unfold cellsAt at h ⊢
  cases hH : H i with
  | none => simp [hH] at h
  | some b => rw [hle _ _ hH]; rw [hH] at h; exact h
theorem allIn1_ok (n low high : Int) (H : AHeap) {i j : Nat} (hi : cellsAt H i = some [i64 low]) (hj : cellsAt H j = some [i64 high]) :
    ACalls Try.prog 174 [i64 n, .ptrR i 0, .ptrR j 0] H (Ret (.bool (!(decide (low ≤ n) && decide (n ≤ high)))) H) := by
  refine call_in Try.ft174 hmix Try.func174 (by kernel_rfl) ?_
  simp [Try.f174, Try.ft174, hi, hj]
  refine (inRange_ok _ _ _ _).on ?_
  simp; exact .mk _ _
theorem allIn_ok {x : AV} {xs : List Int} (H : AHeap) (h : Sl H i64 x xs) (hl : xs.length ≤ 140737488355328) (low high : Int) :
    ACalls Try.prog 111 [x, i64 low, i64 high] H (Ret (.bool (xs.all fun n => decide (low ≤ n) && decide (n ≤ high))) H) := by
  refine fun_in Try.ft111 hmix Try.func111 (by kernel_rfl) ?_
  simp [Try.f111, Try.ft111]
  intro id4 h4 id5 h54
  obtain ⟨n54, h5⟩ : ¬ id5 = id4 ∧ H id5 = none := by simpa using h54
  refine (containsFuncI_ok (p := fun n => !(decide (low ≤ n) && decide (n ≤ high))) _ (h.mono (AHeap.le_set _ (AHeap.le_set _ (AHeap.le_refl _) h4) h5)) hl (fun n _ H' hle => ?_)).on ?_
  · simp only [List.nil_append]
    exact allIn1_ok n low high H' (cellsAt_le (by simp [not_symm n54]) hle) (cellsAt_le (by simp) hle)
  · simp
    rw [List.all_eq_not_any_not]
    simp
    exact drop_ret (AHeap.le_set _ (AHeap.le_set _ (AHeap.le_refl _) h4) h5)
theorem areFinite1_ok (b : Nat) (H : AHeap) : ACalls Try.prog 166 [f32 b] H (Ret (.bool (!isFin .f32 b)) H) := by
  refine call_in Try.ft166 hmix Try.func166 (by kernel_rfl) ?_
  simp [Try.f166, Try.ft166]
  refine (isFinite_ok _ _).on ?_
  simp; exact .mk _ _
def allFin (xs : List Nat) : Bool := xs.all (isFin .f32)
theorem areFinite_ok {x : AV} {xs : List Nat} (H : AHeap) (h : Sl H f32 x xs) (hl : xs.length ≤ 140737488355328) : ACalls Try.prog 86 [x] H (Ret (.bool (allFin xs)) H) := by
  refine call_in Try.ft86 hmix Try.func86 (by kernel_rfl) ?_
  simp [Try.f86, Try.ft86]
  refine (containsFuncF_ok (p := fun b => !isFin .f32 b) H h hl (fun n _ H' _ => by simpa using areFinite1_ok n H')).on ?_
  simp
  rw [allFin, List.all_eq_not_any_not]; exact .mk _ _
theorem isVector_ok {x : AV} {xs : List Nat} (H : AHeap) (h : Sl H f32 x xs) (hl : xs.length ≤ 140737488355328) : ACalls Try.prog 155 [x] H (Ret (.bool (decide (1 ≤ xs.length ∧ xs.length ≤ 256) && allFin xs)) H) := by
  refine call_in Try.ft155 hmix Try.func155 (by kernel_rfl) ?_
  simp [Try.f155, Try.ft155]
  refine (lengthF_ok H h).on ?_
  simp
  refine (inRange_ok _ _ _ _).on ?_
  by_cases h1 : 1 ≤ xs.length
  · by_cases h2 : xs.length ≤ 256
    · simp [show (1 : Int) ≤ xs.length by omega, show (xs.length : Int) ≤ 256 by omega]
      refine (areFinite_ok H h hl).on ?_
      simp [h1, h2]; exact .mk _ _
    · simp [show ¬ (xs.length : Int) ≤ 256 by omega, h2]; exact .mk _ _
  · simp [show ¬ (1 : Int) ≤ xs.length by omega, h1]; exact .mk _ _
end Go.Ab
