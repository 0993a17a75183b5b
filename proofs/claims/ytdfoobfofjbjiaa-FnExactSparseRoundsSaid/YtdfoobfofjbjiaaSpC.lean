/- Whether a sparse square is valid: the program's check. -/
import Derived.Test.YtdfoobfofjbjiaaSpB
set_option linter.unusedSimpArgs false
set_option linter.unusedVariables false
namespace Go.Ab
open Go.Proofs
set_option maxRecDepth 100000

theorem cmpNaN_ok (n : Int) (H : AHeap) : ACalls Try.prog 207 [i64 n] H (Ret (.bool false) H) := by
  refine call_in Try.ft207 hmix Try.func207 (by kernel_rfl) ?_
  simp [Try.f207, Try.ft207]; exact .mk _ _
theorem less_ok (a b : Int) (H : AHeap) : ACalls Try.prog 172 [i64 a, i64 b] H (Ret (.bool (decide (a < b))) H) := by
  refine call_in Try.ft172 hmix Try.func172 (by kernel_rfl) ?_
  simp [Try.f172, Try.ft172]
  refine (cmpNaN_ok _ _).on ?_
  simp; exact .mk _ _

/-- A list whose numbers do not fall. -/
def Rising (xs : List Int) : Prop := ∀ i, i + 1 < xs.length → nth xs i ≤ nth xs (i + 1)
noncomputable def rising (xs : List Int) : Bool := @decide (Rising xs) (Classical.propDecidable _)
theorem rising_iff {xs : List Int} : rising xs = true ↔ Rising xs := by unfold rising; exact @decide_eq_true_iff _ (Classical.propDecidable _)

theorem isSorted_ok {x : AV} {xs : List Int} (H : AHeap) (h : Sl H i64 x xs) (hl : xs.length ≤ 140737488355328) : ACalls Try.prog 110 [x] H (Ret (.bool (rising xs)) H) := by
  have hw : IntKind.i64.wrap ((xs.length : Int) - 1) = xs.length - 1 := win (by omega)
  refine call_in Try.ft110 hmix Try.func110 (by kernel_rfl) ?_
  simp [Try.f110, Try.ft110, h.len, hw]
  refine AW_for xs.length (fun k fr H' => H' = H ∧ fr 0 = x ∧ fr 3 = i64 ((xs.length : Int) - 1 - (k : Nat)) ∧ ∀ j, (xs.length : Int) - 1 - (k : Nat) ≤ (j : Nat) → j + 1 < xs.length → nth xs j ≤ nth xs (j + 1)) ?_ ?_
  · simp
    intro j h1 h2; omega
  · rintro k fr H' hk ⟨rfl, g0, g3, hp⟩
    by_cases hlt : (k : Int) < (xs.length : Int) - 1
    · obtain ⟨m, hm⟩ : ∃ m : Nat, xs.length = k + m + 2 := ⟨xs.length - k - 2, by omega⟩
      have e1 : (xs.length : Int) - 1 - k = ((m + 1 : Nat) : Int) := by omega
      have e2 : IntKind.i64.wrap (((m + 1 : Nat) : Int) - 1) = (m : Nat) := by rw [win (by omega)]; omega
      rw [e1] at g3
      simp at g3 e2
      simp [g0, g3, e2, h.idx, h.nth, show (0 : Int) < (m : Int) + 1 by omega, show (0 : Int) ≤ (m : Int) + 1 by omega, show (m : Int) + 1 < (xs.length : Int) by omega, show (m : Int) < (xs.length : Int) by omega,
        show m + 1 < xs.length by omega, show m < xs.length by omega, show ((m : Int) + 1).toNat = m + 1 by omega]
      refine .on (less_ok _ _ _) ?_
      by_cases hc : nth xs (m + 1) < nth xs m
      · simp [hc]
        have : rising xs = false := by
          rw [Bool.eq_false_iff, Ne, rising_iff]
          intro hr
          have := hr m (by omega)
          omega
        rw [this]; exact .mk _ _
      · simp [hc]
        refine ⟨by omega, by omega, fun j h1 h2 => ?_⟩
        by_cases ej : j = m
        · subst ej; omega
        · exact hp j (by omega) h2
    · simp [g0, g3, hlt]
      have : rising xs = true := rising_iff.2 fun j hj => hp j (by omega) hj
      rw [this]; exact .mk _ _

/-- A sparse square that is valid. -/
structure Valid (side : Int) (st co : List Int) (va : List Nat) : Prop where
  s1 : 1 ≤ side
  s2 : side ≤ 32
  len : (st.length : Int) = side + 1
  few : co.length ≤ 512
  vals : va.length = co.length
  first : nth st 0 = 0
  last : nth st side.toNat = co.length
  rise : Rising st
  cols : ∀ n ∈ co, 0 ≤ n ∧ n ≤ side - 1
  fin : allFin va = true
  rows : ∀ i : Nat, (i : Int) < side → ∀ k : Nat, nth st i < k → (k : Int) < nth st (i + 1) → nth co (k - 1) < nth co k
noncomputable def valid (side : Int) (st co : List Int) (va : List Nat) : Bool := @decide (Valid side st co va) (Classical.propDecidable _)
theorem valid_iff {side : Int} {st co : List Int} {va : List Nat} : valid side st co va = true ↔ Valid side st co va := by unfold valid; exact @decide_eq_true_iff _ (Classical.propDecidable _)
theorem not_valid {side : Int} {st co : List Int} {va : List Nat} (h : ¬ Valid side st co va) : valid side st co va = false := by rw [Bool.eq_false_iff, Ne, valid_iff]; exact h

section
variable {side : Int} {st co : List Int} {va : List Nat}
theorem rising_le (h : Rising st) {i j : Nat} (hij : i ≤ j) (hj : j < st.length) : nth st i ≤ nth st j := by
  induction j with
  | zero => have : i = 0 := by omega
            subst this; omega
  | succ j ih =>
    by_cases e : i = j + 1
    · subst e; omega
    · have := ih (by omega) (by omega)
      have := h j hj
      omega
theorem Valid.bounds (h : Valid side st co va) {i : Nat} (hi : (i : Int) ≤ side) : 0 ≤ nth st i ∧ nth st i ≤ co.length := by
  have h1 := rising_le h.rise (Nat.zero_le i) (by have := h.len; omega)
  have h2 := rising_le h.rise (show i ≤ side.toNat by omega) (by have := h.len; have := h.s1; omega)
  rw [h.first] at h1; rw [h.last] at h2
  exact ⟨h1, h2⟩
theorem Valid.step (h : Valid side st co va) {i : Nat} (hi : (i : Int) < side) : nth st i ≤ nth st (i + 1) := h.rise i (by have := h.len; omega)

abbrev sparseAV (side : Int) (y z w : AV) : AV := .agg [i64 side, y, z, w]

variable {y z w : AV}
set_option maxHeartbeats 4000000 in
theorem validSparse_ok (H : AHeap) (hy : Sl H i64 y st) (hz : Sl H i64 z co) (hw : Sl H f32 w va) (l1 : st.length ≤ 1048576) (l2 : co.length ≤ 1048576) (l3 : va.length ≤ 1048576) :
    ACalls Try.prog 29 [sparseAV side y z w] H (Ret (.bool (valid side st co va)) H) := by
  refine fun_in Try.ft29 hmix Try.func29 (by kernel_rfl) ?_
  simp [Try.f29, Try.ft29, hy.cells, hz.cells, hw.cells]
  intro id hid
  have hle : H.le (H.set id (some (.cells [i64 side, y, z, w]))) := AHeap.le_set _ (AHeap.le_refl _) hid
  have hc := cellsAt_same (H := H) (id := id) [i64 side, y, z, w]
  replace hy := hy.mono hle; replace hz := hz.mono hle; replace hw := hw.mono hle
  generalize H.set id (some (.cells [i64 side, y, z, w])) = H1 at hle hc hy hz hw ⊢
  refine (length_ok _ hz).on ?_
  simp [hc]
  refine .on (inRange_ok _ _ _ _) ?_
  by_cases h1 : 1 ≤ side
  case neg => simp [h1, hc]; rw [not_valid fun h => h1 h.s1]; exact drop_ret hle
  by_cases h2 : side ≤ 32
  case neg => simp [h1, h2, hc]; rw [not_valid fun h => h2 h.s2]; exact drop_ret hle
  have w1 : IntKind.i64.wrap (side + 1) = side + 1 := win (by omega)
  have w2 : IntKind.i64.wrap (side - 1) = side - 1 := win (by omega)
  simp [h1, h2, hc]
  refine .on (length_ok _ hy) ?_
  by_cases h3 : (st.length : Int) = side + 1
  case neg => simp [h3, hc, w1]; rw [not_valid fun h => h3 h.len]; exact drop_ret hle
  by_cases h4 : 512 < co.length
  case pos => simp [h3, h4, show (512 : Int) < co.length by omega, hc, w1]; rw [not_valid fun h => by have := h.few; omega]; exact drop_ret hle
  by_cases h5 : va.length = co.length
  case neg => simp [h3, h4, h5, show ¬ (512 : Int) < co.length by omega, show ¬ (va.length : Int) = co.length by omega, hc, w1, hw.len, hz.len]; rw [not_valid fun h => h5 h.vals]; exact drop_ret hle
  have i0 : 0 < st.length := by omega
  have iN : side.toNat < st.length := by omega
  by_cases h6 : nth st 0 = 0
  case neg => simp [h3, h4, h5, show ¬ (512 : Int) < co.length by omega, hc, w1, hw.len, hz.len, hy.idx, hy.nth, i0, h6, show (0 : Int) < side + 1 by omega]; rw [not_valid fun h => h6 h.first]; exact drop_ret hle
  by_cases h7 : nth st side.toNat = co.length
  case neg => simp [h3, h4, h5, show ¬ (512 : Int) < co.length by omega, hc, w1, hw.len, hz.len, hy.idx, hy.nth, i0, iN, h6, h7, show (0 : Int) < side + 1 by omega, show (0 : Int) ≤ side by omega, show side < side + 1 by omega]; rw [not_valid fun h => h7 h.last]; exact drop_ret hle
  simp [h3, h4, h5, show ¬ (512 : Int) < co.length by omega, hc, w1, hw.len, hz.len, hy.idx, hy.nth, i0, iN, h6, h7, show (0 : Int) < side + 1 by omega, show (0 : Int) ≤ side by omega, show side < side + 1 by omega]
  refine (isSorted_ok _ hy (by omega)).on ?_
  cases h8 : rising st with
  | false => simp; rw [not_valid fun h => by have := rising_iff.2 h.rise; rw [h8] at this; cases this]; exact drop_ret hle
  | true =>
  simp [hc, w2]
  refine (allIn_ok _ hz (by omega) _ _).on ?_
  cases h9 : co.all fun n => decide (0 ≤ n) && decide (n ≤ side - 1) with
  | false => 
    simp
    rw [not_valid fun h => ?_]; exact drop_ret hle
    have : (co.all fun n => decide (0 ≤ n) && decide (n ≤ side - 1)) = true := by
      rw [List.all_eq_true]; intro n hn
      have := h.cols n hn
      simp [this]
    rw [h9] at this; cases this
  | true =>
  simp [hc]
  refine (areFinite_ok _ hw (by omega)).on ?_
  cases h10 : allFin va with
  | false => simp; rw [not_valid fun h => by have := h.fin; rw [h10] at this; cases this]; exact drop_ret hle
  | true =>
  simp [hc]
  have hst : ∀ i : Nat, i ≤ side.toNat → 0 ≤ nth st i ∧ nth st i ≤ co.length := by
    intro i hi
    have hr := rising_iff.1 h8
    have q1 := rising_le hr (Nat.zero_le i) (by omega)
    have q2 := rising_le hr hi iN
    rw [h6] at q1; rw [h7] at q2
    exact ⟨q1, q2⟩
  refine AW_for side.toNat (fun i fr H' => H' = H1 ∧ fr 1 = .ptrR id 0 ∧ fr 72 = i64 side ∧ fr 73 = i64 i ∧ ∀ i' : Nat, i' < i → ∀ k : Nat, nth st i' < k → (k : Int) < nth st (i' + 1) → nth co (k - 1) < nth co k) ?_ ?_
  · simp
  · rintro i fr H' hi ⟨rfl, g1, g72, g73, hp⟩
    by_cases hlt : (i : Int) < side
    · have b1 := hst i (by omega)
      have b2 := hst (i + 1) (by omega)
      have w3 : IntKind.i64.wrap (nth st i + 1) = nth st i + 1 := win (by omega)
      have hi1 : i < st.length := by omega
      have hi2 : i + 1 < st.length := by omega
      obtain ⟨a, ha⟩ : ∃ a : Nat, nth st i = a := ⟨(nth st i).toNat, by omega⟩
      obtain ⟨t, ht⟩ : ∃ t : Nat, nth st (i + 1) = t := ⟨(nth st (i + 1)).toNat, by omega⟩
      rw [ha] at w3
      simp [g1, g72, g73, hlt, hc, hy.idx, hy.nth, hi1, show (i : Int) < (st.length : Nat) by omega, w3, ha]
      refine AW_for (co.length + 1) (fun j fr H2 => H2 = H' ∧ fr 1 = .ptrR id 0 ∧ fr 4 = i64 i ∧ fr 72 = i64 side ∧ fr 73 = i64 i ∧ fr 5 = i64 ((a + 1 + j : Nat) : Int) ∧ 
        ∀ k : Nat, a < k → k < a + 1 + j → nth co (k - 1) < nth co k) ?_ ?_
      · simp
        intro k q1 q2; omega
      · rintro j fr H2 hj ⟨rfl, g1, g4, g72, g73, g5, hq⟩
        have hh := hy.nth (P := Try.prog) (e := 2) (by simp) hi2
        have hx := hy.idx (P := Try.prog) (t := 22) (k := .i64) (i := ((i + 1 : Nat) : Int)) (by simp) (by omega) (by omega)
        have w5 : IntKind.i64.wrap (((a + 1 + j : Nat) : Int) - 1) = ((a + j : Nat) : Int) := by rw [win (by omega)]; omega
        rw [Int.toNat_natCast] at hx
        rw [ht] at hh
        have w4 := wadd i (by omega)
        have w6 := wadd (a + 1 + j) (by omega)
        generalize hI : ((i + 1 : Nat) : Int) = I at hx
        generalize hK : ((a + 1 + j : Nat) : Int) = K at g5 w5 w6
        have w4' : IntKind.i64.wrap ((i : Int) + 1) = I := by rw [w4]; omega
        by_cases hjt : K < t
        · have e1 := hz.idx (P := Try.prog) (t := 22) (k := .i64) (i := K) (by simp) (by omega) (by omega)
          have e2 := hz.idx (P := Try.prog) (t := 22) (k := .i64) (i := ((a + j : Nat) : Int)) (by simp) (by omega) (by omega)
          have n1 := hz.nth (P := Try.prog) (e := 2) (by simp) (show a + 1 + j < co.length by omega)
          have n2 := hz.nth (P := Try.prog) (e := 2) (by simp) (show a + j < co.length by omega)
          rw [show K.toNat = a + 1 + j by omega] at e1
          rw [Int.toNat_natCast] at e2
          generalize hJ : ((a + j : Nat) : Int) = J at w5 e2
          simp [g1, g4, g72, g73, g5, hc, w4', w5, hx, hh, hjt, e1, e2, n1, n2]
          by_cases hcc : nth co (a + 1 + j) ≤ nth co (a + j)
          · simp [hcc]
            rw [not_valid fun h => ?_]; exact drop_ret hle
            have := h.rows i hlt (a + 1 + j) (by omega) (by omega)
            rw [show a + 1 + j - 1 = a + j by omega] at this
            omega
          · simp [hcc, w6]
            refine ⟨by omega, by omega, fun k q1 q2 => ?_⟩
            by_cases ek : k = a + 1 + j
            · subst ek
              rw [show a + 1 + j - 1 = a + j by omega]; omega
            · exact hq k q1 (by omega)
        · simp [g1, g4, g72, g73, g5, hc, w4', hx, hh, hjt]
          refine ⟨by omega, fun i' q1 k q2 q3 => ?_⟩
          by_cases ei : i' = i
          · subst ei
            exact hq k (by omega) (by omega)
          · exact hp i' (by omega) k q2 q3
    · simp [g1, g72, g73, hlt]
      rw [valid_iff.2 ⟨h1, h2, h3, by omega, h5, h6, h7, rising_iff.1 h8, by simpa using h9, h10, fun i' hi' => hp i' (by omega)⟩]
      exact drop_ret hle
end
end Go.Ab
