/- Whether a sparse square is valid: the reference's check. -/
import Derived.Test.YtdfoobfofjbjiaaSpH
set_option linter.unusedSimpArgs false
set_option linter.unusedVariables false
namespace Go.Ab
open Go.Proofs
set_option maxRecDepth 100000

section
variable {side : Int} {st co : List Int} {va xs ys bs : List Nat} {x y z w : AV} {H : AHeap} {ida : Nat}
set_option maxHeartbeats 4000000 in
theorem l05Is_ok (hc : cellsAt H ida = some [i64 side, y, z, w]) (hy : Sl H i64 y st) (hz : Sl H i64 z co) (hw : Sl H f32 w va) (l1 : st.length ≤ 1048576) (l2 : co.length ≤ 1048576) (l3 : va.length ≤ 1048576) :
    ACalls Try.prog 116 [.ptrR ida 0] H (Ret (.bool (valid side st co va)) H) := by
  obtain ⟨r, hr⟩ : ∃ r, valid side st co va = r := ⟨_, rfl⟩
  rw [hr]
  have hno : ¬ Valid side st co va → Ret (.bool r) H (.bool false) H := fun h => by rw [← hr, not_valid h]; exact .mk _ _
  refine call_in Try.ft116 hmix Try.func116 (by kernel_rfl) ?_
  simp [Try.f116, Try.ft116, hc, hz.len]
  refine (l00In_ok _ _ _ _).on ?_
  by_cases h1 : 1 ≤ side
  case neg => simp [h1]; exact hno fun h => h1 h.s1
  by_cases h2 : side ≤ 32
  case neg => simp [h2]; exact hno fun h => h2 h.s2
  have w1 : IntKind.i64.wrap (side + 1) = side + 1 := win (by omega)
  have w2 : IntKind.i64.wrap (side - 1) = side - 1 := win (by omega)
  by_cases h3 : (st.length : Int) = side + 1
  case neg => simp [h1, h2, hc, hy.len, w1, h3]; exact hno fun h => h3 h.len
  by_cases h4 : 512 < co.length
  case pos => simp [h1, h2, hc, hy.len, w1, h3, show (512 : Int) < co.length by omega]; exact hno fun h => by have := h.few; omega
  by_cases h5 : va.length = co.length
  case neg => simp [h1, h2, hc, hy.len, w1, h3, show ¬ (512 : Int) < co.length by omega, hw.len, show ¬ (va.length : Int) = co.length by omega]; exact hno fun h => h5 h.vals
  simp [h1, h2, hc, hy.len, w1, h3, show ¬ (512 : Int) < co.length by omega, hw.len, h5]
  refine .on (l02Finite_ok hw (by omega)) ?_
  cases h10 : allFin va with
  | false => simp; exact hno fun h => by have := h.fin; rw [h10] at this; cases this
  | true =>
  have i0 : 0 < st.length := by omega
  have iN : side.toNat < st.length := by omega
  by_cases h6 : nth st 0 = 0
  case neg => simp [hc, hy.idx, hy.nth, i0, h6]; exact hno fun h => h6 h.first
  by_cases h7 : nth st side.toNat = co.length
  case neg => simp [hc, hy.idx, hy.nth, i0, h6, iN, show (0 : Int) ≤ side by omega, show side < (st.length : Nat) by omega, h7]; exact hno fun h => h7 h.last
  simp [hc, hy.idx, hy.nth, i0, h6, iN, show (0 : Int) ≤ side by omega, show side < (st.length : Nat) by omega, h7]
  refine AW_for side.toNat (fun i fr H' => H' = H ∧ fr 0 = .ptrR ida 0 ∧ fr 3 = i64 co.length ∧ fr 4 = i64 i ∧ (∀ i' : Nat, i' < i → nth st i' ≤ nth st (i' + 1)) ∧ 0 ≤ nth st i ∧ nth st i ≤ co.length ∧
    (∀ k : Nat, (k : Int) < nth st i → 0 ≤ nth co k ∧ nth co k ≤ side - 1) ∧ ∀ i' : Nat, i' < i → ∀ k : Nat, nth st i' < k → (k : Int) < nth st (i' + 1) → nth co (k - 1) < nth co k) ?_ ?_
  · simp [h6]
    intro k hk; omega
  · rintro i fr H' hi ⟨rfl, g0, g3, g4, p1, p2, p3, p4, p5⟩
    by_cases hlt : (i : Int) < side
    · have hi1 : i < st.length := by omega
      have hi2 : i + 1 < st.length := by omega
      obtain ⟨a, ha⟩ : ∃ a : Nat, nth st i = a := ⟨(nth st i).toNat, by omega⟩
      have hh := hy.nth (P := Try.prog) (e := 2) (by simp) hi2
      have hx := hy.idx (P := Try.prog) (t := 22) (k := .i64) (i := ((i + 1 : Nat) : Int)) (by simp) (by omega) (by omega)
      rw [Int.toNat_natCast] at hx
      have w4 := wadd i (by omega)
      generalize hI : ((i + 1 : Nat) : Int) = I at hx
      have w4' : IntKind.i64.wrap ((i : Int) + 1) = I := by rw [w4]; omega
      by_cases hf : nth st (i + 1) < a
      · simp [g0, g3, g4, hc, hlt, w4', hx, hh, hy.idx, hy.nth, hi1, show (i : Int) < (st.length : Nat) by omega, ha, hf]
        exact hno fun h => by have := h.step hlt; omega
      · by_cases hf2 : (co.length : Int) < nth st (i + 1)
        · simp [g0, g3, g4, hc, hlt, w4', hx, hh, hy.idx, hy.nth, hi1, show (i : Int) < (st.length : Nat) by omega, ha, hf, hf2]
          exact hno fun h => by have := (h.bounds (i := i + 1) (by omega)).2; omega
        · obtain ⟨t, ht⟩ : ∃ t : Nat, nth st (i + 1) = t := ⟨(nth st (i + 1)).toNat, by omega⟩
          rw [ht] at hf hf2 hh
          simp [g0, g3, g4, hc, hlt, w4', hx, hh, hy.idx, hy.nth, hi1, show (i : Int) < (st.length : Nat) by omega, ha, hf, hf2]
          refine AW_for (t - a) (fun j fr H2 => H2 = H' ∧ fr 0 = .ptrR ida 0 ∧ fr 3 = i64 co.length ∧ fr 4 = i64 i ∧ fr 5 = i64 ((a + j : Nat) : Int) ∧
            (∀ k : Nat, k < a + j → 0 ≤ nth co k ∧ nth co k ≤ side - 1) ∧ ∀ k : Nat, a < k → k < a + j → nth co (k - 1) < nth co k) ?_ ?_
          · simp
            refine ⟨fun k hk => ?_, fun k q1 q2 => by omega⟩
            have := p4 k (by omega)
            omega
          · rintro j fr H2 hj ⟨rfl, g0, g3, g4, g5, q1, q2⟩
            have w6 := wadd (a + j) (by omega)
            by_cases hjt : a + j < t
            · have e1 := hz.idx (P := Try.prog) (t := 22) (k := .i64) (i := ((a + j : Nat) : Int)) (by simp) (by omega) (by omega)
              have n1 := hz.nth (P := Try.prog) (e := 2) (by simp) (show a + j < co.length by omega)
              rw [Int.toNat_natCast] at e1
              by_cases hj0 : j = 0
              · subst hj0
                rw [Nat.add_zero] at *
                have hJt : (a : Int) < t := by omega
                simp [g0, g3, g4, g5, hc, w4', hx, hh, hJt, e1, n1, w2]
                refine (l00In_ok _ _ _ _).on ?_
                by_cases hr1 : 0 ≤ nth co a ∧ nth co a ≤ side - 1
                · simp [hr1, hc, hy.idx, hy.nth, hi1, show (i : Int) < (st.length : Nat) by omega, ha, w6]
                  refine ⟨by omega, fun k hk => ?_, fun k s1 s2 => by omega⟩
                  by_cases ek : k = a
                  · subst ek; exact hr1
                  · exact q1 k (by omega)
                · have : (decide (0 ≤ nth co a) && decide (nth co a ≤ side - 1)) = false := by
                    rw [Bool.eq_false_iff]; simp; intro h; omega
                  simp [this]
                  exact hno fun h => hr1 (h.cols _ (nth_mem (by omega)))
              · have w5 : IntKind.i64.wrap (((a + j : Nat) : Int) - 1) = ((a + j - 1 : Nat) : Int) := by rw [win (by omega)]; omega
                have e2 := hz.idx (P := Try.prog) (t := 22) (k := .i64) (i := ((a + j - 1 : Nat) : Int)) (by simp) (by omega) (by omega)
                have n2 := hz.nth (P := Try.prog) (e := 2) (by simp) (show a + j - 1 < co.length by omega)
                rw [Int.toNat_natCast] at e2
                have hJt : ((a + j : Nat) : Int) < t := by omega
                have hJa : (a : Int) < ((a + j : Nat) : Int) := by omega
                generalize hJ : ((a + j : Nat) : Int) = J at g5 w6 e1 hJt hJa w5
                generalize hJ' : ((a + j - 1 : Nat) : Int) = J' at w5 e2
                simp [g0, g3, g4, g5, hc, w4', hx, hh, hJt, e1, n1, w2]
                refine (l00In_ok _ _ _ _).on ?_
                by_cases hr1 : 0 ≤ nth co (a + j) ∧ nth co (a + j) ≤ side - 1
                · by_cases hcc : nth co (a + j) ≤ nth co (a + j - 1)
                  · simp [hr1, hc, hy.idx, hy.nth, hi1, show (i : Int) < (st.length : Nat) by omega, ha, hJa, e1, e2, n1, n2, w5, hcc]
                    exact hno fun h => by
                      have := h.rows i hlt (a + j) (by omega) (by omega)
                      omega
                  · simp [hr1, hc, hy.idx, hy.nth, hi1, show (i : Int) < (st.length : Nat) by omega, ha, hJa, e1, e2, n1, n2, w5, hcc, w6]
                    refine ⟨by omega, by omega, fun k hk => ?_, fun k s1 s2 => ?_⟩
                    · by_cases ek : k = a + j
                      · subst ek; exact hr1
                      · exact q1 k (by omega)
                    · by_cases ek : k = a + j
                      · subst ek; omega
                      · exact q2 k s1 (by omega)
                · have : (decide (0 ≤ nth co (a + j)) && decide (nth co (a + j) ≤ side - 1)) = false := by
                    rw [Bool.eq_false_iff]; simp; intro h; omega
                  simp [this]
                  exact hno fun h => hr1 (h.cols _ (nth_mem (by omega)))
            · have hJt : ¬ ((a + j : Nat) : Int) < t := by omega
              generalize hJ : ((a + j : Nat) : Int) = J at g5 hJt
              simp [g0, g3, g4, g5, hc, w4', hx, hh, hJt]
              refine ⟨fun i' s1 => ?_, by omega, by omega, fun k hk => ?_, fun i' s1 k s2 s3 => ?_⟩
              · by_cases ei : i' = i
                · subst ei; omega
                · exact p1 i' (by omega)
              · exact q1 k (by omega)
              · by_cases ei : i' = i
                · subst ei; exact q2 k (by omega) (by omega)
                · exact p5 i' (by omega) k s2 s3
    · have ei : i = side.toNat := by omega
      simp [g0, g3, g4, hc, hlt]
      have : Valid side st co va := by
        refine ⟨h1, h2, h3, by omega, h5, h6, h7, fun i' hi' => p1 i' (by omega), fun n hn => ?_, h10, fun i' hi' => p5 i' (by omega)⟩
        obtain ⟨k, hk, rfl⟩ := mem_nth hn
        exact p4 k (by rw [ei, h7]; omega)
      rw [← hr, valid_iff.2 this]; exact .mk _ _

theorem l05Fits_ok (hc : cellsAt H ida = some [i64 side, y, z, w]) (hy : Sl H i64 y st) (hz : Sl H i64 z co) (hw : Sl H f32 w va) (hx : Sl H f32 x bs) (l1 : st.length ≤ 1048576) (l2 : co.length ≤ 1048576) (l3 : va.length ≤ 1048576) (l4 : bs.length ≤ 1048576) :
    ACalls Try.prog 76 [.ptrR ida 0, x] H (Ret (.bool (valid side st co va && decide ((bs.length : Int) = side) && allFin bs)) H) := by
  obtain ⟨r, hr⟩ : ∃ r, (valid side st co va && decide ((bs.length : Int) = side) && allFin bs) = r := ⟨_, rfl⟩
  rw [hr]
  refine call_in Try.ft76 hmix Try.func76 (by kernel_rfl) ?_
  simp [Try.f76, Try.ft76]
  refine (l05Is_ok hc hy hz hw l1 l2 l3).on ?_
  cases hv : valid side st co va with
  | false => rw [hv] at hr; subst hr; simp; exact .mk _ _
  | true =>
  by_cases hb : (bs.length : Int) = side
  case neg => rw [hv] at hr; simp [hb] at hr; subst hr; simp [hx.len, hc, hb]; exact .mk _ _
  simp [hx.len, hc, hb]
  refine (l02Finite_ok hx (by omega)).on ?_
  rw [hv] at hr
  simp [hb] at hr
  simp [hr]; exact .mk _ _
end
end Go.Ab
