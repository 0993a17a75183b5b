/- The reference's small functions. -/
import Derived.Test.YtdfoobfofjbjiaaSpG
set_option linter.unusedSimpArgs false
set_option linter.unusedVariables false
namespace Go.Ab
open Go.Proofs
set_option maxRecDepth 100000

theorem l01Finite_ok (b : Nat) (H : AHeap) : ACalls Try.prog 83 [f32 b] H (Ret (.bool (isFin .f32 b)) H) := by
  refine call_in Try.ft83 hmix Try.func83 (by kernel_rfl) ?_
  simp [Try.f83, Try.ft83, canon_zero, sub_self_fin]; exact .mk _ _
theorem l00In_ok (n low high : Int) (H : AHeap) : ACalls Try.prog 78 [i64 n, i64 low, i64 high] H (Ret (.bool (decide (low ≤ n) && decide (n ≤ high))) H) := by
  refine call_in Try.ft78 hmix Try.func78 (by kernel_rfl) ?_
  by_cases h1 : low ≤ n <;> simp [Try.f78, Try.ft78, h1] <;> exact .mk _ _
theorem l02Least_ok (b : Nat) (H : AHeap) : ACalls Try.prog 77 [f32 b] H (Ret (.bool (isFin .f32 b && geF .f32 b 0)) H) := by
  refine call_in Try.ft77 hmix Try.func77 (by kernel_rfl) ?_
  simp [Try.f77, Try.ft77]
  refine (l01Finite_ok _ _).on ?_
  cases isFin .f32 b <;> simp [canon_zero] <;> exact .mk _ _
theorem l01Narrow_ok (b : Nat) (H : AHeap) {c : Nat} (hc : floatToF .f64 b .f32 = some c) : ACalls Try.prog 202 [f64 b] H (Ret (f32 c) H) := by
  refine call_in Try.ft202 hmix Try.func202 (by kernel_rfl) ?_
  simp [Try.f202, Try.ft202, hc]; exact .mk _ _
theorem l01Sqrt_ok (b : Nat) (H : AHeap) : ACalls Try.prog 162 [f32 b] H (Ret (f32 (rootF b)) H) := by
  refine call_in Try.ft162 hmix Try.func162 (by kernel_rfl) ?_
  simp [Try.f162, Try.ft162]
  refine (sqrtGo_ok _ H).on ?_
  simp
  refine (l01Narrow_ok _ _ (root_ok b)).on ?_
  simp; exact .mk _ _

section
variable {side : Int} {st co : List Int} {va xs ys bs : List Nat} {x y z w : AV} {H : AHeap} {ida : Nat}
theorem l02Finite_ok (hx : Sl H f32 x xs) (hl : xs.length ≤ 1073741824) : ACalls Try.prog 82 [x] H (Ret (.bool (allFin xs)) H) := by
  refine call_in Try.ft82 hmix Try.func82 (by kernel_rfl) ?_
  simp [Try.f82, Try.ft82]
  refine AW_for xs.length (fun k fr H' => H' = H ∧ fr 0 = x ∧ fr 3 = i64 k ∧ ∀ i, i < k → isFin .f32 (nth xs i) = true) ?_ ?_
  · simp
  · rintro k fr H' hk ⟨rfl, g0, g3, hp⟩
    by_cases hlt : k < xs.length
    · simp [g0, g3, hlt, hx.len, hx.idx, hx.nth]
      refine (l01Finite_ok _ _).on ?_
      cases hf : isFin .f32 (nth xs k) with
      | false =>
        simp
        have : allFin xs = false := by
          rw [Bool.eq_false_iff]; intro h
          rw [allFin, List.all_eq_true] at h
          have := h _ (nth_mem hlt)
          rw [hf] at this; cases this
        rw [this]; exact .mk _ _
      | true =>
        simp [wadd k (by omega)]
        intro i hi
        by_cases e : i = k
        · subst e; exact hf
        · exact hp i (by omega)
    · simp [g0, g3, hlt, hx.len]
      have : allFin xs = true := by
        rw [allFin, List.all_eq_true]
        intro b hb
        obtain ⟨i, hi, rfl⟩ := mem_nth hb
        exact hp i (by omega)
      rw [this]; exact .mk _ _
theorem l02Dot_ok (hx : Sl H f32 x xs) (hy : Sl H f32 y ys) (hl : xs.length ≤ ys.length) (hb : xs.length ≤ 1073741824) : ACalls Try.prog 163 [x, y] H (Ret (f32 (dotF xs ys)) H) := by
  refine call_in Try.ft163 hmix Try.func163 (by kernel_rfl) ?_
  simp [Try.f163, Try.ft163]
  refine AW_for xs.length (fun k fr H' => H' = H ∧ fr 0 = x ∧ fr 1 = y ∧ fr 6 = i64 k ∧ fr 5 = f32 ((List.range k).foldl (fun s i => addF .f32 s (mulF .f32 (nth xs i) (nth ys i))) 0)) ?_ ?_
  · simp [canon_zero]
  · rintro k fr H' hk ⟨rfl, g0, g1, g6, g5⟩
    by_cases hlt : k < xs.length
    · simp [g0, g1, g6, g5, hlt, hx.len, hx.idx, hx.nth, hy.idx, hy.nth, show (k : Int) < ys.length by omega, show k < ys.length by omega, wadd k (by omega)]
      rw [foldl_range_succ]
    · simp [g0, g1, g6, g5, hlt, hx.len]
      have : k = xs.length := by omega
      subst this
      exact .mk _ _
theorem l05Norm_ok (hx : Sl H f32 x xs) (hb : xs.length ≤ 1073741824) : ACalls Try.prog 80 [x] H (Ret (f32 (normF xs)) H) := by
  refine call_in Try.ft80 hmix Try.func80 (by kernel_rfl) ?_
  simp [Try.f80, Try.ft80]
  refine (l02Dot_ok hx hx (Nat.le_refl _) hb).on ?_
  simp
  refine (l01Sqrt_ok _ _).on ?_
  simp; exact .mk _ _

/-- A slice that has grown, on a new block. -/
def RetGrown {α : Type} (f : α → AV) (xs : List α) (H : AHeap) : AV → AHeap → Prop := fun v H' => ∃ id, H id = none ∧ v = .sliceR id 0 xs.length 1 none ∧ H' = own f id xs H

theorem l05Times_ok (h : Valid side st co va) (hc : cellsAt H ida = some [i64 side, y, z, w]) (hy : Sl H i64 y st) (hz : Sl H i64 z co) (hw : Sl H f32 w va) (hx : Sl H f32 x xs) (hn : side ≤ xs.length) :
    ACalls Try.prog 164 [.ptrR ida 0, x] H (RetGrown f32 (timesF side.toNat st co va xs) H) := by
  have hs1 := h.s1
  have hs2 := h.s2
  have hl := h.len
  have hco := h.few
  have hva := h.vals
  refine call_in Try.ft164 hmix Try.func164 (by kernel_rfl) ?_
  simp [Try.f164, Try.ft164]
  refine AW_for side.toNat (fun k fr H' => fr 0 = .ptrR ida 0 ∧ fr 1 = x ∧ fr 6 = i64 k ∧ ∃ v, fr 5 = v ∧ Grow H empty0 f32 (timesF k st co va xs) v H') ?_ ?_
  · simp
    exact .start ..
  · rintro k fr H' hk ⟨g0, g1, g6, v, g5, hg⟩
    have c0 := cellsAt_le hc hg.le
    have hy2 := hy.mono hg.le
    have hz2 := hz.mono hg.le
    have hw2 := hw.mono hg.le
    have hx2 := hx.mono hg.le
    by_cases hlt : (k : Int) < side
    · have b1 := h.bounds (i := k) (by omega)
      have b2 := h.bounds (i := k + 1) (by omega)
      have b3 := h.step hlt
      obtain ⟨a, ha⟩ : ∃ a : Nat, nth st k = a := ⟨(nth st k).toNat, by omega⟩
      obtain ⟨t, ht⟩ : ∃ t : Nat, nth st (k + 1) = t := ⟨(nth st (k + 1)).toNat, by omega⟩
      simp [g0, g1, g6, g5, c0, hlt, hy.idx, hy2.nth, show k < st.length by omega, show (k : Int) < st.length by omega, ha]
      refine AW_for (t - a) (fun j fr H2 => H2 = H' ∧ fr 0 = .ptrR ida 0 ∧ fr 1 = x ∧ fr 5 = v ∧ fr 6 = i64 k ∧ fr 8 = i64 ((a + j : Nat) : Int) ∧
        fr 7 = f32 ((List.range j).foldl (fun s j => addF .f32 s (mulF .f32 (nth va (a + j)) (nth xs (nth co (a + j)).toNat))) 0)) ?_ ?_
      · simp [canon_zero]
      · rintro j fr H2 hj ⟨rfl, g0, g1, g5, g6, g8, g7⟩
        have w4 : IntKind.i64.wrap ((k : Int) + 1) = ((k + 1 : Nat) : Int) := by rw [wadd k (by omega)]; omega
        have hx' := hy.idx (P := Try.prog) (t := 22) (k := .i64) (i := ((k + 1 : Nat) : Int)) (by simp) (by omega) (by omega)
        have hh := hy2.nth (P := Try.prog) (e := 2) (by simp) (show k + 1 < st.length by omega)
        rw [Int.toNat_natCast] at hx'
        rw [ht] at hh
        generalize hI : ((k + 1 : Nat) : Int) = I at w4 hx'
        by_cases hjt : a + j < t
        · have w6 := wadd (a + j) (by omega)
          have e1 := hz.idx (P := Try.prog) (t := 22) (k := .i64) (i := ((a + j : Nat) : Int)) (by simp) (by omega) (by omega)
          have e2 := hw.idx (P := Try.prog) (t := 23) (k := .i64) (i := ((a + j : Nat) : Int)) (by simp) (by omega) (by omega)
          have n1 := hz2.nth (P := Try.prog) (e := 2) (by simp) (show a + j < co.length by omega)
          have n2 := hw2.nth (P := Try.prog) (e := 26) (by simp) (show a + j < va.length by omega)
          rw [Int.toNat_natCast] at e1 e2
          have hck := h.cols (nth co (a + j)) (nth_mem (by omega))
          have e3 := hx.idx (P := Try.prog) (t := 23) (k := .i64) (i := nth co (a + j)) (by simp) (by omega) (by omega)
          have n3 := hx2.nth (P := Try.prog) (e := 26) (by simp) (show (nth co (a + j)).toNat < xs.length by omega)
          have hJt : ((a + j : Nat) : Int) < t := by omega
          generalize hJ : ((a + j : Nat) : Int) = J at g8 w6 e1 e2 hJt
          simp [g0, g1, g5, g6, g7, g8, c0, w4, hx', hh, hJt, e1, e2, e3, n1, n2, n3, w6]
          refine ⟨by omega, by omega, ?_⟩
          rw [foldl_range_succ]
        · have hJt : ¬ ((a + j : Nat) : Int) < t := by omega
          generalize hJ : ((a + j : Nat) : Int) = J at g8 hJt
          have ej : j = t - a := by omega
          simp [g0, g1, g5, g6, g7, g8, c0, w4, hx', hh, hJt]
          have hrf : rowFold st co va k (fun s c v => addF .f32 s (mulF .f32 v (nth xs c.toNat))) 0 = (List.range j).foldl (fun s j => addF .f32 s (mulF .f32 (nth va (a + j)) (nth xs (nth co (a + j)).toNat))) 0 := by
            unfold rowFold
            rw [ha, ht, ej]; simp
          refine hg.append (ys := [(List.range j).foldl (fun s j => addF .f32 s (mulF .f32 (nth va (a + j)) (nth xs (nth co (a + j)).toNat))) 0]) rfl (b := 4) (by simp) (by simp [elemsOf]) rfl (by simp) (by simp) (by simp [timesF]; omega) ?_
          intro v' H3 hg3
          simp [wadd k (by omega)]
          rw [timesF, mk_succ, ← timesF, hrf]; exact hg3
    · simp [g0, g1, g6, g5, c0, hlt]
      have ek : k = side.toNat := by omega
      subst ek
      rcases hg with ⟨h1, _⟩ | ⟨h1, id, h2, rfl, rfl⟩
      · have := congrArg List.length h1
        simp [timesF] at this; omega
      · exact ⟨id, h2, rfl, rfl⟩

theorem l05Left_ok (h : Valid side st co va) (hc : cellsAt H ida = some [i64 side, y, z, w]) (hy : Sl H i64 y st) (hz : Sl H i64 z co) (hw : Sl H f32 w va) (hx : Sl H f32 x xs) (hn : side ≤ xs.length) {b : AV} (hb : Sl H f32 b bs) (hbl : (bs.length : Int) = side) :
    ACalls Try.prog 81 [.ptrR ida 0, x, b] H (RetGrown f32 (minusF bs (timesF side.toNat st co va xs)) H) := by
  have hs1 := h.s1
  have hs2 := h.s2
  have htl : (timesF side.toNat st co va xs).length = bs.length := by simp [timesF]; omega
  refine call_in Try.ft81 hmix Try.func81 (by kernel_rfl) ?_
  simp [Try.f81, Try.ft81]
  refine (l05Times_ok h hc hy hz hw hx hn).mono ?_
  rintro _ _ ⟨id, hid, rfl, rfl⟩
  generalize timesF side.toNat st co va xs = ts at htl ⊢
  simp [htl]
  have hbo := fun X => hb.mono (own_le (f := f32) (xs := X) hid)
  refine AW_for bs.length (fun k fr H' => fr 2 = b ∧ fr 7 = .sliceR id 0 bs.length 1 none ∧ fr 13 = i64 bs.length ∧ fr 14 = i64 k ∧ H' = own f32 id (mk bs.length fun i => if i < k then subF .f32 (nth bs i) (nth ts i) else nth ts i) H) ?_ ?_
  · simp
    rw [mk_nth' htl.symm]
  · rintro k fr H' hk ⟨g2, g7, g13, g14, rfl⟩
    by_cases hlt : k < bs.length
    · simp [-aStore_R, g2, g7, g13, g14, hlt, (hbo _).nth, hb.idx, own_idxN, own_at]
      rw [own_store (f := f32) (by simp) rfl rfl (by simpa using hlt), mk_step (g := fun i => subF .f32 (nth bs i) (nth ts i)) hlt]
      simp [wadd k (by omega)]
    · simp [g2, g7, g13, g14, hlt]
      refine ⟨id, hid, by simp [minusF], ?_⟩
      rw [mk_end (by omega)]; rfl
end
end Go.Ab
