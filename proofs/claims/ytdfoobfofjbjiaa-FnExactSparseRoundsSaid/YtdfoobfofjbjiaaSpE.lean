/- A sparse square times a vector, sums of products, roots of sums of squares, differences. -/
import Derived.Test.YtdfoobfofjbjiaaSpD
set_option linter.unusedSimpArgs false
set_option linter.unusedVariables false
namespace Go.Ab
open Go.Proofs
set_option maxRecDepth 100000

def timesF (n : Nat) (st co : List Int) (va xs : List Nat) : List Nat := mk n fun i => rowFold st co va i (fun s c v => addF .f32 s (mulF .f32 v (nth xs c.toNat))) 0

section
variable {side : Int} {st co : List Int} {va xs ys : List Nat} {x y z w : AV}
theorem times1_ok {G : AHeap} {gid idv : Nat} (hne : idv ≠ gid) (hv : cellsAt G idv = some [x]) (hx : Sl G f32 x xs) (hG : G gid = none) (s : Nat) (c : Int) (v : Nat) (h0 : 0 ≤ c) (h1 : c < xs.length) :
    ACalls Try.prog 169 [i64 c, f32 v, .ptrR gid 0, .ptrR idv 0] (G.set gid (some (.cells [f32 s]))) (Ret (.tuple []) (G.set gid (some (.cells [f32 (addF .f32 s (mulF .f32 v (nth xs c.toNat)))])))) := by
  have hx2 := hx.mono (AHeap.le_set (some (.cells [f32 s])) (AHeap.le_refl _) hG)
  have hl : c.toNat < xs.length := by omega
  refine call_in Try.ft169 hmix Try.func169 (by kernel_rfl) ?_
  simp [Try.f169, Try.ft169, hne, hv, hx.idx, hx2.nth, h0, h1, hl]
  refine .on (mul_ok _ _ _) ?_
  simp; exact .mk _ _

theorem times_ok (h : Valid side st co va) {H : AHeap} (hy : Sl H i64 y st) (hz : Sl H i64 z co) (hw : Sl H f32 w va) (hx : Sl H f32 x xs) (hn : side ≤ xs.length) :
    ACalls Try.prog 94 [sparseAV side y z w, x] H (Ret (lst f32 (timesF side.toNat st co va xs)) H) := by
  have hs1 := h.s1
  have hs2 := h.s2
  refine fin_in Try.ft94 hmix Try.func94 (by kernel_rfl) ?_
  simp [Try.f94, Try.ft94, hy.cells, hz.cells, hw.cells, hx.cells]
  intro id2 h2 id3 h3
  obtain ⟨n32, h3⟩ := AHeap.set_none_of h3
  have hle : H.le ((H.set id2 (some (.cells [i64 side, y, z, w]))).set id3 (some (.cells [x]))) := AHeap.le_set _ (AHeap.le_set _ (AHeap.le_refl _) h2) h3
  have e2 : cellsAt ((H.set id2 (some (.cells [i64 side, y, z, w]))).set id3 (some (.cells [x]))) id2 = some [i64 side, y, z, w] := by simp [not_symm n32]
  have e3 : cellsAt ((H.set id2 (some (.cells [i64 side, y, z, w]))).set id3 (some (.cells [x]))) id3 = some [x] := by simp
  generalize (H.set id2 (some (.cells [i64 side, y, z, w]))).set id3 (some (.cells [x])) = H1 at hle e2 e3 ⊢
  simp [e2]
  refine AW_for side.toNat (fun k fr H' => fr 2 = .ptrR id2 0 ∧ fr 3 = .ptrR id3 0 ∧ fr 10 = i64 side ∧ fr 11 = i64 k ∧
    ∃ v B, fr 5 = v ∧ H1.le B ∧ Grow B empty0 f32 (timesF k st co va xs) v H') ?_ ?_
  · simp
    exact ⟨H1, AHeap.le_refl _, .start ..⟩
  · rintro k fr H' hk ⟨g2, g3, g10, g11, v, B, g5, hB, hg⟩
    have hH' : H.le H' := AHeap.le_trans hle (AHeap.le_trans hB hg.le)
    have c2 := cellsAt_le e2 (AHeap.le_trans hB hg.le)
    have c3 := cellsAt_le e3 (AHeap.le_trans hB hg.le)
    by_cases hlt : (k : Int) < side
    · simp [g2, g3, g10, g11, g5, hlt]
      intro id7 h7
      have n72 : id2 ≠ id7 := by rintro rfl; unfold cellsAt at c2; rw [h7] at c2; cases c2
      have n73 : id3 ≠ id7 := by rintro rfl; unfold cellsAt at c3; rw [h7] at c3; cases c3
      simp [n72, c2]
      have hd : Does2 Try.prog 169 [] [.ptrR id7 0, .ptrR id3 0] side H' id7 (fun s => .cells [f32 s]) (fun s c v => addF .f32 s (mulF .f32 v (nth xs c.toNat))) := by
        intro G hG hG7 s c v q1 q2
        exact times1_ok n73 (cellsAt_le c3 hG) ((hx.mono hH').mono hG) hG7 s c v q1 (by omega)
      refine (each_ok h hlt h7 (hy.mono hH') (hz.mono hH') (hw.mono hH') hd 0).on ?_
      simp
      have hg7 := hg.fresh (.cells [f32 (rowFold st co va k (fun s c v => addF .f32 s (mulF .f32 v (nth xs c.toNat))) 0)]) h7
      refine hg7.append (ys := [rowFold st co va k (fun s c v => addF .f32 s (mulF .f32 v (nth xs c.toNat))) 0]) rfl (b := 4) (by simp) (by simp [elemsOf]) rfl (by simp) (by simp) (by simp [timesF]; omega) ?_
      intro v' H3 hg3
      simp [wadd k (by omega)]
      refine ⟨_, ?_, by rw [timesF, mk_succ]; exact hg3⟩
      exact AHeap.le_trans hB (AHeap.le_set _ (AHeap.le_refl _) (by cases e : B id7 with | none => rfl | some b => have := hg.le _ _ e; rw [h7] at this; cases this))
    · simp [g2, g3, g10, g11, g5, hlt]
      have ek : k = side.toNat := by omega
      subst ek
      refine hg.fin (A := H) (AHeap.le_trans hle hB) (g := fun v => v) (fun id ys a b h => h) (e' := lst f32 ([] : List Nat)) frz_empty ?_
      split
      · rename_i h0; simp [timesF] at h0; omega
      · exact .mk _ _

/-- The sum of products. -/
def dotF (xs ys : List Nat) : Nat := (List.range xs.length).foldl (fun s i => addF .f32 s (mulF .f32 (nth xs i) (nth ys i))) 0
theorem dot_ok {H : AHeap} (hx : Sl H f32 x xs) (hy : Sl H f32 y ys) (hl : xs.length ≤ ys.length) (hb : xs.length ≤ 1073741824) : ACalls Try.prog 160 [x, y] H (Ret (f32 (dotF xs ys)) H) := by
  refine call_in Try.ft160 hmix Try.func160 (by kernel_rfl) ?_
  simp [Try.f160, Try.ft160, hx.len]
  refine AW_for xs.length (fun k fr H' => H' = H ∧ fr 1 = y ∧ fr 8 = x ∧ fr 9 = i64 xs.length ∧ fr 10 = i64 k ∧ fr 5 = f32 ((List.range k).foldl (fun s i => addF .f32 s (mulF .f32 (nth xs i) (nth ys i))) 0)) ?_ ?_
  · simp [canon_zero]
  · rintro k fr H' hk ⟨rfl, g1, g8, g9, g10, g5⟩
    by_cases hlt : k < xs.length
    · simp [g1, g8, g9, g10, g5, hlt, hx.idx, hx.nth, hy.idx, hy.nth, show (k : Int) < ys.length by omega, show k < ys.length by omega]
      refine (mul_ok _ _ _).on ?_
      simp [wadd k (by omega)]
      rw [foldl_range_succ]
    · simp [g1, g8, g9, g10, g5, hlt]
      have : k = xs.length := by omega
      subst this
      exact .mk _ _
def normF (xs : List Nat) : Nat := rootF (dotF xs xs)
theorem norm_ok {H : AHeap} (hx : Sl H f32 x xs) (hb : xs.length ≤ 1073741824) : ACalls Try.prog 92 [x] H (Ret (f32 (normF xs)) H) := by
  refine call_in Try.ft92 hmix Try.func92 (by kernel_rfl) ?_
  simp [Try.f92, Try.ft92]
  refine (dot_ok hx hx (Nat.le_refl _) hb).on ?_
  simp
  refine (rootNumber_ok _ _).on ?_
  simp; exact .mk _ _

/-- Differences. -/
def minusF (xs ys : List Nat) : List Nat := mk xs.length fun i => subF .f32 (nth xs i) (nth ys i)
theorem minus_ok {H : AHeap} (hx : Sl H f32 x xs) (hy : Sl H f32 y ys) (hl : xs.length ≤ ys.length) (hb : xs.length ≤ 1048576) (h0 : xs ≠ []) : ACalls Try.prog 93 [x, y] H (Ret (lst f32 (minusF xs ys)) H) := by
  refine fin_in Try.ft93 hmix Try.func93 (by kernel_rfl) ?_
  simp [Try.f93, Try.ft93, hx.len]
  refine AW_for xs.length (fun k fr H' => fr 1 = y ∧ fr 9 = x ∧ fr 10 = i64 xs.length ∧ fr 11 = i64 k ∧ ∃ v, fr 5 = v ∧ Grow H empty0 f32 (mk k fun i => subF .f32 (nth xs i) (nth ys i)) v H') ?_ ?_
  · simp
    exact .start ..
  · rintro k fr H' hk ⟨g1, g9, g10, g11, v, g5, hg⟩
    have hx2 := hx.mono hg.le
    have hy2 := hy.mono hg.le
    by_cases hlt : k < xs.length
    · simp [g1, g9, g10, g11, g5, hlt, hx.idx, hx2.nth, hy.idx, hy2.nth, show (k : Int) < ys.length by omega, show k < ys.length by omega]
      refine hg.append (ys := [subF .f32 (nth xs k) (nth ys k)]) rfl (b := 4) (by simp) (by simp [elemsOf]) rfl (by simp) (by simp) (by simp; omega) ?_
      intro v' H3 hg3
      simp [wadd k (by omega), hlt]
      rw [mk_succ]; exact hg3
    · simp [g1, g9, g10, g11, g5, hlt]
      have : k = xs.length := by omega
      subst this
      refine hg.fin (A := H) (AHeap.le_refl _) (g := fun v => v) (fun id ys a b h => h) (e' := lst f32 ([] : List Nat)) frz_empty ?_
      split
      · rename_i h1; simp at h1; exact absurd h1 h0
      · exact .mk _ _
end
end Go.Ab
