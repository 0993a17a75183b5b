/- The law's helpers on sparse squares. -/
import Derived.Test.YtdfoobfofjbjiaaSpL
set_option linter.unusedSimpArgs false
set_option linter.unusedVariables false
namespace Go.Ab
open Go.Proofs
set_option maxRecDepth 100000

theorem sz_neg {l n : Int} (h : l - n < 0) : sz l n = -1 := by rw [sz, if_pos h]
theorem sz_pos {l n : Int} (h : ¬ l - n < 0) : sz l n = l - n := by rw [sz, if_neg h]
def szAll (a b c : Nat) : Int := if 1048576 - (a : Int) < 0 then -1 else if 1048576 - (a : Int) - b < 0 then -1 else if 1048576 - (a : Int) - b - c < 0 then -1 else 1048576 - (a : Int) - b - c
/-- A block holds a list. -/
abbrev HasL {α : Type} (f : α → AV) (id : Nat) (xs : List α) (H : AHeap) : Prop := H id = some (.cells (xs.map f))
theorem HasL.sl {α : Type} {f : α → AV} {id n : Nat} {xs : List α} {H : AHeap} (h : HasL f id xs H) (hn : xs.length = n) (ck : Option Nat) : Sl H f (.sliceR id 0 n 1 ck) xs := by subst hn; exact Sl.own h
theorem HasL.own {α : Type} {f : α → AV} {id : Nat} {xs : List α} {H : AHeap} (h : HasL f id xs H) : H = Ab.own f id xs (H.set id none) := by
  unfold Ab.own; rw [AHeap.set_set, AHeap.set_eq _ h]
theorem own_set {α : Type} {f : α → AV} {id : Nat} {ys : List α} {H : AHeap} : Ab.own f id ys (H.set id none) = H.set id (some (.cells (ys.map f))) := by unfold Ab.own; rw [AHeap.set_set]
theorem set_ne' {H : AHeap} {i j : Nat} {b : Option Blk} {c : Blk} (h : H i = some c) (hne : i ≠ j) : (H.set j b) i = some c := by rw [AHeap.set_ne _ _ hne]; exact h
theorem fresh_ne {H : AHeap} {i j : Nat} {c : Blk} (h : H i = some c) (hj : H j = none) : i ≠ j := by rintro rfl; rw [hj] at h; cases h

section
variable {side : Int} {st co : List Int} {va xs bs : List Nat} {x y z w y' z' w' : AV} {H : AHeap}
theorem markF_at {id n : Nat} (h : HasL f32 id xs H) (hn : xs.length = n) (hl : n ≤ 1048576) (k0 : Int) (h0 : 0 ≤ k0) (h1 : k0 ≤ 4611686018427387) :
    ACalls Try.prog 15 [ownS id n, i64 k0] H (Ret (i64 (k0 + n)) (H.set id (some (.cells ((marks k0 n).map f32))))) := by
  have := markFloat32S_ok (H := H.set id none) (xs := xs) (AHeap.set_same _ _ _) hn hl k0 h0 h1
  rw [← h.own, own_set] at this; exact this
theorem markI_at {id n : Nat} {ns : List Int} (h : HasL i64 id ns H) (hn : ns.length = n) (hl : n ≤ 1048576) (k0 : Int) (h0 : 0 ≤ k0) (h1 : k0 ≤ 4611686018427387) :
    ACalls Try.prog 98 [ownS id n, i64 k0] H (Ret (i64 (k0 + n)) (H.set id (some (.cells ((mk n fun i => k0 + (i : Nat)).map i64))))) := by
  have := markInt64S_ok (H := H.set id none) (ns := ns) (AHeap.set_same _ _ _) hn hl k0 h0 h1
  rw [← h.own, own_set] at this; exact this

theorem szSparse_ok (hy : Sl H i64 y st) (hz : Sl H i64 z co) (hw : Sl H f32 w va) (l1 : st.length ≤ 9223372036854775807) (l2 : co.length ≤ 9223372036854775807) (l3 : va.length ≤ 9223372036854775807) :
    ACalls Try.prog 7 [sparseAV side y z w, i64 1048576] H (Ret (i64 (szAll st.length co.length va.length)) H) := by
  obtain ⟨r, hr⟩ : ∃ r, szAll st.length co.length va.length = r := ⟨_, rfl⟩
  rw [hr]
  unfold szAll at hr
  refine fun_in Try.ft7 hmix Try.func7 (by kernel_rfl) ?_
  simp [Try.f7, Try.ft7, hy.cells, hz.cells, hw.cells]
  intro id hid
  have hle : H.le (H.set id (some (.cells [i64 side, y, z, w]))) := AHeap.le_set _ (AHeap.le_refl _) hid
  have hc := cellsAt_same (H := H) (id := id) [i64 side, y, z, w]
  generalize H.set id (some (.cells [i64 side, y, z, w])) = H1 at hle hc ⊢
  refine (szInt64S_ok (hy.mono hle) l1 _ (by omega) (by omega)).on ?_
  by_cases c1 : 1048576 - (st.length : Int) < 0
  · rw [if_pos c1] at hr; subst hr
    simp [sz_neg c1]; exact drop_ret hle
  rw [if_neg c1] at hr
  simp [sz_pos c1, c1, hc]
  refine (szInt64S_ok (hz.mono hle) l2 _ (by omega) (by omega)).on ?_
  by_cases c2 : 1048576 - (st.length : Int) - co.length < 0
  · rw [if_pos c2] at hr; subst hr
    simp [sz_neg c2]; exact drop_ret hle
  rw [if_neg c2] at hr
  simp [sz_pos c2, c2, hc]
  refine (szFloat32S_ok (hw.mono hle) l3 _ (by omega) (by omega)).on ?_
  by_cases c3 : 1048576 - (st.length : Int) - co.length - va.length < 0
  · rw [if_pos c3] at hr; subst hr
    simp [sz_neg c3]; exact drop_ret hle
  rw [if_neg c3] at hr; subst hr
  simp [sz_pos c3, c3]; exact drop_ret hle

theorem eqSparse_ok (hy : Sl H i64 y st) (hz : Sl H i64 z co) (hw : Sl H f32 w va) (hy' : Sl H i64 y' st) (hz' : Sl H i64 z' co) (hw' : Sl H f32 w' va) (l1 : st.length ≤ 1048576) (l2 : co.length ≤ 1048576) (l3 : va.length ≤ 1048576) :
    ACalls Try.prog 13 [sparseAV side y z w, sparseAV side y' z' w'] H (Ret (.bool true) H) := by
  refine fun_in Try.ft13 hmix Try.func13 (by kernel_rfl) ?_
  simp [Try.f13, Try.ft13, hy.cells, hz.cells, hw.cells, hy'.cells, hz'.cells, hw'.cells]
  intro id hid jd hjd
  obtain ⟨nj, hjd⟩ := AHeap.set_none_of hjd
  have hle : H.le ((H.set id (some (.cells [i64 side, y, z, w]))).set jd (some (.cells [i64 side, y', z', w']))) := AHeap.le_set _ (AHeap.le_set _ (AHeap.le_refl _) hid) hjd
  have hc : cellsAt ((H.set id (some (.cells [i64 side, y, z, w]))).set jd (some (.cells [i64 side, y', z', w']))) id = some [i64 side, y, z, w] := by simp [Ne.symm nj]
  have hd : cellsAt ((H.set id (some (.cells [i64 side, y, z, w]))).set jd (some (.cells [i64 side, y', z', w']))) jd = some [i64 side, y', z', w'] := by simp
  generalize (H.set id (some (.cells [i64 side, y, z, w]))).set jd (some (.cells [i64 side, y', z', w'])) = H1 at hle hc hd ⊢
  simp [hc, hd]
  refine (eqInt64S_ok (hy.mono hle) (hy'.mono hle) (by omega)).on ?_
  simp [hc, hd]
  refine (eqInt64S_ok (hz.mono hle) (hz'.mono hle) (by omega)).on ?_
  simp [hc, hd]
  refine (eqFloat32S_ok (hw.mono hle) (hw'.mono hle) (by omega)).on ?_
  simp; exact drop_ret hle

/-- A sparse square of the code's own. -/
def RetSparse (side : Int) (st co : List Int) (va : List Nat) (H : AHeap) : AV → AHeap → Prop := fun v H' => ∃ i1 i2 i3, v = sparseAV side (ownS i1 st.length) (ownS i2 co.length) (ownS i3 va.length) ∧ H.le H' ∧
  H i1 = none ∧ H i2 = none ∧ H i3 = none ∧ i1 ≠ i2 ∧ i1 ≠ i3 ∧ i2 ≠ i3 ∧ HasL i64 i1 st H' ∧ HasL i64 i2 co H' ∧ HasL f32 i3 va H'
set_option maxHeartbeats 1000000 in
theorem toSparse_ok (hy : Sl H i64 y st) (hz : Sl H i64 z co) (hw : Sl H f32 w va) (l1 : st.length ≤ 1048576) (l2 : co.length ≤ 1048576) (l3 : va.length ≤ 1048576) :
    ACalls Try.prog 9 [sparseAV side y z w] H (RetSparse side st co va H) := by
  refine call_in Try.ft9 hmix Try.func9 (by kernel_rfl) ?_
  simp [Try.f9, Try.ft9, hy.cells, hz.cells, hw.cells]
  intro a1 h1 a2 h2 a3 h3
  obtain ⟨n21, h2⟩ := AHeap.set_none_of h2
  obtain ⟨n32, h3⟩ := AHeap.set_none_of h3
  obtain ⟨n31, h3⟩ := AHeap.set_none_of h3
  simp [n32, n31, n21, Ne.symm n32, Ne.symm n31, Ne.symm n21]
  have hle0 : H.le (((H.set a1 (some (.cells [i64 side, y, z, w]))).set a2 (some (.cells [i64 0, .nilslice, .nilslice, .nilslice]))).set a3 (some (.cells [i64 side, .nilslice, .nilslice, .nilslice]))) := AHeap.le_set _ (AHeap.le_set _ (AHeap.le_set _ (AHeap.le_refl _) h1) h2) h3
  have c1 : cellsAt (((H.set a1 (some (.cells [i64 side, y, z, w]))).set a2 (some (.cells [i64 0, .nilslice, .nilslice, .nilslice]))).set a3 (some (.cells [i64 side, .nilslice, .nilslice, .nilslice]))) a1 = some [i64 side, y, z, w] := by simp [Ne.symm n31, Ne.symm n21]
  have c2 : cellsAt (((H.set a1 (some (.cells [i64 side, y, z, w]))).set a2 (some (.cells [i64 0, .nilslice, .nilslice, .nilslice]))).set a3 (some (.cells [i64 side, .nilslice, .nilslice, .nilslice]))) a2 = some [i64 0, .nilslice, .nilslice, .nilslice] := by simp [Ne.symm n32]
  have c3 : cellsAt (((H.set a1 (some (.cells [i64 side, y, z, w]))).set a2 (some (.cells [i64 0, .nilslice, .nilslice, .nilslice]))).set a3 (some (.cells [i64 side, .nilslice, .nilslice, .nilslice]))) a3 = some [i64 side, .nilslice, .nilslice, .nilslice] := by simp
  generalize ((H.set a1 (some (.cells [i64 side, y, z, w]))).set a2 (some (.cells [i64 0, .nilslice, .nilslice, .nilslice]))).set a3 (some (.cells [i64 side, .nilslice, .nilslice, .nilslice])) = K0 at hle0 c1 c2 c3 ⊢
  have cne : ∀ {K : AHeap} {i j : Nat} {l : List AV}, cellsAt K i = some l → K j = none → i ≠ j := by
    rintro K i j l hi hj rfl
    unfold cellsAt at hi; rw [hj] at hi; cases hi
  have lower : ∀ {K : AHeap} {i : Nat}, H.le K → K i = none → H i = none := by
    intro K i hK hi
    cases e : H i with
    | none => rfl
    | some b => rw [hK _ _ e] at hi; cases hi
  have keep : ∀ {K : AHeap} {l : List AV}, H.le K → H.le (K.set a3 (some (.cells l))) := by
    intro K l hK i b hb
    rw [AHeap.set_ne _ _ (by rintro rfl; rw [h3] at hb; cases hb)]; exact hK _ _ hb
  refine (toInt64S_ok (hy.mono hle0) l1).mono ?_
  rintro _ _ ⟨i1, f1, rfl, rfl⟩
  have p11 := cne c1 f1
  have p12 := cne c2 f1
  have p13 := cne c3 f1
  have q1 := lower hle0 f1
  have hle1 : H.le ((own i64 i1 st K0).set a3 (some (.cells [i64 side, ownS i1 st.length, .nilslice, .nilslice]))) := keep (AHeap.le_trans hle0 (own_le f1))
  have b1 : HasL i64 i1 st ((own i64 i1 st K0).set a3 (some (.cells [i64 side, ownS i1 st.length, .nilslice, .nilslice]))) := set_ne' (AHeap.set_same _ _ _) (Ne.symm p13)
  have d1 : cellsAt ((own i64 i1 st K0).set a3 (some (.cells [i64 side, ownS i1 st.length, .nilslice, .nilslice]))) a1 = some [i64 side, y, z, w] := by rw [cellsAt_ne _ (Ne.symm n31), own, cellsAt_ne _ p11]; exact c1
  have d2 : cellsAt ((own i64 i1 st K0).set a3 (some (.cells [i64 side, ownS i1 st.length, .nilslice, .nilslice]))) a2 = some [i64 0, .nilslice, .nilslice, .nilslice] := by rw [cellsAt_ne _ (Ne.symm n32), own, cellsAt_ne _ p12]; exact c2
  have d3 : cellsAt ((own i64 i1 st K0).set a3 (some (.cells [i64 side, ownS i1 st.length, .nilslice, .nilslice]))) a3 = some [i64 side, ownS i1 st.length, .nilslice, .nilslice] := by simp
  have r3 : cellsAt (own i64 i1 st K0) a3 = some [i64 side, .nilslice, .nilslice, .nilslice] := by rw [own, cellsAt_ne _ p13]; exact c3
  simp [r3, d1]
  generalize (own i64 i1 st K0).set a3 (some (.cells [i64 side, ownS i1 st.length, .nilslice, .nilslice])) = K1 at hle1 b1 d1 d2 d3 ⊢
  clear c1 c2 c3 r3
  refine (toInt64S_ok (hz.mono hle1) l2).mono ?_
  rintro _ _ ⟨i2, f2, rfl, rfl⟩
  have p21 := cne d1 f2
  have p22 := cne d2 f2
  have p23 := cne d3 f2
  have n12 := fresh_ne b1 f2
  have q2 := lower hle1 f2
  have n13' : i1 ≠ a3 := Ne.symm p13
  have hle2 : H.le ((own i64 i2 co K1).set a3 (some (.cells [i64 side, ownS i1 st.length, ownS i2 co.length, .nilslice]))) := keep (AHeap.le_trans hle1 (own_le f2))
  have b1' : HasL i64 i1 st ((own i64 i2 co K1).set a3 (some (.cells [i64 side, ownS i1 st.length, ownS i2 co.length, .nilslice]))) := set_ne' (set_ne' b1 n12) n13'
  have b2 : HasL i64 i2 co ((own i64 i2 co K1).set a3 (some (.cells [i64 side, ownS i1 st.length, ownS i2 co.length, .nilslice]))) := set_ne' (AHeap.set_same _ _ _) (Ne.symm p23)
  have e1 : cellsAt ((own i64 i2 co K1).set a3 (some (.cells [i64 side, ownS i1 st.length, ownS i2 co.length, .nilslice]))) a1 = some [i64 side, y, z, w] := by rw [cellsAt_ne _ (Ne.symm n31), own, cellsAt_ne _ p21]; exact d1
  have e2 : cellsAt ((own i64 i2 co K1).set a3 (some (.cells [i64 side, ownS i1 st.length, ownS i2 co.length, .nilslice]))) a2 = some [i64 0, .nilslice, .nilslice, .nilslice] := by rw [cellsAt_ne _ (Ne.symm n32), own, cellsAt_ne _ p22]; exact d2
  have e3 : cellsAt ((own i64 i2 co K1).set a3 (some (.cells [i64 side, ownS i1 st.length, ownS i2 co.length, .nilslice]))) a3 = some [i64 side, ownS i1 st.length, ownS i2 co.length, .nilslice] := by simp
  have r3 : cellsAt (own i64 i2 co K1) a3 = some [i64 side, ownS i1 st.length, .nilslice, .nilslice] := by rw [own, cellsAt_ne _ p23]; exact d3
  simp [r3, e1]
  generalize (own i64 i2 co K1).set a3 (some (.cells [i64 side, ownS i1 st.length, ownS i2 co.length, .nilslice])) = K2 at hle2 b1' b2 e1 e2 e3 ⊢
  clear d1 d2 d3 r3
  refine (toFloat32S_ok (hw.mono hle2) l3).mono ?_
  rintro _ _ ⟨i3, f3, rfl, rfl⟩
  have p33 := cne e3 f3
  have p32 := cne e2 f3
  have n13 := fresh_ne b1' f3
  have n23 := fresh_ne b2 f3
  have q3 := lower hle2 f3
  have r3 : cellsAt (own f32 i3 va K2) a3 = some [i64 side, ownS i1 st.length, ownS i2 co.length, .nilslice] := by rw [own, cellsAt_ne _ p33]; exact e3
  have r2 : cellsAt (own f32 i3 va K2) a2 = some [i64 0, .nilslice, .nilslice, .nilslice] := by rw [own, cellsAt_ne _ p32]; exact e2
  simp [r3, r2, Ne.symm n32]
  refine ⟨i1, i2, i3, rfl, ?_, q1, q2, q3, n12, n13, n23, ?_, ?_, ?_⟩
  · intro i b hb
    rw [AHeap.set_ne _ _ (by rintro rfl; rw [h2] at hb; cases hb)]
    exact keep (AHeap.le_trans hle2 (own_le f3)) _ _ hb
  · exact set_ne' (set_ne' (set_ne' b1' n13) n13') (Ne.symm p12)
  · exact set_ne' (set_ne' (set_ne' b2 n23) (Ne.symm p23)) (Ne.symm p22)
  · exact set_ne' (set_ne' (AHeap.set_same _ _ _) (Ne.symm p33)) (Ne.symm p32)

theorem markSparse_ok {i1 i2 i3 : Nat} (h1 : HasL i64 i1 st H) (h2 : HasL i64 i2 co H) (h3 : HasL f32 i3 va H) (n12 : i1 ≠ i2) (n13 : i1 ≠ i3) (n23 : i2 ≠ i3) (l1 : st.length ≤ 1048576) (l2 : co.length ≤ 1048576) (l3 : va.length ≤ 1048576) :
    ACalls Try.prog 14 [sparseAV side (ownS i1 st.length) (ownS i2 co.length) (ownS i3 va.length), i64 1] H
      (fun v H' => v = i64 (1 + st.length + co.length + va.length) ∧ ∀ i, i ≠ i1 → i ≠ i2 → i ≠ i3 → ∀ b, H i = some b → H' i = some b) := by
  refine fun_in Try.ft14 hmix Try.func14 (by kernel_rfl) ?_
  simp [Try.f14, Try.ft14]
  intro id hid
  have m1 := fresh_ne h1 hid
  have m2 := fresh_ne h2 hid
  have m3 := fresh_ne h3 hid
  replace h1 : HasL i64 i1 st (H.set id (some (.cells [i64 side, ownS i1 st.length, ownS i2 co.length, ownS i3 va.length]))) := set_ne' h1 m1
  replace h2 : HasL i64 i2 co (H.set id (some (.cells [i64 side, ownS i1 st.length, ownS i2 co.length, ownS i3 va.length]))) := set_ne' h2 m2
  replace h3 : HasL f32 i3 va (H.set id (some (.cells [i64 side, ownS i1 st.length, ownS i2 co.length, ownS i3 va.length]))) := set_ne' h3 m3
  refine (markI_at h1 rfl l1 1 (by omega) (by omega)).on ?_
  simp [Ne.symm m1]
  refine (markI_at (set_ne' h2 (Ne.symm n12)) rfl l2 _ (by omega) (by omega)).on ?_
  simp [Ne.symm m1, Ne.symm m2]
  refine (markF_at (set_ne' (set_ne' h3 (Ne.symm n13)) (Ne.symm n23)) rfl l3 _ (by omega) (by omega)).on ?_
  simp
  refine ⟨_, AHeap.le_refl _, rfl, fun i e1 e2 e3 b hb => ?_⟩
  rw [AHeap.set_ne _ _ e3, AHeap.set_ne _ _ e2, AHeap.set_ne _ _ e1, AHeap.set_ne _ _ (fresh_ne hb hid)]; exact hb
end
end Go.Ab
