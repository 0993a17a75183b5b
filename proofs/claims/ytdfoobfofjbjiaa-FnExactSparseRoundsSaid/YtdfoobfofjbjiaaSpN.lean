/- The law: the program's SparseRounds returns what the reference's returns. -/
import Derived.Test.YtdfoobfofjbjiaaSpM
set_option linter.unusedSimpArgs false
set_option linter.unusedVariables false
namespace Go.Ab
open Go.Proofs
set_option maxRecDepth 100000

theorem noHeap_le' (H : AHeap) : noHeap.le H := fun _ _ h => (by cases h)
theorem markF_nil (H : AHeap) (k0 : Int) : ACalls Try.prog 15 [.nilslice, i64 k0] H (Ret (i64 k0) H) := by
  have h : Sl H f32 .nilslice ([] : List Nat) := Sl.nil
  refine call_in Try.ft15 hmix Try.func15 (by kernel_rfl) ?_
  simp [Try.f15, Try.ft15]
  refine AW_for 0 (fun k fr H' => fr 0 = .nilslice ∧ fr 1 = i64 k0 ∧ fr 5 = i64 0 ∧ H' = H) ?_ ?_
  · simp
  · rintro k fr H' hk ⟨g0, g1, g5, rfl⟩
    simp [g0, g1, g5, h.len]; exact .mk _ _
theorem heldF_nil (H : AHeap) (k0 : Int) (h0 : 0 ≤ k0) (h1 : k0 ≤ 4611686018427387) : ACalls Try.prog 16 [.nilslice, i64 k0] H (Ret (i64 k0) H) := by
  have := heldFloat32S_ok (x := .nilslice) (H := H) (n := 0) k0 Sl.nil (by omega) h0 h1
  simpa using this
theorem HasL.up {α : Type} {f : α → AV} {id : Nat} {xs : List α} {H H' : AHeap} (h : HasL f id xs H) (hle : H.le H') : HasL f id xs H' := hle _ _ h
theorem marks_length (k : Int) (n : Nat) : (marks k n).length = n := by simp [marks]

section
variable {side : Int} {st co : List Int} {va bs : List Nat} {x y z w : AV}

set_option maxHeartbeats 8000000 in
theorem lawRounds_some (H : AHeap) (hy : Sl noHeap i64 y st) (hz : Sl noHeap i64 z co) (hw : Sl noHeap f32 w va) (hx : Sl noHeap f32 x bs) (l1 : st.length ≤ 9223372036854775807) (l2 : co.length ≤ 9223372036854775807) (l3 : va.length ≤ 9223372036854775807) (l4 : bs.length ≤ 9223372036854775807) (haste near : Nat) (most : Int)
    {xs : List Nat} {r : Int} (ho : roundsO side st co va bs haste near most = some (xs, r)) :
    ACalls Try.prog 3 [sparseAV side y z w, x, f32 haste, f32 near, i64 most] H (fun v _ => v = .bool true) := by
  have hy := fun H => hy.mono (noHeap_le' H)
  have hz := fun H => hz.mono (noHeap_le' H)
  have hw := fun H => hw.mono (noHeap_le' H)
  have hx := fun H => hx.mono (noHeap_le' H)
  obtain ⟨hxl, hr0, hr1⟩ := roundsO_len ho
  have hI : (if okI side st co va bs haste near most then roundsF (diagF side.toNat st co va) side.toNat st co va bs haste near most else none) = _ := (roundsO_eq side st co va bs haste near most).trans ho
  have hS : (if okS side st co va bs haste near most then roundsF (diagS side.toNat st co va) side.toNat st co va bs haste near most else none) = _ := ho
  refine call_in Try.ft3 hmix Try.func3 (by kernel_rfl) ?_
  simp [Try.f3, Try.ft3, (hy noHeap).cells, (hz noHeap).cells, (hw noHeap).cells, (hx noHeap).len]
  intro id5 h5
  have c5 := cellsAt_same (H := H) (id := id5) [i64 side, y, z, w]
  generalize H.set id5 (some (.cells [i64 side, y, z, w])) = H1 at c5 ⊢
  have hxlen := (hx H1).len (P := Try.prog) (t := 23) (by simp)
  by_cases hlb : (1048576 : Int) < bs.length
  · simp [hxlen, hlb]
  simp [hxlen, hlb, c5]
  refine (szSparse_ok (hy _) (hz _) (hw _) l1 l2 l3).on ?_
  unfold szAll
  by_cases q1 : 1048576 - (st.length : Int) < 0
  · rw [if_pos q1]; simp
  by_cases q2 : 1048576 - (st.length : Int) - co.length < 0
  · rw [if_neg q1, if_pos q2]; simp
  by_cases q3 : 1048576 - (st.length : Int) - co.length - va.length < 0
  · rw [if_neg q1, if_neg q2, if_pos q3]; simp
  rw [if_neg q1, if_neg q2, if_neg q3]
  have m1 : st.length ≤ 1048576 := by omega
  have m2 : co.length ≤ 1048576 := by omega
  have m3 : va.length ≤ 1048576 := by omega
  have m4 : bs.length ≤ 1048576 := by omega
  simp [q3, c5]
  refine (toSparse_ok (hy _) (hz _) (hw _) m1 m2 m3).mono ?_
  rintro _ H2 ⟨i1, i2, i3, rfl, hle, f1, f2, f3, n12, n13, n23, b1, b2, b3⟩
  replace c5 := cellsAt_le c5 hle
  simp
  refine (toFloat32S_ok (hx _) m4).mono ?_
  rintro _ _ ⟨i4, f4, rfl, rfl⟩
  have hle := own_le (f := f32) (xs := bs) f4
  have b4 : HasL f32 i4 bs (own f32 i4 bs H2) := AHeap.set_same _ _ _
  replace c5 := cellsAt_le c5 hle
  replace b1 := HasL.up b1 hle
  replace b2 := HasL.up b2 hle
  replace b3 := HasL.up b3 hle
  generalize own f32 i4 bs H2 = H3 at c5 b1 b2 b3 b4 ⊢
  simp
  have hR := specRounds_ok (side := side) (b1.sl rfl (some st.length)) (b2.sl rfl (some co.length)) (b3.sl rfl (some va.length)) (b4.sl rfl (some bs.length)) m1 m2 m3 m4 haste near most
  rw [hS] at hR
  refine hR.mono ?_
  clear hR b1 b2 b3 b4
  rintro _ _ ⟨idw, fw, rfl, rfl⟩
  have hle := own_le (f := f32) (xs := xs) fw
  have bw : HasL f32 idw xs (own f32 idw xs H3) := AHeap.set_same _ _ _
  replace c5 := cellsAt_le c5 hle
  generalize own f32 idw xs H3 = H4 at c5 bw ⊢
  simp [c5]
  refine (toSparse_ok (hy _) (hz _) (hw _) m1 m2 m3).mono ?_
  rintro _ H5 ⟨j1, j2, j3, rfl, hle, f1, f2, f3, n12, n13, n23, b1, b2, b3⟩
  have n5_1 : id5 ≠ j1 := by rintro rfl; unfold cellsAt at c5; rw [f1] at c5; cases c5
  have n5_2 : id5 ≠ j2 := by rintro rfl; unfold cellsAt at c5; rw [f2] at c5; cases c5
  have n5_3 : id5 ≠ j3 := by rintro rfl; unfold cellsAt at c5; rw [f3] at c5; cases c5
  have ew_1 := fresh_ne bw f1
  have ew_2 := fresh_ne bw f2
  have ew_3 := fresh_ne bw f3
  replace c5 := cellsAt_le c5 hle
  replace bw := HasL.up bw hle
  simp
  intro id15 h15
  have hle : H5.le (H5.set id15 (some (.cells [i64 side, ownS j1 st.length, ownS j2 co.length, ownS j3 va.length]))) := AHeap.le_set _ (AHeap.le_refl _) h15
  have c15 : cellsAt (H5.set id15 (some (.cells [i64 side, ownS j1 st.length, ownS j2 co.length, ownS j3 va.length]))) id15 = some [i64 side, ownS j1 st.length, ownS j2 co.length, ownS j3 va.length] := cellsAt_same _
  have n15 := fun {i : Nat} {b : Blk} (h : H5 i = some b) => fresh_ne h h15
  have n15_1 := n15 b1
  have n15_2 := n15 b2
  have n15_3 := n15 b3
  replace c5 := cellsAt_le c5 hle
  replace bw := HasL.up bw hle
  replace b1 := HasL.up b1 hle
  replace b2 := HasL.up b2 hle
  replace b3 := HasL.up b3 hle
  generalize H5.set id15 (some (.cells [i64 side, ownS j1 st.length, ownS j2 co.length, ownS j3 va.length])) = H6 at c15 c5 bw b1 b2 b3 ⊢
  refine (toFloat32S_ok (hx _) m4).mono ?_
  rintro _ _ ⟨j4, f4, rfl, rfl⟩
  have hle := own_le (f := f32) (xs := bs) f4
  have n4_1 := fresh_ne b1 f4
  have n4_2 := fresh_ne b2 f4
  have n4_3 := fresh_ne b3 f4
  have ne_of_cells : ∀ {K : AHeap} {i j : Nat} {l : List AV}, cellsAt K i = some l → K j = none → i ≠ j := by
    rintro K i j l hi hj rfl
    unfold cellsAt at hi; rw [hj] at hi; cases hi
  have n4_15 := ne_of_cells c15 f4
  have n4_5 := ne_of_cells c5 f4
  have n4_w := fresh_ne bw f4
  have b4 : HasL f32 j4 bs (own f32 j4 bs H6) := AHeap.set_same _ _ _
  replace c5 := cellsAt_le c5 hle
  replace bw := HasL.up bw hle
  replace b1 := HasL.up b1 hle
  replace b2 := HasL.up b2 hle
  replace b3 := HasL.up b3 hle
  replace c15 := cellsAt_le c15 hle
  generalize own f32 j4 bs H6 = H7 at c5 bw b1 b2 b3 c15 b4 ⊢
  simp [c15]
  have hR := rounds_ok (side := side) (b1.sl rfl (some st.length)) (b2.sl rfl (some co.length)) (b3.sl rfl (some va.length)) (b4.sl rfl (some bs.length)) m1 m2 m3 m4 haste near most
  rw [hI] at hR
  refine hR.mono ?_
  clear hR
  rintro _ _ ⟨idg, fg, rfl, rfl⟩
  have hle := own_le (f := f32) (xs := xs) fg
  have ng_1 := fresh_ne b1 fg
  have ng_2 := fresh_ne b2 fg
  have ng_3 := fresh_ne b3 fg
  have ng_4 := fresh_ne b4 fg
  have ng_w := fresh_ne bw fg
  have ng_5 := ne_of_cells c5 fg
  have ng_15 := ne_of_cells c15 fg
  have bg : HasL f32 idg xs (own f32 idg xs H7) := AHeap.set_same _ _ _
  replace c5 := cellsAt_le c5 hle
  replace bw := HasL.up bw hle
  replace b1 := HasL.up b1 hle
  replace b2 := HasL.up b2 hle
  replace b3 := HasL.up b3 hle
  replace c15 := cellsAt_le c15 hle
  replace b4 := HasL.up b4 hle
  generalize own f32 idg xs H7 = H8 at c5 bw b1 b2 b3 c15 b4 bg ⊢
  simp
  refine (eqFloat32S_ok (bg.sl rfl (some xs.length)) (bw.sl rfl (some xs.length)) (by omega)).on ?_
  simp [c15, c5]
  refine (toSparse_ok (hy _) (hz _) (hw _) m1 m2 m3).mono ?_
  rintro _ H9 ⟨k1, k2, k3, rfl, hle, _, _, _, _, _, _, d1, d2, d3⟩
  replace c5 := cellsAt_le c5 hle
  replace bw := HasL.up bw hle
  replace b1 := HasL.up b1 hle
  replace b2 := HasL.up b2 hle
  replace b3 := HasL.up b3 hle
  replace c15 := cellsAt_le c15 hle
  replace b4 := HasL.up b4 hle
  replace bg := HasL.up bg hle
  simp [c15]
  refine (eqSparse_ok (b1.sl rfl _) (b2.sl rfl _) (b3.sl rfl _) (d1.sl rfl _) (d2.sl rfl _) (d3.sl rfl _) m1 m2 m3).on ?_
  clear d1 d2 d3
  simp
  refine (toFloat32S_ok (hx _) m4).mono ?_
  rintro _ _ ⟨k4, g4, rfl, rfl⟩
  have hle := own_le (f := f32) (xs := bs) g4
  have d4 : HasL f32 k4 bs (own f32 k4 bs H9) := AHeap.set_same _ _ _
  replace c5 := cellsAt_le c5 hle
  replace bw := HasL.up bw hle
  replace b1 := HasL.up b1 hle
  replace b2 := HasL.up b2 hle
  replace b3 := HasL.up b3 hle
  replace c15 := cellsAt_le c15 hle
  replace b4 := HasL.up b4 hle
  replace bg := HasL.up bg hle
  generalize own f32 k4 bs H9 = H10 at d4 c5 bw b1 b2 b3 c15 b4 bg ⊢
  simp
  refine (eqFloat32S_ok (b4.sl rfl _) (d4.sl rfl _) (by omega)).on ?_
  simp [c15]
  -- marks on the arguments
  refine (markSparse_ok b1 b2 b3 n12 n13 n23 m1 m2 m3).mono ?_
  rintro _ H11 ⟨rfl, hm⟩
  have hcm : ∀ {i : Nat} {l : List AV}, cellsAt H10 i = some l → i ≠ j1 → i ≠ j2 → i ≠ j3 → cellsAt H11 i = some l := by
    intro i l hi e1 e2 e3
    have : H10 i = some (.cells l) := by
      unfold cellsAt at hi
      split at hi
      · rename_i xs hh; cases hi; exact hh
      · cases hi
    exact cellsAt_of (hm _ e1 e2 e3 _ this)
  replace b4 : HasL f32 j4 bs H11 := hm _ (Ne.symm n4_1) (Ne.symm n4_2) (Ne.symm n4_3) _ b4
  replace c5 := hcm c5 n5_1 n5_2 n5_3
  replace bw : HasL f32 idw xs H11 := hm _ ew_1 ew_2 ew_3 _ bw
  replace bg : HasL f32 idg xs H11 := hm _ (Ne.symm ng_1) (Ne.symm ng_2) (Ne.symm ng_3) _ bg
  clear b1 b2 b3 c15
  simp
  refine (markF_at b4 rfl m4 _ (by omega) (by omega)).on ?_
  replace c5 : cellsAt (H11.set j4 (some (.cells ((marks (1 + st.length + co.length + va.length) bs.length).map f32)))) id5 = some [i64 side, y, z, w] := by rw [cellsAt_ne _ n4_5]; exact c5
  replace bw := set_ne' (j := j4) (b := some (.cells ((marks (1 + st.length + co.length + va.length) bs.length).map f32))) bw n4_w
  replace bg := set_ne' (j := j4) (b := some (.cells ((marks (1 + st.length + co.length + va.length) bs.length).map f32))) bg (Ne.symm ng_4)
  generalize H11.set j4 (some (.cells ((marks (1 + st.length + co.length + va.length) bs.length).map f32))) = H12 at c5 bw bg ⊢
  have hneg : ¬ (1 + (st.length : Int) + co.length + va.length + bs.length < 0) := by omega
  simp [hneg]
  refine (eqFloat32S_ok (HasL.sl bg rfl (some xs.length)) (HasL.sl bw rfl (some xs.length)) (by omega)).on ?_
  simp
  refine (markF_at bg rfl (by omega) _ (by omega) (by omega)).on ?_
  replace c5 : cellsAt (H12.set idg (some (.cells ((marks 1 xs.length).map f32)))) id5 = some [i64 side, y, z, w] := by rw [cellsAt_ne _ ng_5]; exact c5
  replace bw := set_ne' (j := idg) (b := some (.cells ((marks 1 xs.length).map f32))) bw ng_w
  have bg : HasL f32 idg (marks 1 xs.length) (H12.set idg (some (.cells ((marks 1 xs.length).map f32)))) := AHeap.set_same _ _ _
  generalize H12.set idg (some (.cells ((marks 1 xs.length).map f32))) = H13 at c5 bw bg ⊢
  simp
  refine (heldFloat32S_ok (n := xs.length) 1 (bg.sl (marks_length _ _) _) (by omega) (by omega) (by omega)).on ?_
  have hneg2 : ¬ (1 + (xs.length : Int) < 0) := by omega
  simp [hneg2, c5]
  refine (toSparse_ok (hy _) (hz _) (hw _) m1 m2 m3).mono ?_
  rintro _ H14 ⟨k1, k2, k3, rfl, hle, _, _, _, _, _, _, d1, d2, d3⟩
  replace bw := HasL.up bw hle
  replace bg := HasL.up bg hle
  simp
  refine (toFloat32S_ok (hx _) m4).mono ?_
  rintro _ _ ⟨k4, g4, rfl, rfl⟩
  have hle := own_le (f := f32) (xs := bs) g4
  have d4 : HasL f32 k4 bs (own f32 k4 bs H14) := AHeap.set_same _ _ _
  replace d1 := HasL.up d1 hle
  replace d2 := HasL.up d2 hle
  replace d3 := HasL.up d3 hle
  replace bw := HasL.up bw hle
  replace bg := HasL.up bg hle
  generalize own f32 k4 bs H14 = H15 at d4 d1 d2 d3 bw bg ⊢
  simp
  have hR := rounds_ok (side := side) (d1.sl rfl (some st.length)) (d2.sl rfl (some co.length)) (d3.sl rfl (some va.length)) (d4.sl rfl (some bs.length)) m1 m2 m3 m4 haste near most
  rw [hI] at hR
  refine hR.mono ?_
  clear hR
  rintro _ _ ⟨idh, fh, rfl, rfl⟩
  have hle := own_le (f := f32) (xs := xs) fh
  have bh : HasL f32 idh xs (own f32 idh xs H15) := AHeap.set_same _ _ _
  replace bw := HasL.up bw hle
  replace bg := HasL.up bg hle
  generalize own f32 idh xs H15 = H16 at bh bw bg ⊢
  simp
  refine (eqFloat32S_ok (bh.sl rfl (some xs.length)) (HasL.sl bw rfl (some xs.length)) (by omega)).on ?_
  simp
  refine (heldFloat32S_ok (n := xs.length) 1 (bg.sl (marks_length _ _) _) (by omega) (by omega) (by omega)).on ?_
  simp [hneg2]

set_option maxHeartbeats 8000000 in
theorem lawRounds_none (H : AHeap) (hy : Sl noHeap i64 y st) (hz : Sl noHeap i64 z co) (hw : Sl noHeap f32 w va) (hx : Sl noHeap f32 x bs) (l1 : st.length ≤ 9223372036854775807) (l2 : co.length ≤ 9223372036854775807) (l3 : va.length ≤ 9223372036854775807) (l4 : bs.length ≤ 9223372036854775807) (haste near : Nat) (most : Int)
    (ho : roundsO side st co va bs haste near most = none) :
    ACalls Try.prog 3 [sparseAV side y z w, x, f32 haste, f32 near, i64 most] H (fun v _ => v = .bool true) := by
  have hy := fun H => hy.mono (noHeap_le' H)
  have hz := fun H => hz.mono (noHeap_le' H)
  have hw := fun H => hw.mono (noHeap_le' H)
  have hx := fun H => hx.mono (noHeap_le' H)
  have hI : (if okI side st co va bs haste near most then roundsF (diagF side.toNat st co va) side.toNat st co va bs haste near most else none) = _ := (roundsO_eq side st co va bs haste near most).trans ho
  have hS : (if okS side st co va bs haste near most then roundsF (diagS side.toNat st co va) side.toNat st co va bs haste near most else none) = _ := ho
  refine call_in Try.ft3 hmix Try.func3 (by kernel_rfl) ?_
  simp [Try.f3, Try.ft3, (hy noHeap).cells, (hz noHeap).cells, (hw noHeap).cells, (hx noHeap).len]
  intro id5 h5
  have c5 := cellsAt_same (H := H) (id := id5) [i64 side, y, z, w]
  generalize H.set id5 (some (.cells [i64 side, y, z, w])) = H1 at c5 ⊢
  have hxlen := (hx H1).len (P := Try.prog) (t := 23) (by simp)
  by_cases hlb : (1048576 : Int) < bs.length
  · simp [hxlen, hlb]
  simp [hxlen, hlb, c5]
  refine (szSparse_ok (hy _) (hz _) (hw _) l1 l2 l3).on ?_
  unfold szAll
  by_cases q1 : 1048576 - (st.length : Int) < 0
  · rw [if_pos q1]; simp
  by_cases q2 : 1048576 - (st.length : Int) - co.length < 0
  · rw [if_neg q1, if_pos q2]; simp
  by_cases q3 : 1048576 - (st.length : Int) - co.length - va.length < 0
  · rw [if_neg q1, if_neg q2, if_pos q3]; simp
  rw [if_neg q1, if_neg q2, if_neg q3]
  have m1 : st.length ≤ 1048576 := by omega
  have m2 : co.length ≤ 1048576 := by omega
  have m3 : va.length ≤ 1048576 := by omega
  have m4 : bs.length ≤ 1048576 := by omega
  simp [q3, c5]
  refine (toSparse_ok (hy _) (hz _) (hw _) m1 m2 m3).mono ?_
  rintro _ H2 ⟨i1, i2, i3, rfl, hle, f1, f2, f3, n12, n13, n23, b1, b2, b3⟩
  replace c5 := cellsAt_le c5 hle
  simp
  refine (toFloat32S_ok (hx _) m4).mono ?_
  rintro _ _ ⟨i4, f4, rfl, rfl⟩
  have hle := own_le (f := f32) (xs := bs) f4
  have b4 : HasL f32 i4 bs (own f32 i4 bs H2) := AHeap.set_same _ _ _
  replace c5 := cellsAt_le c5 hle
  replace b1 := HasL.up b1 hle
  replace b2 := HasL.up b2 hle
  replace b3 := HasL.up b3 hle
  generalize own f32 i4 bs H2 = H3 at c5 b1 b2 b3 b4 ⊢
  simp
  have hR := specRounds_ok (side := side) (b1.sl rfl (some st.length)) (b2.sl rfl (some co.length)) (b3.sl rfl (some va.length)) (b4.sl rfl (some bs.length)) m1 m2 m3 m4 haste near most
  rw [hS] at hR
  refine hR.mono ?_
  clear hR b1 b2 b3 b4
  rintro _ _ ⟨rfl, rfl⟩
  rename_i H4
  simp [c5]
  refine (toSparse_ok (hy _) (hz _) (hw _) m1 m2 m3).mono ?_
  rintro _ H5 ⟨j1, j2, j3, rfl, hle, f1, f2, f3, n12, n13, n23, b1, b2, b3⟩
  have n5_1 : id5 ≠ j1 := by rintro rfl; unfold cellsAt at c5; rw [f1] at c5; cases c5
  have n5_2 : id5 ≠ j2 := by rintro rfl; unfold cellsAt at c5; rw [f2] at c5; cases c5
  have n5_3 : id5 ≠ j3 := by rintro rfl; unfold cellsAt at c5; rw [f3] at c5; cases c5
  replace c5 := cellsAt_le c5 hle
  simp
  intro id15 h15
  have hle : H5.le (H5.set id15 (some (.cells [i64 side, ownS j1 st.length, ownS j2 co.length, ownS j3 va.length]))) := AHeap.le_set _ (AHeap.le_refl _) h15
  have c15 : cellsAt (H5.set id15 (some (.cells [i64 side, ownS j1 st.length, ownS j2 co.length, ownS j3 va.length]))) id15 = some [i64 side, ownS j1 st.length, ownS j2 co.length, ownS j3 va.length] := cellsAt_same _
  have n15 := fun {i : Nat} {b : Blk} (h : H5 i = some b) => fresh_ne h h15
  have n15_1 := n15 b1
  have n15_2 := n15 b2
  have n15_3 := n15 b3
  replace c5 := cellsAt_le c5 hle
  replace b1 := HasL.up b1 hle
  replace b2 := HasL.up b2 hle
  replace b3 := HasL.up b3 hle
  generalize H5.set id15 (some (.cells [i64 side, ownS j1 st.length, ownS j2 co.length, ownS j3 va.length])) = H6 at c15 c5 b1 b2 b3 ⊢
  refine (toFloat32S_ok (hx _) m4).mono ?_
  rintro _ _ ⟨j4, f4, rfl, rfl⟩
  have hle := own_le (f := f32) (xs := bs) f4
  have n4_1 := fresh_ne b1 f4
  have n4_2 := fresh_ne b2 f4
  have n4_3 := fresh_ne b3 f4
  have ne_of_cells : ∀ {K : AHeap} {i j : Nat} {l : List AV}, cellsAt K i = some l → K j = none → i ≠ j := by
    rintro K i j l hi hj rfl
    unfold cellsAt at hi; rw [hj] at hi; cases hi
  have n4_15 := ne_of_cells c15 f4
  have n4_5 := ne_of_cells c5 f4
  have b4 : HasL f32 j4 bs (own f32 j4 bs H6) := AHeap.set_same _ _ _
  replace c5 := cellsAt_le c5 hle
  replace b1 := HasL.up b1 hle
  replace b2 := HasL.up b2 hle
  replace b3 := HasL.up b3 hle
  replace c15 := cellsAt_le c15 hle
  generalize own f32 j4 bs H6 = H7 at c5 b1 b2 b3 c15 b4 ⊢
  simp [c15]
  have hR := rounds_ok (side := side) (b1.sl rfl (some st.length)) (b2.sl rfl (some co.length)) (b3.sl rfl (some va.length)) (b4.sl rfl (some bs.length)) m1 m2 m3 m4 haste near most
  rw [hI] at hR
  refine hR.mono ?_
  clear hR
  rintro _ _ ⟨rfl, rfl⟩
  rename_i H8
  simp
  refine (eqFloat32S_ok (xs := []) Sl.nil Sl.nil (by simp)).on ?_
  simp [c15, c5]
  refine (toSparse_ok (hy _) (hz _) (hw _) m1 m2 m3).mono ?_
  rintro _ H9 ⟨k1, k2, k3, rfl, hle, _, _, _, _, _, _, d1, d2, d3⟩
  replace c5 := cellsAt_le c5 hle
  replace b1 := HasL.up b1 hle
  replace b2 := HasL.up b2 hle
  replace b3 := HasL.up b3 hle
  replace c15 := cellsAt_le c15 hle
  replace b4 := HasL.up b4 hle
  simp [c15]
  refine (eqSparse_ok (b1.sl rfl _) (b2.sl rfl _) (b3.sl rfl _) (d1.sl rfl _) (d2.sl rfl _) (d3.sl rfl _) m1 m2 m3).on ?_
  clear d1 d2 d3
  simp
  refine (toFloat32S_ok (hx _) m4).mono ?_
  rintro _ _ ⟨k4, g4, rfl, rfl⟩
  have hle := own_le (f := f32) (xs := bs) g4
  have d4 : HasL f32 k4 bs (own f32 k4 bs H9) := AHeap.set_same _ _ _
  replace c5 := cellsAt_le c5 hle
  replace b1 := HasL.up b1 hle
  replace b2 := HasL.up b2 hle
  replace b3 := HasL.up b3 hle
  replace c15 := cellsAt_le c15 hle
  replace b4 := HasL.up b4 hle
  generalize own f32 k4 bs H9 = H10 at d4 c5 b1 b2 b3 c15 b4 ⊢
  simp
  refine (eqFloat32S_ok (b4.sl rfl _) (d4.sl rfl _) (by omega)).on ?_
  simp [c15]
  -- marks on the arguments
  refine (markSparse_ok b1 b2 b3 n12 n13 n23 m1 m2 m3).mono ?_
  rintro _ H11 ⟨rfl, hm⟩
  have hcm : ∀ {i : Nat} {l : List AV}, cellsAt H10 i = some l → i ≠ j1 → i ≠ j2 → i ≠ j3 → cellsAt H11 i = some l := by
    intro i l hi e1 e2 e3
    have : H10 i = some (.cells l) := by
      unfold cellsAt at hi
      split at hi
      · rename_i xs hh; cases hi; exact hh
      · cases hi
    exact cellsAt_of (hm _ e1 e2 e3 _ this)
  replace b4 : HasL f32 j4 bs H11 := hm _ (Ne.symm n4_1) (Ne.symm n4_2) (Ne.symm n4_3) _ b4
  replace c5 := hcm c5 n5_1 n5_2 n5_3
  clear b1 b2 b3 c15
  simp
  refine (markF_at b4 rfl m4 _ (by omega) (by omega)).on ?_
  replace c5 : cellsAt (H11.set j4 (some (.cells ((marks (1 + st.length + co.length + va.length) bs.length).map f32)))) id5 = some [i64 side, y, z, w] := by rw [cellsAt_ne _ n4_5]; exact c5
  generalize H11.set j4 (some (.cells ((marks (1 + st.length + co.length + va.length) bs.length).map f32))) = H12 at c5 ⊢
  have hneg : ¬ (1 + (st.length : Int) + co.length + va.length + bs.length < 0) := by omega
  simp [hneg]
  refine (eqFloat32S_ok (xs := []) Sl.nil Sl.nil (by simp)).on ?_
  simp
  refine (markF_nil _ _).on ?_
  simp
  refine (heldF_nil _ _ (by omega) (by omega)).on ?_
  simp [c5]
  refine (toSparse_ok (hy _) (hz _) (hw _) m1 m2 m3).mono ?_
  rintro _ H14 ⟨k1, k2, k3, rfl, hle, _, _, _, _, _, _, d1, d2, d3⟩
  simp
  refine (toFloat32S_ok (hx _) m4).mono ?_
  rintro _ _ ⟨k4, g4, rfl, rfl⟩
  have hle := own_le (f := f32) (xs := bs) g4
  have d4 : HasL f32 k4 bs (own f32 k4 bs H14) := AHeap.set_same _ _ _
  replace d1 := HasL.up d1 hle
  replace d2 := HasL.up d2 hle
  replace d3 := HasL.up d3 hle
  generalize own f32 k4 bs H14 = H15 at d4 d1 d2 d3 ⊢
  simp
  have hR := rounds_ok (side := side) (d1.sl rfl (some st.length)) (d2.sl rfl (some co.length)) (d3.sl rfl (some va.length)) (d4.sl rfl (some bs.length)) m1 m2 m3 m4 haste near most
  rw [hI] at hR
  refine hR.mono ?_
  clear hR
  rintro _ _ ⟨rfl, rfl⟩
  simp
  refine (eqFloat32S_ok (xs := []) Sl.nil Sl.nil (by simp)).on ?_
  simp
  refine (heldF_nil _ _ (by omega) (by omega)).on ?_
  simp

theorem lawRounds (H : AHeap) (hy : Sl noHeap i64 y st) (hz : Sl noHeap i64 z co) (hw : Sl noHeap f32 w va) (hx : Sl noHeap f32 x bs) (l1 : st.length ≤ 9223372036854775807) (l2 : co.length ≤ 9223372036854775807) (l3 : va.length ≤ 9223372036854775807) (l4 : bs.length ≤ 9223372036854775807) (haste near : Nat) (most : Int) :
    ACalls Try.prog 3 [sparseAV side y z w, x, f32 haste, f32 near, i64 most] H (fun v _ => v = .bool true) := by
  cases ho : roundsO side st co va bs haste near most with
  | none => exact lawRounds_none H hy hz hw hx l1 l2 l3 l4 haste near most ho
  | some r => exact lawRounds_some H hy hz hw hx l1 l2 l3 l4 haste near most (xs := r.1) (r := r.2) ho
end
end Go.Ab
