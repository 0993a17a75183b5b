/- Rounds: the program's. -/
import Derived.Test.YtdfoobfofjbjiaaSpF
set_option linter.unusedSimpArgs false
set_option linter.unusedVariables false
namespace Go.Ab
open Go.Proofs
set_option maxRecDepth 100000

/-! what is computed -/
def gF (st co : List Int) (va bs : List Nat) (xs : List Nat) (i : Nat) : Nat :=
  rowFold st co va i (fun g c v => if c = (i : Int) then g else subF .f32 g (mulF .f32 v (nth xs c.toNat))) (nth bs i)
def stepF (dg : Nat → Nat) (st co : List Int) (va bs : List Nat) (haste : Nat) (xs : List Nat) (i : Nat) : List Nat :=
  xs.set i (addF .f32 (nth xs i) (mulF .f32 haste (subF .f32 (divF .f32 (gF st co va bs xs i) (dg i)) (nth xs i))))
def roundF (dg : Nat → Nat) (n : Nat) (st co : List Int) (va bs : List Nat) (haste : Nat) (xs : List Nat) : List Nat := (List.range n).foldl (stepF dg st co va bs haste) xs
def goF (dg : Nat → Nat) (n : Nat) (st co : List Int) (va bs : List Nat) (haste near : Nat) : Nat → Int → List Nat → Option (List Nat × Int)
  | 0, _, _ => none
  | m + 1, r, xs =>
    let x' := roundF dg n st co va bs haste xs
    if allFin x' = false then none else
    let long := normF (minusF bs (timesF n st co va x'))
    if isFin .f32 long = false then none else if leF .f32 long near then some (x', r) else goF dg n st co va bs haste near m (r + 1) x'
def diagF (n : Nat) (st co : List Int) (va : List Nat) (i : Nat) : Nat := (mget ((i : Int), (i : Int)) (numsF n st co va)).getD 0
def roundsF (dg : Nat → Nat) (n : Nat) (st co : List Int) (va bs : List Nat) (haste near : Nat) (most : Int) : Option (List Nat × Int) :=
  if (List.range n).any (fun i => eqF .f32 (dg i) 0) then none else goF dg n st co va bs haste near most.toNat 1 (List.replicate n 0)
theorem stepF_length (dg : Nat → Nat) (st co : List Int) (va bs : List Nat) (haste : Nat) (xs : List Nat) (i : Nat) : (stepF dg st co va bs haste xs i).length = xs.length := by simp [stepF]
theorem roundF_length (dg : Nat → Nat) (n : Nat) (st co : List Int) (va bs : List Nat) (haste : Nat) (xs : List Nat) : (roundF dg n st co va bs haste xs).length = xs.length := by
  unfold roundF
  induction n with
  | zero => rfl
  | succ n ih => rw [foldl_range_succ, stepF_length, ih]
/-- What the call gives: nothing, or a slice of its own, and the number of rounds. -/
def RoundsRet (o : Option (List Nat × Int)) (H : AHeap) : AV → AHeap → Prop :=
  match o with
  | none => Ret (.tuple [.nilslice, i64 0, .bool false]) H
  | some (xs, r) => fun v H' => ∃ id, H id = none ∧ v = .tuple [ownS id xs.length, i64 r, .bool true] ∧ H' = own f32 id xs H
theorem RoundsRet.no {o : Option (List Nat × Int)} {H H' : AHeap} (ho : o = none) (hle : H.le H') : DropTo (RoundsRet o H) (.tuple [.nilslice, i64 0, .bool false]) H' := by
  subst ho; exact drop_ret hle

section
variable {side : Int} {st co : List Int} {va xs bs : List Nat} {x y z w : AV}
theorem takes_ok {H : AHeap} (hy : Sl H i64 y st) (hz : Sl H i64 z co) (hw : Sl H f32 w va) (hx : Sl H f32 x xs) (l1 : st.length ≤ 1048576) (l2 : co.length ≤ 1048576) (l3 : va.length ≤ 1048576) (l4 : xs.length ≤ 1048576) :
    ACalls Try.prog 85 [sparseAV side y z w, x] H (Ret (.bool (valid side st co va && (decide (1 ≤ xs.length ∧ xs.length ≤ 256) && allFin xs) && decide ((xs.length : Int) = side))) H) := by
  obtain ⟨r, hr⟩ : ∃ r, (valid side st co va && (decide (1 ≤ xs.length ∧ xs.length ≤ 256) && allFin xs) && decide ((xs.length : Int) = side)) = r := ⟨_, rfl⟩
  rw [hr]
  refine fun_in Try.ft85 hmix Try.func85 (by kernel_rfl) ?_
  simp [Try.f85, Try.ft85, hy.cells, hz.cells, hw.cells]
  intro id hid
  have hle : H.le (H.set id (some (.cells [i64 side, y, z, w]))) := AHeap.le_set _ (AHeap.le_refl _) hid
  have hc := cellsAt_same (H := H) (id := id) [i64 side, y, z, w]
  generalize H.set id (some (.cells [i64 side, y, z, w])) = H1 at hle hc ⊢
  refine .on (validSparse_ok _ (hy.mono hle) (hz.mono hle) (hw.mono hle) l1 l2 l3) ?_
  cases hv : valid side st co va with
  | false => rw [hv] at hr; subst hr; simp; exact drop_ret hle
  | true =>
  simp
  refine .on (isVector_ok _ (hx.mono hle) (by omega)) ?_
  cases hw : decide (1 ≤ xs.length ∧ xs.length ≤ 256) && allFin xs with
  | false => rw [hv, hw] at hr; subst hr; simp; exact drop_ret hle
  | true =>
  simp
  refine .on (lengthF_ok _ (hx.mono hle)) ?_
  rw [hv, hw] at hr
  simp only [Bool.true_and, Bool.and_true] at hr
  simp [hc, hr]
  exact drop_ret hle

theorem rounds1_ok {G : AHeap} {id17 id18 id15 : Nat} (n17 : id17 ≠ id18) (n15 : id15 ≠ id18) {i : Int} (h17 : cellsAt G id17 = some [i64 i]) (h15 : cellsAt G id15 = some [x]) (hx : Sl G f32 x xs) (hG : G id18 = none) (s : Nat) (c : Int) (v : Nat) (h0 : 0 ≤ c) (h1 : c < xs.length) :
    ACalls Try.prog 90 [i64 c, f32 v, .ptrR id17 0, .ptrR id18 0, .ptrR id15 0] (G.set id18 (some (.cells [f32 s])))
      (Ret (.tuple []) (G.set id18 (some (.cells [f32 (if c = i then s else subF .f32 s (mulF .f32 v (nth xs c.toNat)))])))) := by
  have hx2 := hx.mono (AHeap.le_set (some (.cells [f32 s])) (AHeap.le_refl _) hG)
  have hl : c.toNat < xs.length := by omega
  refine call_in Try.ft90 hmix Try.func90 (by kernel_rfl) ?_
  by_cases hc : c = i
  · simp [Try.f90, Try.ft90, n17, h17, hc]; exact .mk _ _
  · simp [Try.f90, Try.ft90, n17, n15, h17, h15, hc, hx.idx, hx2.nth, h0, h1, hl]
    refine .on (mul_ok _ _ _) ?_
    simp; exact .mk _ _

/-- What the program asks before it begins. -/
noncomputable def okI (side : Int) (st co : List Int) (va bs : List Nat) (haste near : Nat) (most : Int) : Bool :=
  (valid side st co va && (decide (1 ≤ bs.length ∧ bs.length ≤ 256) && allFin bs) && decide ((bs.length : Int) = side)) && (isFin .f32 haste && isFin .f32 near) && !leF .f32 haste 0 && !geF .f32 haste 1073741824 && !ltF .f32 near 0 && (decide (1 ≤ most) && decide (most ≤ 128))

set_option maxHeartbeats 4000000 in
theorem rounds_ok {H : AHeap} (hy : Sl H i64 y st) (hz : Sl H i64 z co) (hw : Sl H f32 w va) (hx : Sl H f32 x bs) (l1 : st.length ≤ 1048576) (l2 : co.length ≤ 1048576) (l3 : va.length ≤ 1048576) (l4 : bs.length ≤ 1048576) (haste near : Nat) (most : Int) :
    ACalls Try.prog 11 [sparseAV side y z w, x, f32 haste, f32 near, i64 most] H
      (RoundsRet (if okI side st co va bs haste near most then roundsF (diagF side.toNat st co va) side.toNat st co va bs haste near most else none) H) := by
  have hcst : canon .f32 1073741824 = 1073741824 := by decide
  obtain ⟨o, ho⟩ : ∃ o, (if okI side st co va bs haste near most then roundsF (diagF side.toNat st co va) side.toNat st co va bs haste near most else none) = o := ⟨_, rfl⟩
  rw [ho]
  refine fun_in Try.ft11 hmix Try.func11 (by kernel_rfl) ?_
  simp [Try.f11, Try.ft11, hy.cells, hz.cells, hw.cells]
  intro id5 h5
  have hle : H.le (H.set id5 (some (.cells [i64 side, y, z, w]))) := AHeap.le_set _ (AHeap.le_refl _) h5
  have hc := cellsAt_same (H := H) (id := id5) [i64 side, y, z, w]
  generalize H.set id5 (some (.cells [i64 side, y, z, w])) = H1 at hle hc ⊢
  refine (takes_ok (hy.mono hle) (hz.mono hle) (hw.mono hle) (hx.mono hle) l1 l2 l3 l4).on ?_
  cases ht : valid side st co va && (decide (1 ≤ bs.length ∧ bs.length ≤ 256) && allFin bs) && decide ((bs.length : Int) = side) with
  | false => simp; exact RoundsRet.no (by rw [← ho, okI, ht]; simp) hle
  | true =>
  simp
  refine (areFinite_ok (xs := [haste, near]) _ (Sl.imm [haste, near] (some 2)) (by simp)).on ?_
  have haf : allFin [haste, near] = (isFin .f32 haste && isFin .f32 near) := by simp [allFin]
  rw [haf]
  cases hf : isFin .f32 haste && isFin .f32 near with
  | false => simp; exact RoundsRet.no (by rw [← ho, okI, ht, hf]; simp) hle
  | true =>
  simp [canon_zero, hcst]
  cases hh : leF .f32 haste 0 with
  | true => simp; exact RoundsRet.no (by rw [← ho, okI, ht, hf, hh]; simp) hle
  | false =>
  simp [hcst]
  cases hh2 : geF .f32 haste 1073741824 with
  | true => simp; exact RoundsRet.no (by rw [← ho, okI, ht, hf, hh, hh2]; simp) hle
  | false =>
  simp [canon_zero]
  cases hh3 : ltF .f32 near 0 with
  | true => simp; exact RoundsRet.no (by rw [← ho, okI, ht, hf, hh, hh2, hh3]; simp) hle
  | false =>
  simp
  refine (inRange_ok _ _ _ _).on ?_
  by_cases hm1 : 1 ≤ most
  case neg => simp [hm1]; exact RoundsRet.no (by rw [← ho, okI]; simp [hm1]) hle
  by_cases hm2 : most ≤ 128
  case neg => simp [hm2]; exact RoundsRet.no (by rw [← ho, okI]; simp [hm2]) hle
  rw [okI, ht, hf, hh, hh2, hh3] at ho
  simp only [hm1, hm2, decide_true, Bool.not_false, Bool.and_true, if_true] at ho
  simp only [Bool.and_eq_true, decide_eq_true_eq] at ht
  obtain ⟨⟨hv, ⟨_, _⟩, _⟩, hbl⟩ := ht
  have hv := valid_iff.1 hv
  have hs1 := hv.s1
  have hs2 := hv.s2
  obtain ⟨n, rfl⟩ := Int.eq_ofNat_of_zero_le (show 0 ≤ side by omega)
  rw [Int.toNat_natCast] at ho
  obtain ⟨m, rfl⟩ := Int.eq_ofNat_of_zero_le (show 0 ≤ most by omega)
  simp [hm1, hm2, hc]
  refine (numbers_ok hv (hy.mono hle) (hz.mono hle) (hw.mono hle)).mono ?_
  rintro _ _ ⟨idm, hm, rfl, rfl⟩
  have n5m : id5 ≠ idm := by rintro rfl; unfold cellsAt at hc; rw [hm] at hc; cases hc
  obtain ⟨dg, hdg⟩ : ∃ dg, diagF n st co va = dg := ⟨_, rfl⟩
  rw [hdg] at ho
  have hmap : ∀ (k : Nat) (H' : AHeap), H' idm = some (.map ((numsF n st co va).map entAV)) → aLookup Try.prog 112 (.map idm) (.agg [i64 k, i64 k]) false H' = some (f32 (dg k)) := by
    intro k H' hH'
    rw [lookup_place hH', ← hdg]; rfl
  rw [Int.toNat_natCast]
  have hmm : (H1.set idm (some (.map ((numsF n st co va).map entAV)))) idm = some (.map ((numsF n st co va).map entAV)) := AHeap.set_same _ _ _
  have hle2 : H1.le (H1.set idm (some (.map ((numsF n st co va).map entAV)))) := AHeap.le_set _ (AHeap.le_refl _) hm
  have hc2 := cellsAt_le hc hle2
  have hle : H.le (H1.set idm (some (.map ((numsF n st co va).map entAV)))) := AHeap.le_trans hle hle2
  generalize H1.set idm (some (.map ((numsF n st co va).map entAV))) = H2 at hmm hc2 hle ⊢
  simp [hc2]
  refine AW_for n (fun k fr H' => fr 1 = x ∧ fr 2 = f32 haste ∧ fr 3 = f32 near ∧ fr 4 = i64 m ∧ fr 5 = .ptrR id5 0 ∧ fr 13 = .map idm ∧ fr 51 = i64 n ∧ fr 52 = i64 k ∧ H' = H2 ∧ ∀ i, i < k → eqF .f32 (dg i) 0 = false) ?_ ?_
  · simp
  · rintro k fr H' hk ⟨g1, g2, g3, g4, g5, g13, g51, g52, rfl, hnz⟩
    by_cases hlt : k < n
    · simp [g1, g2, g3, g4, g5, g13, g51, g52, hlt, hmap k _ hmm, canon_zero]
      cases hz0 : eqF .f32 (dg k) 0 with
      | true =>
        simp
        refine RoundsRet.no ?_ hle
        rw [← ho, roundsF, if_pos]
        rw [List.any_eq_true]; exact ⟨k, by simpa using hlt, hz0⟩
      | false =>
        simp [wadd k (by omega)]
        intro i hi
        by_cases e : i = k
        · subst e; exact hz0
        · exact hnz i (by omega)
    · have ek : n = k := by omega
      subst ek
      rw [roundsF, if_neg (by
        rw [List.any_eq_true]
        rintro ⟨i, hi, h2⟩
        rw [hnz i (by simpa using hi)] at h2; cases h2)] at ho
      rw [Int.toNat_natCast] at ho
      simp [g1, g2, g3, g4, g5, g13, g51, g52, hc2, aMake (show n ≤ 1073741824 by omega)]
      intro idx hx0 id15 h15
      obtain ⟨n15x, h15⟩ := AHeap.set_none_of h15
      rw [AHeap.set_comm _ _ _ (Ne.symm n15x)]
      have hle15 : H'.le (H'.set id15 (some (.cells [ownS idx n]))) := AHeap.le_set _ (AHeap.le_refl _) h15
      have c15 : cellsAt (H'.set id15 (some (.cells [ownS idx n]))) id15 = some [ownS idx n] := by simp
      have hx15 : (H'.set id15 (some (.cells [ownS idx n]))) idx = none := by rw [AHeap.set_ne _ _ (Ne.symm n15x)]; exact hx0
      have hHidx : H idx = none := by
        cases e : H idx with
        | none => rfl
        | some b => have := hle _ _ e; rw [hx0] at this; cases this
      have n5x : id5 ≠ idx := by rintro rfl; unfold cellsAt at hc2; rw [hx0] at hc2; cases hc2
      have nmx : idm ≠ idx := by rintro rfl; rw [hx0] at hmm; cases hmm
      have hc5 := cellsAt_le hc2 hle15
      have hm5 := hle15 _ _ hmm
      have hle5 := AHeap.le_trans hle hle15
      generalize H'.set id15 (some (.cells [ownS idx n])) = G0 at c15 hx15 hc5 hm5 hle5 ⊢
      refine AW_for m (fun k fr H' => fr 1 = x ∧ fr 2 = f32 haste ∧ fr 3 = f32 near ∧ fr 4 = i64 m ∧ fr 5 = .ptrR id5 0 ∧ fr 13 = .map idm ∧ fr 15 = .ptrR id15 0 ∧ fr 16 = i64 ((k : Int) + 1) ∧
        ∃ (G : AHeap) (X : List Nat), G0.le G ∧ G idx = none ∧ X.length = n ∧ H' = own f32 idx X G ∧ goF dg n st co va bs haste near (m - k) ((k : Int) + 1) X = o) ?_ ?_
      · simp
        exact ⟨G0, AHeap.le_refl _, hx15, List.replicate n 0, by simp, by simp [own], by simpa using ho⟩
      · rintro k fr H' hk ⟨g1, g2, g3, g4, g5, g13, g15, g16, G, X, hG, hGx, hXl, rfl, hgo⟩
        have d5 : ∀ X, cellsAt (own f32 idx X G) id5 = some [i64 n, y, z, w] := fun X => by rw [own, cellsAt_ne _ n5x]; exact cellsAt_le hc5 hG
        by_cases hlt' : k < m
        · have hle1 : ((k : Int) + 1 ≤ m) := by omega
          obtain ⟨q, hq⟩ : ∃ q, m - k = q + 1 := ⟨m - k - 1, by omega⟩
          rw [hq] at hgo
          simp [g1, g2, g3, g4, g5, g13, g15, g16, hle1, d5]
          refine AW_for n (fun i fr H' => fr 1 = x ∧ fr 2 = f32 haste ∧ fr 3 = f32 near ∧ fr 4 = i64 m ∧ fr 5 = .ptrR id5 0 ∧ fr 13 = .map idm ∧ fr 15 = .ptrR id15 0 ∧ fr 16 = i64 ((k : Int) + 1) ∧ fr 71 = i64 n ∧ fr 72 = i64 i ∧
            ∃ G : AHeap, G0.le G ∧ G idx = none ∧ H' = own f32 idx ((List.range i).foldl (stepF dg st co va bs haste) X) G) ?_ ?_
          · simp
            exact ⟨G, hG, hGx, rfl⟩
          · rintro i fr H' hi ⟨g1, g2, g3, g4, g5, g13, g15, g16, g71, g72, G, hG, hGx, rfl⟩
            have d5 : ∀ X, cellsAt (own f32 idx X G) id5 = some [i64 n, y, z, w] := fun X => by rw [own, cellsAt_ne _ n5x]; exact cellsAt_le hc5 hG
            have d15 : ∀ X, cellsAt (own f32 idx X G) id15 = some [ownS idx n] := fun X => by rw [own, cellsAt_ne _ n15x]; exact cellsAt_le c15 hG
            have dm : ∀ X, (own f32 idx X G) idm = some (.map ((numsF n st co va).map entAV)) := fun X => by rw [own, AHeap.set_ne _ _ nmx]; exact hG _ _ hm5
            have hHG := AHeap.le_trans hle5 hG
            have hGo : ∀ X, G.le (own f32 idx X G) := fun X => own_le hGx
            by_cases hlt : i < n
            · have hXi : ((List.range i).foldl (stepF dg st co va bs haste) X).length = n := by
                have := roundF_length dg i st co va bs haste X
                unfold roundF at this
                rw [this, hXl]
              have hend : (List.range (i + 1)).foldl (stepF dg st co va bs haste) X = stepF dg st co va bs haste ((List.range i).foldl (stepF dg st co va bs haste) X) i := foldl_range_succ _ _ _
              generalize (List.range i).foldl (stepF dg st co va bs haste) X = Xi at hXi hend ⊢
              simp [g1, g2, g3, g4, g5, g13, g15, g16, g71, g72, hlt]
              intro id17 h17
              obtain ⟨n17x, h17⟩ := AHeap.set_none_of (H := G) h17
              have n17_5 : id5 ≠ id17 := by rintro rfl; have := cellsAt_le hc5 hG; unfold cellsAt at this; rw [h17] at this; cases this
              have n17_15 : id15 ≠ id17 := by rintro rfl; have := cellsAt_le c15 hG; unfold cellsAt at this; rw [h17] at this; cases this
              have n17m : idm ≠ id17 := by rintro rfl; have := hG _ _ hm5; rw [h17] at this; cases this
              have hF0 : (own f32 idx Xi G).le ((own f32 idx Xi G).set id17 (some (.cells [i64 i]))) := AHeap.le_set _ (AHeap.le_refl _) (by rw [own, AHeap.set_ne _ _ n17x]; exact h17)
              have hHF := AHeap.le_trans (AHeap.le_trans hHG (hGo Xi)) hF0
              have hxF := hx.mono hHF
              have hib : i < bs.length := by omega
              simp [hxF.idx, hxF.nth, hib, show (i : Int) < bs.length by omega]
              intro id18 h18
              obtain ⟨n18_17, h18'⟩ := AHeap.set_none_of h18
              obtain ⟨n18x, h18G⟩ := AHeap.set_none_of (H := G) h18'
              have n18_5 : id5 ≠ id18 := by rintro rfl; have := cellsAt_le hc5 hG; unfold cellsAt at this; rw [h18G] at this; cases this
              have n18_15 : id15 ≠ id18 := by rintro rfl; have := cellsAt_le c15 hG; unfold cellsAt at this; rw [h18G] at this; cases this
              have n18m : idm ≠ id18 := by rintro rfl; have := hG _ _ hm5; rw [h18G] at this; cases this
              have f17 : cellsAt ((own f32 idx Xi G).set id17 (some (.cells [i64 i]))) id17 = some [i64 i] := by simp
              have f15 : cellsAt ((own f32 idx Xi G).set id17 (some (.cells [i64 i]))) id15 = some [ownS idx n] := by rw [cellsAt_ne _ n17_15]; exact d15 Xi
              have f5 : cellsAt ((own f32 idx Xi G).set id17 (some (.cells [i64 i]))) id5 = some [i64 n, y, z, w] := by rw [cellsAt_ne _ n17_5]; exact d5 Xi
              have fx : cellsAt ((own f32 idx Xi G).set id17 (some (.cells [i64 i]))) idx = some (Xi.map f32) := by rw [cellsAt_ne _ (Ne.symm n17x)]; exact own_at
              have fm : ((own f32 idx Xi G).set id17 (some (.cells [i64 i]))) idm = some (.map ((numsF n st co va).map entAV)) := by rw [AHeap.set_ne _ _ n17m]; exact dm Xi
              have hxs : Sl ((own f32 idx Xi G).set id17 (some (.cells [i64 i]))) f32 (ownS idx n) Xi := by
                have := (own_sl' (f := f32) (id := idx) (H := G) (some n) hXi).mono hF0
                exact this
              obtain ⟨F, hFd⟩ : ∃ F, (own f32 idx Xi G).set id17 (some (.cells [i64 i])) = F := ⟨_, rfl⟩
              rw [hFd] at f17 f15 f5 fx fm hxs hHF h18 ⊢
              have hd : Does2 Try.prog 90 [] [.ptrR id17 0, .ptrR id18 0, .ptrR id15 0] n F id18 (fun s => .cells [f32 s]) (fun g c v => if c = (i : Int) then g else subF .f32 g (mulF .f32 v (nth Xi c.toNat))) := by
                intro G' hG' hGm' s c v q1 q2
                exact rounds1_ok (Ne.symm n18_17) n18_15 (cellsAt_le f17 hG') (cellsAt_le f15 hG') (hxs.mono hG') hGm' s c v q1 (by rw [hXi]; exact q2)
              simp [n18_5, f5, Ne.symm n18_17, f17]
              refine (each_ok hv (i := i) (by omega) h18 (hy.mono hHF) (hz.mono hHF) (hw.mono hHF) hd (nth bs i)).on ?_
              have hgf : rowFold st co va i (fun g c v => if c = (i : Int) then g else subF .f32 g (mulF .f32 v (nth Xi c.toNat))) (nth bs i) = gF st co va bs Xi i := rfl
              rw [hgf]
              have hm18 : ∀ b, (F.set id18 b) idm = some (.map ((numsF n st co va).map entAV)) := fun b => by rw [AHeap.set_ne _ _ n18m]; exact fm
              have hXl' : i < Xi.length := by omega
              have e1 : (Xi.map f32)[i]? = some (f32 (nth Xi i)) := by rw [List.getElem?_map, nth_get hXl']; rfl
              simp [n18_15, f15, Ne.symm n18_17, f17, hmap i _ (hm18 _), own_idxN, hlt, Ne.symm n18x, fx, e1]
              refine .on (mul_ok _ _ _) ?_
              simp [n18_15, f15, Ne.symm n18_17, f17, own_idxN, hlt, Ne.symm n18x, fx, e1, show i + 1 ≤ Xi.length by omega, wadd i (by omega)]
              refine ⟨(G.set id17 (some (.cells [i64 i]))).set id18 (some (.cells [f32 (divF .f32 (gF st co va bs Xi i) (dg i))])), ?_, ?_, ?_⟩
              · exact AHeap.le_trans hG (AHeap.le_set _ (AHeap.le_set _ (AHeap.le_refl _) h17) h18G)
              · rw [AHeap.set_ne _ _ (Ne.symm n18x), AHeap.set_ne _ _ (Ne.symm n17x)]; exact hGx
              · rw [hend, ← hFd, stepF]
                unfold own
                rw [List.map_set, AHeap.set_comm G _ _ (Ne.symm n17x), AHeap.set_comm (G.set id17 _) _ _ (Ne.symm n18x), AHeap.set_set]
            · have ei : i = n := by omega
              subst ei
              have hrd : (List.range i).foldl (stepF dg st co va bs haste) X = roundF dg i st co va bs haste X := rfl
              rw [hrd]
              have hXr : (roundF dg i st co va bs haste X).length = i := by rw [roundF_length, hXl]
              simp only [goF] at hgo
              generalize roundF dg i st co va bs haste X = X' at hXr hgo ⊢
              have hxs : Sl (own f32 idx X' G) f32 (ownS idx i) X' := own_sl' (some i) hXr
              have hHo := AHeap.le_trans hHG (hGo X')
              simp [g1, g2, g3, g4, g5, g13, g15, g16, g71, g72, hlt, d15]
              refine (areFinite_ok _ hxs (by omega)).on ?_
              cases hfx : allFin X' with
              | false =>
                rw [hfx, if_pos rfl] at hgo
                simp
                exact RoundsRet.no hgo.symm hHo
              | true =>
                rw [hfx, if_neg (by simp)] at hgo
                simp [d5, d15]
                have ht := times_ok hv (hy.mono hHo) (hz.mono hHo) (hw.mono hHo) hxs (by omega)
                rw [Int.toNat_natCast] at ht
                refine ht.on ?_
                have htl : (timesF i st co va X').length = i := by simp [timesF]
                simp
                refine (minus_ok (hx.mono hHo) (Sl.lst (timesF i st co va X')) (by omega) (by omega) (by intro e; rw [e] at hbl; simp at hbl; omega)).on ?_
                simp
                refine (norm_ok (Sl.lst _) (by simp [minusF]; omega)).on ?_
                simp
                refine (isFinite_ok _ _).on ?_
                cases hfl : isFin .f32 (normF (minusF bs (timesF i st co va X'))) with
                | false =>
                  rw [hfl, if_pos rfl] at hgo
                  simp
                  exact RoundsRet.no hgo.symm hHo
                | true =>
                  rw [hfl, if_neg (by simp)] at hgo
                  simp
                  cases hnear : leF .f32 (normF (minusF bs (timesF i st co va X'))) near with
                  | true =>
                    rw [hnear, if_pos rfl] at hgo
                    simp [d15]
                    rw [← hgo]
                    refine ⟨own f32 idx X' H, ?_, idx, hHidx, by rw [hXr], rfl⟩
                    intro j b hj
                    by_cases e : j = idx
                    · subst e; unfold own at hj ⊢; simpa using hj
                    · unfold own at hj ⊢; rw [AHeap.set_ne _ _ e] at hj ⊢; exact hHG _ _ hj
                  | false =>
                    rw [hnear, if_neg (by simp)] at hgo
                    have hw1 : IntKind.i64.wrap ((k : Int) + 1 + 1) = (k : Int) + 1 + 1 := win (by omega)
                    simp [hw1]
                    refine ⟨hlt', G, hG, hGx, X', hXr, rfl, ?_⟩
                    rw [show m - (k + 1) = q by omega]; exact hgo
        · have ek : m - k = 0 := by omega
          rw [ek, goF] at hgo
          simp [g1, g2, g3, g4, g5, g13, g15, g16, show ¬ ((k : Int) + 1 ≤ m) by omega]
          exact RoundsRet.no hgo.symm (AHeap.le_trans (AHeap.le_trans hle5 hG) (own_le hGx))
end
end Go.Ab
