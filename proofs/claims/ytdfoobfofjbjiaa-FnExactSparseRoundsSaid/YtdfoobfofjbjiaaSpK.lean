/- Rounds: the reference's. -/
import Derived.Test.YtdfoobfofjbjiaaSpJ
set_option linter.unusedSimpArgs false
set_option linter.unusedVariables false
namespace Go.Ab
open Go.Proofs
set_option maxRecDepth 100000

/-- What the reference asks before it begins. -/
noncomputable def okS (side : Int) (st co : List Int) (va bs : List Nat) (haste near : Nat) (most : Int) : Bool :=
  (valid side st co va && decide ((bs.length : Int) = side) && allFin bs) && (gtF .f32 haste 0 && ltF .f32 haste 1073741824) && (isFin .f32 near && geF .f32 near 0) && (decide (1 ≤ most) && decide (most ≤ 128))
def diagS (n : Nat) (st co : List Int) (va : List Nat) (i : Nat) : Nat := nth (openF st co va n n).2 (i * n + i)
theorem RoundsRet.no' {o : Option (List Nat × Int)} {H H' : AHeap} (ho : o = none) (hle : H.le H') : DropTo (RoundsRet o H) (.tuple [.nilslice, i64 0, .bool false]) H' := RoundsRet.no ho hle

section
variable {side : Int} {st co : List Int} {va xs bs : List Nat} {x y z w : AV}
set_option maxHeartbeats 4000000 in
theorem specRounds_ok {H : AHeap} (hy : Sl H i64 y st) (hz : Sl H i64 z co) (hw : Sl H f32 w va) (hx : Sl H f32 x bs) (l1 : st.length ≤ 1048576) (l2 : co.length ≤ 1048576) (l3 : va.length ≤ 1048576) (l4 : bs.length ≤ 1048576) (haste near : Nat) (most : Int) :
    ACalls Try.prog 8 [sparseAV side y z w, x, f32 haste, f32 near, i64 most] H
      (RoundsRet (if okS side st co va bs haste near most then roundsF (diagS side.toNat st co va) side.toNat st co va bs haste near most else none) H) := by
  have hcst : canon .f32 1073741824 = 1073741824 := by decide
  obtain ⟨o, ho⟩ : ∃ o, (if okS side st co va bs haste near most then roundsF (diagS side.toNat st co va) side.toNat st co va bs haste near most else none) = o := ⟨_, rfl⟩
  rw [ho]
  refine fun_in Try.ft8 hmix Try.func8 (by kernel_rfl) ?_
  simp [Try.f8, Try.ft8, hy.cells, hz.cells, hw.cells]
  intro id5 h5
  have hle : H.le (H.set id5 (some (.cells [i64 side, y, z, w]))) := AHeap.le_set _ (AHeap.le_refl _) h5
  have hc := cellsAt_same (H := H) (id := id5) [i64 side, y, z, w]
  generalize H.set id5 (some (.cells [i64 side, y, z, w])) = H1 at hle hc ⊢
  refine (l05Fits_ok hc (hy.mono hle) (hz.mono hle) (hw.mono hle) (hx.mono hle) l1 l2 l3 l4).on ?_
  cases ht : valid side st co va && decide ((bs.length : Int) = side) && allFin bs with
  | false => simp; exact RoundsRet.no (by rw [← ho, okS, ht]; simp) hle
  | true =>
  cases hh : gtF .f32 haste 0 with
  | false => simp [canon_zero, hh]; exact RoundsRet.no (by rw [← ho, okS, ht, hh]; simp) hle
  | true =>
  cases hh2 : ltF .f32 haste 1073741824 with
  | false => simp [canon_zero, hcst, hh, hh2]; exact RoundsRet.no (by rw [← ho, okS, ht, hh, hh2]; simp) hle
  | true =>
  simp [canon_zero, hcst, hh, hh2]
  refine (l02Least_ok _ _).on ?_
  cases hf : isFin .f32 near && geF .f32 near 0 with
  | false => simp; exact RoundsRet.no (by rw [← ho, okS, ht, hh, hh2, hf]; simp) hle
  | true =>
  simp
  refine (l00In_ok _ _ _ _).on ?_
  by_cases hm1 : 1 ≤ most
  case neg => simp [hm1]; exact RoundsRet.no (by rw [← ho, okS]; simp [hm1]) hle
  by_cases hm2 : most ≤ 128
  case neg => simp [hm2]; exact RoundsRet.no (by rw [← ho, okS]; simp [hm2]) hle
  rw [okS, ht, hf, hh, hh2] at ho
  simp only [hm1, hm2, decide_true, Bool.and_true, if_true] at ho
  simp only [Bool.and_eq_true, decide_eq_true_eq] at ht
  obtain ⟨⟨hv, hbl⟩, _⟩ := ht
  have hv := valid_iff.1 hv
  have hs1 := hv.s1
  have hs2 := hv.s2
  obtain ⟨n, rfl⟩ := Int.eq_ofNat_of_zero_le (show 0 ≤ side by omega)
  rw [Int.toNat_natCast] at ho
  obtain ⟨m, rfl⟩ := Int.eq_ofNat_of_zero_le (show 0 ≤ most by omega)
  simp [hm1, hm2]
  refine (l05Open_ok hv hc (hy.mono hle) (hz.mono hle) (hw.mono hle)).mono ?_
  rintro _ _ ⟨idt, idn, hit, hin, hne, rfl, rfl⟩
  have hfo := openF_ok st co va n n
  obtain ⟨dg, hdg⟩ : ∃ dg, diagS n st co va = dg := ⟨_, rfl⟩
  rw [hdg] at ho
  have hdg' : ∀ k, nth (openF st co va n n).2 (k * n + k) = dg k := fun k => by rw [← hdg]; rfl
  generalize openF st co va n n = S at hfo hdg' ⊢
  have hSn : ∀ G', G' idn = some (.cells (S.2.map f32)) → Sl G' f32 (ownS idn (n * n)) S.2 := fun G' h => by rw [← hfo.2]; exact Sl.own h
  have hle2 : H1.le (heapF idt idn S H1) := AHeap.le_set _ (AHeap.le_set _ (AHeap.le_refl _) hit) hin
  have hc2 := cellsAt_le hc hle2
  have hn2 : (heapF idt idn S H1) idn = some (.cells (S.2.map f32)) := AHeap.set_same _ _ _
  have hle := AHeap.le_trans hle hle2
  generalize heapF idt idn S H1 = H2 at hle hc2 hn2 ⊢
  simp
  intro id13 h13
  have n5 : id5 ≠ id13 := by rintro rfl; unfold cellsAt at hc2; rw [h13] at hc2; cases hc2
  have nn13 : idn ≠ id13 := by rintro rfl; rw [h13] at hn2; cases hn2
  have hle13 : H2.le (H2.set id13 (some (.cells [i64 n, ownS idt (n * n), ownS idn (n * n)]))) := AHeap.le_set _ (AHeap.le_refl _) h13
  have hc13 : cellsAt (H2.set id13 (some (.cells [i64 n, ownS idt (n * n), ownS idn (n * n)]))) id13 = some [i64 n, ownS idt (n * n), ownS idn (n * n)] := by simp
  have hle := AHeap.le_trans hle hle13
  have hc3 := cellsAt_le hc2 hle13
  have hn3 := hle13 _ _ hn2
  generalize H2.set id13 (some (.cells [i64 n, ownS idt (n * n), ownS idn (n * n)])) = H3 at hle hc3 hn3 hc13 ⊢
  have hb1 := fun (i : Nat) (hi : i < n) => hv.bounds (i := i) (by omega)
  have hb2 := fun (i : Nat) (hi : i < n) => hv.bounds (i := i + 1) (by omega)
  have hl := hv.len
  have hco := hv.few
  have hva := hv.vals
  have hp : ∀ k, k < n → ∃ KN p : Nat, IntKind.i64.wrap ((k : Int) * n) = (KN : Int) ∧ IntKind.i64.wrap ((KN : Int) + k) = (p : Int) ∧ p < n * n ∧ ∃ hl : p < S.2.length, S.2[p] = dg k := by
    intro k hk
    have h1 := at_lt hk hk
    have h2 : n * n ≤ 32 * 32 := Nat.mul_le_mul (by omega) (by omega)
    have hl' : k * n + k < S.2.length := by rw [hfo.2]; exact h1
    refine ⟨k * n, k * n + k, ?_, ?_, h1, hl', by rw [nth_eq hl', hdg']⟩
    · rw [show (k : Int) * n = ((k * n : Nat) : Int) by simp]; exact win (by omega)
    · rw [win (by omega)]; omega
  have hcn : ∀ G : AHeap, H3.le G → cellsAt G idn = some (S.2.map f32) := fun G hG => cellsAt_of (hG _ _ hn3)
  generalize n * n = NN at hc13 hp
  refine AW_for n (fun k fr H' => fr 1 = x ∧ fr 2 = f32 haste ∧ fr 3 = f32 near ∧ fr 4 = i64 m ∧ fr 5 = .ptrR id5 0 ∧ fr 13 = .ptrR id13 0 ∧ fr 14 = i64 k ∧ H' = H3 ∧ ∀ i, i < k → eqF .f32 (dg i) 0 = false) ?_ ?_
  · simp
  · rintro k fr H' hk ⟨g1, g2, g3, g4, g5, g13, g14, rfl, hnz⟩
    by_cases hlt : k < n
    · obtain ⟨KN, p, w7, w8, hpN, hpl, hpd⟩ := hp k hlt
      simp [g1, g2, g3, g4, g5, g13, g14, hlt, hc3, hc13, w7, w8, own_idxN, hpN, hcn _ (AHeap.le_refl _), hpd, hpl, canon_zero]
      cases hz0 : eqF .f32 (dg k) 0 with
      | true =>
        simp
        refine RoundsRet.no ?_ hle
        rw [← ho, roundsF, if_pos]
        rw [List.any_eq_true]; exact ⟨k, by simpa using hlt, hz0⟩
      | false =>
        simp [wadd k (by omega)]
        intro i hi
        by_cases e : i = k
        · subst e; exact hz0
        · exact hnz i (by omega)
    · have ek : n = k := by omega
      subst ek
      rw [roundsF, if_neg (by
        rw [List.any_eq_true]
        rintro ⟨i, hi, h2⟩
        rw [hnz i (by simpa using hi)] at h2; cases h2)] at ho
      rw [Int.toNat_natCast] at ho
      simp [g1, g2, g3, g4, g5, g13, g14, hc3, aMake (show n ≤ 1073741824 by omega)]
      intro idx hx0
      have hHidx : H idx = none := by
        cases e : H idx with
        | none => rfl
        | some b => have := hle _ _ e; rw [hx0] at this; cases this
      have n5x : id5 ≠ idx := by rintro rfl; unfold cellsAt at hc3; rw [hx0] at hc3; cases hc3
      have n13x : id13 ≠ idx := by rintro rfl; unfold cellsAt at hc13; rw [hx0] at hc13; cases hc13
      have nnx : idn ≠ idx := by rintro rfl; rw [hx0] at hn3; cases hn3
      refine AW_for m (fun k fr H2 => fr 1 = x ∧ fr 2 = f32 haste ∧ fr 3 = f32 near ∧ fr 4 = i64 m ∧ fr 5 = .ptrR id5 0 ∧ fr 13 = .ptrR id13 0 ∧ fr 15 = ownS idx n ∧ fr 16 = i64 ((k : Int) + 1) ∧
        ∃ (G : AHeap) (X : List Nat), H'.le G ∧ G idx = none ∧ X.length = n ∧ H2 = own f32 idx X G ∧ goF dg n st co va bs haste near (m - k) ((k : Int) + 1) X = o) ?_ ?_
      · simp
        exact ⟨H', AHeap.le_refl _, hx0, List.replicate n 0, by simp, by simp [own], by simpa using ho⟩
      · rintro k fr H2 hk ⟨g1, g2, g3, g4, g5, g13, g15, g16, G, X, hG, hGx, hXl, rfl, hgo⟩
        have hHG := AHeap.le_trans hle hG
        have hGo : ∀ X, G.le (own f32 idx X G) := fun X => own_le hGx
        have d5 : ∀ X, cellsAt (own f32 idx X G) id5 = some [i64 n, y, z, w] := fun X => cellsAt_le hc3 (AHeap.le_trans hG (hGo X))
        have d13 : ∀ X, cellsAt (own f32 idx X G) id13 = some [i64 n, ownS idt NN, ownS idn NN] := fun X => cellsAt_le hc13 (AHeap.le_trans hG (hGo X))
        have dn : ∀ X, cellsAt (own f32 idx X G) idn = some (S.2.map f32) := fun X => hcn _ (AHeap.le_trans hG (hGo X))
        have hy2 := fun X => (hy.mono hHG).mono (hGo X)
        have hz2 := fun X => (hz.mono hHG).mono (hGo X)
        have hw2 := fun X => (hw.mono hHG).mono (hGo X)
        have hb2' := fun X => (hx.mono hHG).mono (hGo X)
        by_cases hlt' : k < m
        · have hle1 : ((k : Int) + 1 ≤ m) := by omega
          obtain ⟨q, hq⟩ : ∃ q, m - k = q + 1 := ⟨m - k - 1, by omega⟩
          rw [hq] at hgo
          simp [g1, g2, g3, g4, g5, g13, g15, g16, hle1]
          refine AW_for n (fun i fr H2 => fr 1 = x ∧ fr 2 = f32 haste ∧ fr 3 = f32 near ∧ fr 4 = i64 m ∧ fr 5 = .ptrR id5 0 ∧ fr 13 = .ptrR id13 0 ∧ fr 15 = ownS idx n ∧ fr 16 = i64 ((k : Int) + 1) ∧ fr 17 = i64 i ∧
            H2 = own f32 idx ((List.range i).foldl (stepF dg st co va bs haste) X) G) ?_ ?_
          · simp
          · rintro i fr H2 hi ⟨g1, g2, g3, g4, g5, g13, g15, g16, g17, rfl⟩
            by_cases hlt : i < n
            · have hXi : ((List.range i).foldl (stepF dg st co va bs haste) X).length = n := by
                have := roundF_length dg i st co va bs haste X
                unfold roundF at this
                rw [this, hXl]
              have hend : (List.range (i + 1)).foldl (stepF dg st co va bs haste) X = stepF dg st co va bs haste ((List.range i).foldl (stepF dg st co va bs haste) X) i := foldl_range_succ _ _ _
              generalize (List.range i).foldl (stepF dg st co va bs haste) X = Xi at hXi hend ⊢
              have b1 := hb1 i hlt
              have b2 := hb2 i hlt
              obtain ⟨a, ha⟩ : ∃ a : Nat, nth st i = a := ⟨(nth st i).toNat, by omega⟩
              obtain ⟨t, ht⟩ : ∃ t : Nat, nth st (i + 1) = t := ⟨(nth st (i + 1)).toNat, by omega⟩
              simp [g1, g2, g3, g4, g5, g13, g15, g16, g17, hlt, d5, hx.idx, (hb2' _).nth, show i < bs.length by omega, show (i : Int) < bs.length by omega, hy.idx, (hy2 _).nth, show i < st.length by omega, show (i : Int) < st.length by omega, ha]
              refine AW_for (t - a) (fun j fr H2 => H2 = own f32 idx Xi G ∧ fr 1 = x ∧ fr 2 = f32 haste ∧ fr 3 = f32 near ∧ fr 4 = i64 m ∧ fr 5 = .ptrR id5 0 ∧ fr 13 = .ptrR id13 0 ∧ fr 15 = ownS idx n ∧ fr 16 = i64 ((k : Int) + 1) ∧ fr 17 = i64 i ∧
                fr 19 = i64 ((a + j : Nat) : Int) ∧ fr 18 = f32 ((List.range j).foldl (fun g j => if nth co (a + j) = (i : Int) then g else subF .f32 g (mulF .f32 (nth va (a + j)) (nth Xi (nth co (a + j)).toNat))) (nth bs i))) ?_ ?_
              · simp
              · rintro j fr H2 hj ⟨rfl, g1, g2, g3, g4, g5, g13, g15, g16, g17, g19, g18⟩
                have w4 : IntKind.i64.wrap ((i : Int) + 1) = ((i + 1 : Nat) : Int) := by rw [wadd i (by omega)]; omega
                have hx' := hy.idx (P := Try.prog) (t := 22) (k := .i64) (i := ((i + 1 : Nat) : Int)) (by simp) (by omega) (by omega)
                have hh := fun X => (hy2 X).nth (P := Try.prog) (e := 2) (by simp) (show i + 1 < st.length by omega)
                rw [Int.toNat_natCast] at hx'
                rw [ht] at hh
                generalize hI : ((i + 1 : Nat) : Int) = I at w4 hx'
                by_cases hjt : a + j < t
                · have w6 := wadd (a + j) (by omega)
                  have e1 := hz.idx (P := Try.prog) (t := 22) (k := .i64) (i := ((a + j : Nat) : Int)) (by simp) (by omega) (by omega)
                  have e2 := hw.idx (P := Try.prog) (t := 23) (k := .i64) (i := ((a + j : Nat) : Int)) (by simp) (by omega) (by omega)
                  have n1 := fun X => (hz2 X).nth (P := Try.prog) (e := 2) (by simp) (show a + j < co.length by omega)
                  have n2 := fun X => (hw2 X).nth (P := Try.prog) (e := 26) (by simp) (show a + j < va.length by omega)
                  rw [Int.toNat_natCast] at e1 e2
                  have hck := hv.cols (nth co (a + j)) (nth_mem (by omega))
                  obtain ⟨c, hcc⟩ : ∃ c : Nat, nth co (a + j) = c := ⟨(nth co (a + j)).toNat, by omega⟩
                  have hcn' : c < n := by omega
                  have hJt : ((a + j : Nat) : Int) < t := by omega
                  have hcl : c < Xi.length := by omega
                  have e3 : Xi[c] = nth Xi c := nth_eq hcl
                  generalize hJ : ((a + j : Nat) : Int) = J at g19 w6 e1 e2 hJt
                  by_cases hci : c = i
                  · subst hci
                    simp [g1, g2, g3, g4, g5, g13, g15, g16, g17, g18, g19, d5, w4, hx', hh, hJt, e1, n1, hcc, w6]
                    refine ⟨by omega, by omega, ?_⟩
                    rw [foldl_range_succ, if_pos hcc]
                  · have hci' : ¬ (c : Int) = i := by omega
                    simp [g1, g2, g3, g4, g5, g13, g15, g16, g17, g18, g19, d5, w4, hx', hh, hJt, e1, e2, n1, n2, hcc, hci, hci', w6, own_idxN, hcn', own_at, hcl, e3]
                    refine ⟨by omega, by omega, ?_⟩
                    rw [foldl_range_succ, if_neg (by rw [hcc]; exact hci'), hcc, Int.toNat_natCast]
                · have hJt : ¬ ((a + j : Nat) : Int) < t := by omega
                  generalize hJ : ((a + j : Nat) : Int) = J at g19 hJt
                  have ej : j = t - a := by omega
                  have hgf : gF st co va bs Xi i = (List.range j).foldl (fun g j => if nth co (a + j) = (i : Int) then g else subF .f32 g (mulF .f32 (nth va (a + j)) (nth Xi (nth co (a + j)).toNat))) (nth bs i) := by
                    unfold gF rowFold
                    rw [ha, ht, ej]; simp
                  rw [← hgf] at g18
                  obtain ⟨KN, p, w7, w8, hpN, hpl, hpd⟩ := hp i hlt
                  have hcl : i < Xi.length := by omega
                  have e3 : Xi[i] = nth Xi i := nth_eq hcl
                  simp [-aStore_R, g1, g2, g3, g4, g5, g13, g15, g16, g17, g18, g19, d5, d13, w4, hx', hh, hJt, w7, w8, own_idxN, hpN, dn, hpl, hpd, hlt, own_at, hcl, e3]
                  rw [own_store (f := f32) (by simp) rfl rfl hcl]
                  simp [wadd i (by omega)]
                  rw [hend]; rfl
            · have ei : i = n := by omega
              subst ei
              have hrd : (List.range i).foldl (stepF dg st co va bs haste) X = roundF dg i st co va bs haste X := rfl
              rw [hrd]
              have hXr : (roundF dg i st co va bs haste X).length = i := by rw [roundF_length, hXl]
              simp only [goF] at hgo
              generalize roundF dg i st co va bs haste X = X' at hXr hgo ⊢
              have hxs : Sl (own f32 idx X' G) f32 (ownS idx i) X' := own_sl' (some i) hXr
              have hHo := AHeap.le_trans hHG (hGo X')
              simp [g1, g2, g3, g4, g5, g13, g15, g16, g17, hlt, d5]
              have hL := l05Left_ok hv (d5 X') (hy.mono hHo) (hz.mono hHo) (hw.mono hHo) hxs (by omega) (hx.mono hHo) hbl
              rw [Int.toNat_natCast] at hL
              refine hL.mono ?_
              rintro _ _ ⟨idl, hidl, rfl, rfl⟩
              obtain ⟨nlx, hGl⟩ := AHeap.set_none_of (H := G) hidl
              have hml : (minusF bs (timesF i st co va X')).length = i := by simp [minusF]; omega
              rw [own_comm nlx]
              have hGl2 : G.le (own f32 idl (minusF bs (timesF i st co va X')) G) := own_le hGl
              have hGxl : (own f32 idl (minusF bs (timesF i st co va X')) G) idx = none := by unfold own; rw [AHeap.set_ne _ _ (Ne.symm nlx)]; exact hGx
              have hsl : Sl (own f32 idx X' (own f32 idl (minusF bs (timesF i st co va X')) G)) f32 (.sliceR idl 0 (minusF bs (timesF i st co va X')).length 1 none) (minusF bs (timesF i st co va X')) := (own_sl none).mono (own_le hGxl)
              have hxs2 : Sl (own f32 idx X' (own f32 idl (minusF bs (timesF i st co va X')) G)) f32 (ownS idx i) X' := own_sl' (some i) hXr
              have hHo2 := AHeap.le_trans hHG (AHeap.le_trans hGl2 (own_le (f := f32) (xs := X') hGxl))
              have hG2 := AHeap.le_trans hG hGl2
              generalize own f32 idl (minusF bs (timesF i st co va X')) G = G2 at hGl2 hGxl hsl hxs2 hHo2 hG2 ⊢
              simp
              refine (l05Norm_ok hsl (by omega)).on ?_
              simp
              refine (l02Finite_ok hxs2 (by omega)).on ?_
              cases hfx : allFin X' with
              | false =>
                rw [hfx, if_pos rfl] at hgo
                simp
                exact RoundsRet.no hgo.symm hHo2
              | true =>
                rw [hfx, if_neg (by simp)] at hgo
                simp
                refine (l01Finite_ok _ _).on ?_
                cases hfl : isFin .f32 (normF (minusF bs (timesF i st co va X'))) with
                | false =>
                  rw [hfl, if_pos rfl] at hgo
                  simp
                  exact RoundsRet.no hgo.symm hHo2
                | true =>
                  rw [hfl, if_neg (by simp)] at hgo
                  cases hnear : leF .f32 (normF (minusF bs (timesF i st co va X'))) near with
                  | true =>
                    rw [hnear, if_pos rfl] at hgo
                    simp [hnear]
                    rw [← hgo]
                    refine ⟨own f32 idx X' H, ?_, idx, hHidx, by rw [hXr], rfl⟩
                    intro j b hj
                    by_cases e : j = idx
                    · subst e; unfold own at hj ⊢; simpa using hj
                    · unfold own at hj; rw [AHeap.set_ne _ _ e] at hj
                      have := AHeap.le_trans hHG hGl2 _ _ hj
                      unfold own; rw [AHeap.set_ne _ _ e]; exact this
                  | false =>
                    rw [hnear, if_neg (by simp)] at hgo
                    have hw1 : IntKind.i64.wrap ((k : Int) + 1 + 1) = (k : Int) + 1 + 1 := win (by omega)
                    simp [hnear, hw1]
                    refine ⟨hlt', G2, hG2, hGxl, X', hXr, rfl, ?_⟩
                    rw [show m - (k + 1) = q by omega]; exact hgo
        · have ek : m - k = 0 := by omega
          rw [ek, goF] at hgo
          simp [g1, g2, g3, g4, g5, g13, g15, g16, show ¬ ((k : Int) + 1 ≤ m) by omega]
          exact RoundsRet.no hgo.symm (AHeap.le_trans hHG (hGo X))
end
end Go.Ab
