/- The told numbers as a map. -/
import Derived.Test.YtdfoobfofjbjiaaSpE
set_option linter.unusedSimpArgs false
set_option linter.unusedVariables false
namespace Go.Ab
open Go.Proofs
set_option maxRecDepth 100000

/-! maps from places to numbers -/
abbrev PMap := List ((Int × Int) × Nat)
def entAV (e : (Int × Int) × Nat) : AV × AV := (.agg [i64 e.1.1, i64 e.1.2], f32 e.2)
def mget (k : Int × Int) : PMap → Option Nat
  | [] => none
  | e :: l => if e.1 = k then some e.2 else mget k l
def mput (k : Int × Int) (v : Nat) : PMap → PMap
  | [] => [(k, v)]
  | e :: l => if e.1 = k then (e.1, v) :: l else e :: mput k v l
def fnd (k : Int × Int) : PMap → Nat → Option (Nat × Nat)
  | [], _ => none
  | e :: l, i => if e.1 = k then some (i, e.2) else fnd k l (i + 1)
theorem mget_mput (k k' : Int × Int) (v : Nat) : ∀ l : PMap, mget k' (mput k v l) = if k' = k then some v else mget k' l
  | [] => by
    simp only [mput, mget]
    by_cases e : k = k'
    · subst e; simp
    · rw [if_neg e, if_neg (Ne.symm e)]
  | e :: l => by
    simp only [mput]
    by_cases h : e.1 = k
    · rw [if_pos h]
      simp only [mget]
      by_cases h' : e.1 = k'
      · rw [if_pos h', if_pos (by rw [← h, h'])]
      · rw [if_neg h', if_neg (by rw [← h]; exact Ne.symm h'), if_neg h']
    · rw [if_neg h]
      simp only [mget]
      by_cases h' : e.1 = k'
      · rw [if_pos h', if_pos h', if_neg (by rw [← h']; exact h)]
      · rw [if_neg h', if_neg h', mget_mput k k' v l]
theorem mget_fnd (k : Int × Int) : ∀ (l : PMap) (i : Nat), mget k l = (fnd k l i).map (·.2)
  | [], i => rfl
  | e :: l, i => by
    simp only [mget, fnd]
    split
    · rfl
    · exact mget_fnd k l (i + 1)
theorem fnd_ge (k : Int × Int) : ∀ (l : PMap) (i j v : Nat), fnd k l i = some (j, v) → i ≤ j
  | [], i, j, v, h => by simp [fnd] at h
  | e :: l, i, j, v, h => by
    simp only [fnd] at h
    split at h
    · cases h; exact Nat.le_refl _
    · have := fnd_ge k l (i + 1) j v h; omega
theorem mput_fnd (k : Int × Int) (v : Nat) : ∀ (l : PMap) (i : Nat), mput k v l = match fnd k l i with | some (j, _) => l.modify (j - i) (fun e => (e.1, v)) | none => l ++ [(k, v)]
  | [], i => rfl
  | e :: l, i => by
    simp only [mput, fnd]
    split
    · simp
    · rw [mput_fnd k v l (i + 1)]
      cases h : fnd k l (i + 1) with
      | none => simp
      | some p =>
        obtain ⟨j, u⟩ := p
        have := fnd_ge k l (i + 1) j u h
        simp only
        rw [show j - i = (j - (i + 1)) + 1 by omega]
        simp

theorem pairT_place : pairT Try.prog 115 = true := by kernel_rfl
theorem tMap_place : tMap Try.prog 112 = some (115, 26) := by kernel_rfl
theorem tZero_f32 : tZero Try.prog 26 = some (.float .f32 0) := by kernel_rfl
theorem keyEq_place (a b c d : Int) : keyEq Try.prog 115 (.agg [i64 a, i64 b]) (.agg [i64 c, i64 d]) = some (a == c && b == d) := by
  show (if pairT _ _ = true then _ else _) = _
  rw [if_pos pairT_place]
theorem aFind_place (a b : Int) : ∀ (l : PMap) (i : Nat), aFind Try.prog 115 (.agg [i64 a, i64 b]) (l.map entAV) i = some ((fnd (a, b) l i).map fun p => (p.1, f32 p.2))
  | [], i => rfl
  | e :: l, i => by
    simp only [List.map_cons, aFind, fnd, entAV, keyEq_place]
    by_cases h : e.1 = (a, b)
    · rw [if_pos h]
      have : (a == e.1.1 && b == e.1.2) = true := by rw [h]; simp
      rw [this]; rfl
    · rw [if_neg h]
      have : (a == e.1.1 && b == e.1.2) = false := by
        rw [Bool.eq_false_iff]
        intro h'
        simp at h'
        exact h (by rw [h'.1, h'.2])
      rw [this]
      exact aFind_place a b l (i + 1)
theorem lookup_place {H : AHeap} {id : Nat} {l : PMap} (hH : H id = some (.map (l.map entAV))) (a b : Int) :
    aLookup Try.prog 112 (.map id) (.agg [i64 a, i64 b]) false H = some (f32 ((mget (a, b) l).getD 0)) := by
  unfold aLookup
  rw [tMap_place]
  simp only [Option.bind_some, mapEs, hH, tZero_f32]
  rw [if_pos (by exact pairT_place), aFind_place, mget_fnd _ _ 0]
  cases fnd (a, b) l 0 with
  | none => simp [outLookup, AV.ofV, AV.ofS, canon_zero]
  | some p => simp [outLookup]
theorem update_place {H : AHeap} {id : Nat} {l : PMap} (hH : H id = some (.map (l.map entAV))) (a b : Int) (v : Nat) :
    aMapUpdate Try.prog 112 (.map id) (.agg [i64 a, i64 b]) (f32 v) H = some (H.set id (some (.map ((mput (a, b) v l).map entAV)))) := by
  unfold aMapUpdate
  rw [tMap_place]
  simp only [Option.bind_some, mapEs, hH]
  rw [if_pos (by exact pairT_place), aFind_place, mput_fnd _ _ _ 0]
  cases fnd (a, b) l 0 with
  | none => simp [setEs, entAV]
  | some p =>
    simp only [Option.map_some, setEs, Nat.sub_zero, Option.some.injEq]
    congr 2
    rw [show ∀ g : (Int × Int) × Nat → (Int × Int) × Nat, ∀ g' : AV × AV → AV × AV, (∀ e, entAV (g e) = g' (entAV e)) → ∀ (l : PMap) (i : Nat), (l.modify i g).map entAV = (l.map entAV).modify i g' from fun g g' hg l => by
      induction l with
      | nil => intro i; simp
      | cons e l ih => intro i; cases i with
        | zero => simp [hg]
        | succ i => simp [ih]]
    intro e; rfl

section
variable {side : Int} {st co : List Int} {va xs ys : List Nat} {x y z w : AV}
theorem numbers1_ok {G : AHeap} {idm id3 id4 : Nat} (n3 : id3 ≠ idm) (n4 : id4 ≠ idm) (h3 : cellsAt G id3 = some [.map idm]) {i : Int} (h4 : cellsAt G id4 = some [i64 i]) (l : PMap) (c : Int) (v : Nat) :
    ACalls Try.prog 167 [i64 c, f32 v, .ptrR id3 0, .ptrR id4 0] (G.set idm (some (.map (l.map entAV)))) (Ret (.tuple []) (G.set idm (some (.map ((mput (i, c) v l).map entAV))))) := by
  refine call_in Try.ft167 hmix Try.func167 (by kernel_rfl) ?_
  simp [Try.f167, Try.ft167, n3, n4, h3, h4]
  rw [update_place (AHeap.set_same _ _ _)]
  simp; exact .mk _ _

def numsF (n : Nat) (st co : List Int) (va : List Nat) : PMap := (List.range n).foldl (fun l (i : Nat) => rowFold st co va i (fun l c v => mput ((i : Int), c) v l) l) []

theorem numbers_ok (h : Valid side st co va) {H : AHeap} (hy : Sl H i64 y st) (hz : Sl H i64 z co) (hw : Sl H f32 w va) :
    ACalls Try.prog 88 [sparseAV side y z w] H (fun v H' => ∃ id, H id = none ∧ v = .map id ∧ H' = H.set id (some (.map ((numsF side.toNat st co va).map entAV)))) := by
  have hs1 := h.s1
  have hs2 := h.s2
  refine fun_in Try.ft88 hmix Try.func88 (by kernel_rfl) ?_
  simp [Try.f88, Try.ft88, hy.cells, hz.cells, hw.cells]
  intro id1 h1 idm hm
  obtain ⟨nm1, hm⟩ := AHeap.set_none_of hm
  intro id3 h3
  obtain ⟨n3m, h3⟩ := AHeap.set_none_of h3
  obtain ⟨n31, h3⟩ := AHeap.set_none_of h3
  rw [AHeap.set_comm _ _ _ (Ne.symm n3m)]
  have hle : H.le ((H.set id1 (some (.cells [i64 side, y, z, w]))).set id3 (some (.cells [.map idm]))) := AHeap.le_set _ (AHeap.le_set _ (AHeap.le_refl _) h1) h3
  have e1 : cellsAt ((H.set id1 (some (.cells [i64 side, y, z, w]))).set id3 (some (.cells [.map idm]))) id1 = some [i64 side, y, z, w] := by simp [Ne.symm n31]
  have e3 : cellsAt ((H.set id1 (some (.cells [i64 side, y, z, w]))).set id3 (some (.cells [.map idm]))) id3 = some [.map idm] := by simp
  have em : ((H.set id1 (some (.cells [i64 side, y, z, w]))).set id3 (some (.cells [.map idm]))) idm = none := by
    rw [AHeap.set_ne _ _ (Ne.symm n3m), AHeap.set_ne _ _ nm1]; exact hm
  generalize (H.set id1 (some (.cells [i64 side, y, z, w]))).set id3 (some (.cells [.map idm])) = G0 at hle e1 e3 em ⊢
  simp [e1, Ne.symm nm1]
  refine AW_for side.toNat (fun k fr H' => fr 1 = .ptrR id1 0 ∧ fr 3 = .ptrR id3 0 ∧ fr 7 = i64 side ∧ fr 8 = i64 k ∧
    ∃ G : AHeap, G0.le G ∧ G idm = none ∧ H' = G.set idm (some (.map ((numsF k st co va).map entAV)))) ?_ ?_
  · simp
    exact ⟨G0, AHeap.le_refl _, em, rfl⟩
  · rintro k fr H' hk ⟨g1, g3, g7, g8, G, hG, hGm, rfl⟩
    have c1 := cellsAt_le e1 hG
    have c3 := cellsAt_le e3 hG
    by_cases hlt : (k : Int) < side
    · simp [g1, g3, g7, g8, hlt]
      intro id4 h4
      obtain ⟨n4m, h4⟩ := AHeap.set_none_of h4
      rw [AHeap.set_comm _ _ _ (Ne.symm n4m)]
      have hG4 : G.le (G.set id4 (some (.cells [i64 k]))) := AHeap.le_set _ (AHeap.le_refl _) h4
      have q4 : cellsAt (G.set id4 (some (.cells [i64 k]))) id4 = some [i64 k] := by simp
      have qm : (G.set id4 (some (.cells [i64 k]))) idm = none := by rw [AHeap.set_ne _ _ (Ne.symm n4m)]; exact hGm
      generalize G.set id4 (some (.cells [i64 k])) = G4 at hG4 q4 qm ⊢
      have c1 := cellsAt_le c1 hG4
      have c3 := cellsAt_le c3 hG4
      have hHG := AHeap.le_trans hle (AHeap.le_trans hG hG4)
      simp [c1, q4, n4m, Ne.symm nm1]
      have hd : Does2 Try.prog 167 [] [.ptrR id3 0, .ptrR id4 0] side G4 idm (fun l => .map (l.map entAV)) (fun l c v => mput ((k : Int), c) v l) := by
        intro G' hG' hGm' l c v q1 q2
        exact numbers1_ok n3m n4m (cellsAt_le c3 hG') (cellsAt_le q4 hG') l c v
      refine (each_ok h hlt qm (hy.mono hHG) (hz.mono hHG) (hw.mono hHG) hd (numsF k st co va)).on ?_
      simp [wadd k (by omega)]
      exact ⟨G4, AHeap.le_trans hG hG4, qm, by rw [show numsF (k + 1) st co va = rowFold st co va k (fun l c v => mput ((k : Int), c) v l) (numsF k st co va) from foldl_range_succ ..]⟩
    · simp [g1, g3, g7, g8, hlt, c3, n3m]
      have ek : k = side.toNat := by omega
      subst ek
      refine ⟨H.set idm (some (.map ((numsF side.toNat st co va).map entAV))), ?_, idm, hm, rfl, rfl⟩
      intro j b hj
      by_cases e : j = idm
      · subst e; simpa using hj
      · rw [AHeap.set_ne _ _ e] at hj ⊢; exact AHeap.le_trans hle hG _ _ hj
end
end Go.Ab
