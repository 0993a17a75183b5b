/- Going through the told numbers of a row. -/
import Derived.Test.YtdfoobfofjbjiaaSpC
set_option linter.unusedSimpArgs false
set_option linter.unusedVariables false
namespace Go.Ab
open Go.Proofs
set_option maxRecDepth 100000

/-- What comes of going through a row. -/
def rowFold {β : Type} (st co : List Int) (va : List Nat) (i : Nat) (f : β → Int → Nat → β) (b : β) : β :=
  (List.range ((nth st (i + 1)).toNat - (nth st i).toNat)).foldl (fun b j => f b (nth co ((nth st i).toNat + j)) (nth va ((nth st i).toNat + j))) b
theorem foldl_range_succ {β : Type} (n : Nat) (f : β → Nat → β) (b : β) : (List.range (n + 1)).foldl f b = f ((List.range n).foldl f b) n := by rw [List.range_succ, List.foldl_append]; rfl

/-- What a function that is handed over does to a block, beside all else. -/
def Does2 {β : Type} (P : Program) (g : FuncId) (us vs : List AV) (side : Int) (F : AHeap) (gid : Nat) (C : β → Blk) (f : β → Int → Nat → β) : Prop :=
  ∀ G : AHeap, F.le G → G gid = none → ∀ b c v, 0 ≤ c → c < side → ACalls P g (us ++ [i64 c, f32 v] ++ vs) (G.set gid (some (C b))) (Ret (.tuple []) (G.set gid (some (C (f b c v)))))

section
variable {side : Int} {st co : List Int} {va : List Nat} {y z w : AV}
theorem each_ok {β : Type} (h : Valid side st co va) {i : Nat} (hi : (i : Int) < side) {g : FuncId} {us vs : List AV} {gid : Nat} {C : β → Blk} {f : β → Int → Nat → β} {F : AHeap} (hF : F gid = none)
    (hy : Sl F i64 y st) (hz : Sl F i64 z co) (hw : Sl F f32 w va) (hg : Does2 Try.prog g us vs side F gid C f) (b : β) :
    ACalls Try.prog 89 [sparseAV side y z w, i64 i, .func (.func g) us vs] (F.set gid (some (C b))) (Ret (.tuple []) (F.set gid (some (C (rowFold st co va i f b))))) := by
  refine fun_in Try.ft89 hmix Try.func89 (by kernel_rfl) ?_
  simp [Try.f89, Try.ft89, hy.cells, hz.cells, hw.cells]
  intro id hid
  obtain ⟨hne, hidF⟩ : ¬ id = gid ∧ F id = none := by simpa using hid
  rw [AHeap.set_comm _ _ _ (not_symm hne)]
  have hl := h.len
  have hsd := h.s2
  have hco := h.few
  have hva := h.vals
  have b1 := h.bounds (i := i) (by omega)
  have b2 := h.bounds (i := i + 1) (by omega)
  have b3 := h.step hi
  obtain ⟨a, ha⟩ : ∃ a : Nat, nth st i = a := ⟨(nth st i).toNat, by omega⟩
  obtain ⟨t, ht⟩ : ∃ t : Nat, nth st (i + 1) = t := ⟨(nth st (i + 1)).toNat, by omega⟩
  have hFG : F.le (F.set id (some (.cells [i64 side, y, z, w]))) := AHeap.le_set _ (AHeap.le_refl _) hidF
  have hGg : (F.set id (some (.cells [i64 side, y, z, w]))) gid = none := by rw [AHeap.set_ne _ _ (not_symm hne)]; exact hF
  have hGid : cellsAt (F.set id (some (.cells [i64 side, y, z, w]))) id = some [i64 side, y, z, w] := by simp
  have hend : ∀ X, AHeap.le (F.set gid X) ((F.set id (some (.cells [i64 side, y, z, w]))).set gid X) := by
    intro X j c hj
    by_cases e : j = gid
    · subst e; simpa using hj
    · rw [AHeap.set_ne _ _ e] at hj ⊢; exact hFG _ _ hj
  generalize F.set id (some (.cells [i64 side, y, z, w])) = G at hFG hGg hGid hend ⊢
  have hle : ∀ X, G.le (G.set gid X) := fun X => AHeap.le_set _ (AHeap.le_refl _) hGg
  have hc : ∀ X, cellsAt (G.set gid X) id = some [i64 side, y, z, w] := fun X => by rw [cellsAt_ne _ hne]; exact hGid
  have hy2 := fun X => (hy.mono hFG).mono (hle X)
  have hz2 := fun X => (hz.mono hFG).mono (hle X)
  have hw2 := fun X => (hw.mono hFG).mono (hle X)
  simp [hc, hy.idx, (hy2 _).nth, show i < st.length by omega, show (i : Int) < st.length by omega, ha]
  refine AW_for (t - a) (fun j fr H' => fr 1 = i64 i ∧ fr 2 = .func (.func g) us vs ∧ fr 3 = .ptrR id 0 ∧ fr 6 = i64 ((a + j : Nat) : Int) ∧
    H' = G.set gid (some (C ((List.range j).foldl (fun b j => f b (nth co (a + j)) (nth va (a + j))) b)))) ?_ ?_
  · simp
  · rintro j fr H' hj ⟨g1, g2, g3, g6, rfl⟩
    have w4 : IntKind.i64.wrap ((i : Int) + 1) = ((i + 1 : Nat) : Int) := by rw [wadd i (by omega)]; omega
    have hx := hy.idx (P := Try.prog) (t := 22) (k := .i64) (i := ((i + 1 : Nat) : Int)) (by simp) (by omega) (by omega)
    have hh := (hy2 (some (C ((List.range j).foldl (fun b j => f b (nth co (a + j)) (nth va (a + j))) b)))).nth (P := Try.prog) (e := 2) (by simp) (show i + 1 < st.length by omega)
    rw [Int.toNat_natCast] at hx
    rw [ht] at hh
    generalize hI : ((i + 1 : Nat) : Int) = I at w4 hx
    by_cases hjt : a + j < t
    · have w6 := wadd (a + j) (by omega)
      have e1 := hz.idx (P := Try.prog) (t := 22) (k := .i64) (i := ((a + j : Nat) : Int)) (by simp) (by omega) (by omega)
      have e2 := hw.idx (P := Try.prog) (t := 23) (k := .i64) (i := ((a + j : Nat) : Int)) (by simp) (by omega) (by omega)
      have n1 := fun X => (hz2 X).nth (P := Try.prog) (e := 2) (by simp) (show a + j < co.length by omega)
      have n2 := fun X => (hw2 X).nth (P := Try.prog) (e := 26) (by simp) (show a + j < va.length by omega)
      rw [Int.toNat_natCast] at e1 e2
      have hck := h.cols (nth co (a + j)) (nth_mem (by omega))
      have hJt : ((a + j : Nat) : Int) < t := by omega
      have hcl := hg G hFG hGg ((List.range j).foldl (fun b j => f b (nth co (a + j)) (nth va (a + j))) b) (nth co (a + j)) (nth va (a + j)) (by omega) (by omega)
      generalize hJ : ((a + j : Nat) : Int) = J at g6 w6 e1 e2 hJt
      simp at hcl
      simp [g1, g2, g3, g6, hc, w4, hx, hh, hJt, e1, e2, n1, n2]
      refine hcl.on ?_
      simp [w6]
      refine ⟨by omega, by omega, ?_⟩
      rw [foldl_range_succ]
    · have hJt : ¬ ((a + j : Nat) : Int) < t := by omega
      generalize hJ : ((a + j : Nat) : Int) = J at g6 hJt
      have ej : j = t - a := by omega
      simp [g1, g2, g3, g6, hc, w4, hx, hh, hJt]
      have : rowFold st co va i f b = (List.range j).foldl (fun b j => f b (nth co (a + j)) (nth va (a + j))) b := by
        unfold rowFold
        rw [ha, ht, ej]; simp
      rw [this]
      exact ⟨_, hend _, .mk _ _⟩
end
end Go.Ab
