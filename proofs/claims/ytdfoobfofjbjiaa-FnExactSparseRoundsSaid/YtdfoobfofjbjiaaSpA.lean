/- The laws' own helpers: copies, sizes, comparisons, marks. -/
import Derived.Test.YtdfoobfofjbjiaaTy
import Derived.Test.YtdfoobfofjbjiaaFt
import Derived.Test.YtdfoobfofjbjiaaAbExt
set_option linter.unusedSimpArgs false
set_option linter.unusedVariables false
namespace Go.Ab
open Go.Proofs
set_option maxRecDepth 100000

section
variable {x y : AV} {xs ys : List Nat} {ns ms : List Int} {H : AHeap}
theorem toFloat32S_ok (h : Sl H f32 x xs) (hl : xs.length ≤ 1048576) : ACalls Try.prog 10 [x] H (RetOwn f32 xs H) := by
  refine call_in Try.ft10 hmix Try.func10 (by kernel_rfl) ?_
  simp [Try.f10, Try.ft10, h.len, aMake (show xs.length ≤ 1073741824 by omega)]
  intro id hid
  refine AW_for xs.length (fun k fr H' => fr 0 = x ∧ fr 3 = ownS id xs.length ∧ fr 4 = i64 k ∧ H' = own f32 id (mk xs.length fun i => if i < k then nth xs i else 0) H) ?_ ?_
  · simp [own, mk_const]
  · rintro k fr H' hk ⟨g0, g3, g4, rfl⟩
    have hx := h.mono (own_le (f := f32) (xs := mk xs.length fun i => if i < k then nth xs i else 0) hid)
    by_cases hlt : k < xs.length
    · simp [-aStore_R, g0, g3, g4, hx.len, hlt, hx.idx, hx.nth, own_idxN]
      rw [own_store (f := f32) (by simp) rfl rfl (by simpa using hlt), mk_step hlt]
      simp [wadd k (by omega)]
    · simp [g0, g3, g4, hx.len, hlt]
      exact .mk hid rfl (by rw [mk_end (by omega), mk_nth])
theorem toInt64S_ok (h : Sl H i64 x ns) (hl : ns.length ≤ 1048576) : ACalls Try.prog 84 [x] H (RetOwn i64 ns H) := by
  refine call_in Try.ft84 hmix Try.func84 (by kernel_rfl) ?_
  simp [Try.f84, Try.ft84, h.len, aMake (show ns.length ≤ 1073741824 by omega)]
  intro id hid
  refine AW_for ns.length (fun k fr H' => fr 0 = x ∧ fr 3 = ownS id ns.length ∧ fr 4 = i64 k ∧ H' = own i64 id (mk ns.length fun i => if i < k then nth ns i else 0) H) ?_ ?_
  · simp [own, mk_const]
  · rintro k fr H' hk ⟨g0, g3, g4, rfl⟩
    have hx := h.mono (own_le (f := i64) (xs := mk ns.length fun i => if i < k then nth ns i else 0) hid)
    by_cases hlt : k < ns.length
    · simp [-aStore_R, g0, g3, g4, hx.len, hlt, hx.idx, hx.nth, own_idxN]
      rw [own_store (f := i64) (by simp) rfl rfl (by simpa using hlt), mk_step hlt]
      simp [wadd k (by omega)]
    · simp [g0, g3, g4, hx.len, hlt]
      exact .mk hid rfl (by rw [mk_end (by omega), mk_nth])

/-- What is left of a size, or -1. -/
def sz (l n : Int) : Int := if l - n < 0 then -1 else l - n
theorem szFloat32S_ok (h : Sl H f32 x xs) (hl : xs.length ≤ 9223372036854775807) (l : Int) (h0 : 0 ≤ l) (h1 : l ≤ 1048576) : ACalls Try.prog 75 [x, i64 l] H (Ret (i64 (sz l xs.length)) H) := by
  have hw : IntKind.i64.wrap (l - xs.length) = l - xs.length := win (by omega)
  refine call_in Try.ft75 hmix Try.func75 (by kernel_rfl) ?_
  by_cases hc : l - (xs.length : Int) < 0
  · simp [Try.f75, Try.ft75, h.len, hw, hc]; rw [sz, if_pos hc]; exact .mk _ _
  · simp [Try.f75, Try.ft75, h.len, hw, hc]; rw [sz, if_neg hc]; exact .mk _ _
theorem szInt64S_ok (h : Sl H i64 x ns) (hl : ns.length ≤ 9223372036854775807) (l : Int) (h0 : 0 ≤ l) (h1 : l ≤ 1048576) : ACalls Try.prog 74 [x, i64 l] H (Ret (i64 (sz l ns.length)) H) := by
  have hw : IntKind.i64.wrap (l - ns.length) = l - ns.length := win (by omega)
  refine call_in Try.ft74 hmix Try.func74 (by kernel_rfl) ?_
  by_cases hc : l - (ns.length : Int) < 0
  · simp [Try.f74, Try.ft74, h.len, hw, hc]; rw [sz, if_pos hc]; exact .mk _ _
  · simp [Try.f74, Try.ft74, h.len, hw, hc]; rw [sz, if_neg hc]; exact .mk _ _

/-- Numbers of 64 bits are the same. -/
theorem sameFloat_ok (b : Nat) : ACalls Try.prog 96 [f64 b, f64 b] H (Ret (.bool true) H) := by
  refine call_in Try.ft96 hmix Try.func96 (by kernel_rfl) ?_
  have h1 := eqF_self .f64 b
  cases hn : isNaNF .f64 b
  · rw [hn] at h1
    cases h0 : eqF .f64 b 0
    · simp [Try.f96, Try.ft96, h1, h0, canon_zero]; exact .mk _ _
    · simp [Try.f96, Try.ft96, h1, h0, canon_zero]; exact .mk _ _
  · rw [hn] at h1
    simp [Try.f96, Try.ft96, h1]; exact .mk _ _
theorem eqFloat32S_ok (h : Sl H f32 x xs) (h' : Sl H f32 y xs) (hl : xs.length ≤ 140737488355328) : ACalls Try.prog 12 [x, y] H (Ret (.bool true) H) := by
  refine call_in Try.ft12 hmix Try.func12 (by kernel_rfl) ?_
  simp [Try.f12, Try.ft12, h.len, h'.len]
  refine AW_for xs.length (fun k fr H' => fr 0 = x ∧ fr 1 = y ∧ fr 5 = i64 k ∧ H' = H) ?_ ?_
  · simp
  · rintro k fr H' hk ⟨g0, g1, g5, rfl⟩
    by_cases hlt : k < xs.length
    · simp [g0, g1, g5, h.len, hlt, h.idx, h.nth, h'.idx, h'.nth]
      refine .on (sameFloat_ok _) ?_
      simp [wadd k (by omega)]
    · simp [g0, g1, g5, h.len, hlt]; exact .mk _ _
theorem eqInt64S_ok (h : Sl H i64 x ns) (h' : Sl H i64 y ns) (hl : ns.length ≤ 140737488355328) : ACalls Try.prog 97 [x, y] H (Ret (.bool true) H) := by
  refine call_in Try.ft97 hmix Try.func97 (by kernel_rfl) ?_
  simp [Try.f97, Try.ft97, h.len, h'.len]
  refine AW_for ns.length (fun k fr H' => fr 0 = x ∧ fr 1 = y ∧ fr 5 = i64 k ∧ H' = H) ?_ ?_
  · simp
  · rintro k fr H' hk ⟨g0, g1, g5, rfl⟩
    by_cases hlt : k < ns.length
    · simp [g0, g1, g5, h.len, hlt, h.idx, h.nth, h'.idx, h'.nth]
      simp [wadd k (by omega)]
    · simp [g0, g1, g5, h.len, hlt]; exact .mk _ _

/-- Marks that are laid, from k on. -/
def marks (k : Int) (n : Nat) : List Nat := mk n fun i => ofIntF .f32 (k + i)
theorem markFloat32S_ok {id n : Nat} (hid : H id = none) (hn : xs.length = n) (hl : n ≤ 1048576) (k0 : Int) (h0 : 0 ≤ k0) (h1 : k0 ≤ 4611686018427387) :
    ACalls Try.prog 15 [ownS id n, i64 k0] (own f32 id xs H) (Ret (i64 (k0 + n)) (own f32 id (marks k0 n) H)) := by
  refine call_in Try.ft15 hmix Try.func15 (by kernel_rfl) ?_
  simp [Try.f15, Try.ft15]
  refine AW_for n (fun k fr H' => fr 0 = ownS id n ∧ fr 1 = i64 (k0 + (k : Nat)) ∧ fr 5 = i64 k ∧ H' = own f32 id (mk n fun i => if i < k then ofIntF .f32 (k0 + (i : Nat)) else nth xs i) H) ?_ ?_
  · simp; rw [mk_nth' hn.symm]
  · rintro k fr H' hk ⟨g0, g1, g5, rfl⟩
    have hw : IntKind.i64.wrap (k0 + k + 1) = k0 + (k + 1) := by rw [win (by omega)]; omega
    have hx := own_sl' (f := f32) (id := id) (H := H) (n := n) (xs := mk n fun i => if i < k then ofIntF .f32 (k0 + (i : Nat)) else nth xs i) (some n) (by simp)
    by_cases hlt : k < n
    · simp [-aStore_R, g0, g1, g5, hlt, hx.len, own_idxN]
      rw [own_store (f := f32) (by simp) rfl rfl (by simpa using hlt), mk_step (g := fun i => ofIntF .f32 (k0 + (i : Nat))) hlt]
      simp [wadd k (by omega), hw]
    · have : k = n := by omega
      subst this
      simp [g0, g1, g5, hlt, hx.len]
      rw [mk_end (Nat.le_refl _)]; exact .mk _ _
theorem markInt64S_ok {id n : Nat} (hid : H id = none) (hn : ns.length = n) (hl : n ≤ 1048576) (k0 : Int) (h0 : 0 ≤ k0) (h1 : k0 ≤ 4611686018427387) :
    ACalls Try.prog 98 [ownS id n, i64 k0] (own i64 id ns H) (Ret (i64 (k0 + n)) (own i64 id (mk n fun i => k0 + i) H)) := by
  refine call_in Try.ft98 hmix Try.func98 (by kernel_rfl) ?_
  simp [Try.f98, Try.ft98]
  refine AW_for n (fun k fr H' => fr 0 = ownS id n ∧ fr 1 = i64 (k0 + (k : Nat)) ∧ fr 5 = i64 k ∧ H' = own i64 id (mk n fun i => if i < k then k0 + (i : Nat) else nth ns i) H) ?_ ?_
  · simp; rw [mk_nth' hn.symm]
  · rintro k fr H' hk ⟨g0, g1, g5, rfl⟩
    have hw : IntKind.i64.wrap (k0 + k + 1) = k0 + (k + 1) := by rw [win (by omega)]; omega
    have hw' : IntKind.i64.wrap (k0 + k) = k0 + k := win (by omega)
    have hx := own_sl' (f := i64) (id := id) (H := H) (n := n) (xs := mk n fun i => if i < k then k0 + (i : Nat) else nth ns i) (some n) (by simp)
    by_cases hlt : k < n
    · simp [-aStore_R, g0, g1, g5, hlt, hx.len, own_idxN, hw']
      rw [own_store (f := i64) (by simp) rfl rfl (by simpa using hlt), mk_step (g := fun i => k0 + (i : Nat)) hlt]
      simp [wadd k (by omega), hw]
    · have : k = n := by omega
      subst this
      simp [g0, g1, g5, hlt, hx.len]
      rw [mk_end (Nat.le_refl _)]; exact .mk _ _
theorem heldFloat32S_ok {n : Nat} (k0 : Int) (h : Sl H f32 x (marks k0 n)) (hl : n ≤ 1048576) (h0 : 0 ≤ k0) (h1 : k0 ≤ 4611686018427387) :
    ACalls Try.prog 16 [x, i64 k0] H (Ret (i64 (k0 + n)) H) := by
  have hml : (marks k0 n).length = n := by simp [marks]
  refine call_in Try.ft16 hmix Try.func16 (by kernel_rfl) ?_
  simp [Try.f16, Try.ft16]
  refine AW_for n (fun k fr H' => fr 0 = x ∧ fr 1 = i64 (k0 + (k : Nat)) ∧ fr 5 = i64 k ∧ H' = H) ?_ ?_
  · simp
  · rintro k fr H' hk ⟨g0, g1, g5, rfl⟩
    have hw : IntKind.i64.wrap (k0 + k + 1) = k0 + (k + 1) := by rw [win (by omega)]; omega
    by_cases hlt : k < n
    · have e : nth (marks k0 n) k = ofIntF .f32 (k0 + k) := nth_mk hlt
      simp [g0, g1, g5, hlt, h.len, h.idx, h.nth, hml, e, eqF_self, ofInt_notNaN, wadd k (by omega), hw]
    · have : k = n := by omega
      subst this
      simp [g0, g1, g5, hlt, h.len, hml]; exact .mk _ _
end
end Go.Ab
