/- The full square of a sparse one. -/
import Derived.Test.YtdfoobfofjbjiaaSpI
set_option linter.unusedSimpArgs false
set_option linter.unusedVariables false
namespace Go.Ab
open Go.Proofs
set_option maxRecDepth 100000

abbrev fB (b : Bool) : AV := .bool b
theorem own_comm {α β : Type} {f : α → AV} {g : β → AV} {i j : Nat} (h : i ≠ j) (xs : List α) (ys : List β) (H : AHeap) : own f i xs (own g j ys H) = own g j ys (own f i xs H) := AHeap.set_comm _ _ _ (Ne.symm h)
theorem own_store2 {α β : Type} {P : Program} {f : α → AV} {g : β → AV} {id jd : Nat} {xs : List α} {ys : List β} {H : AHeap} {t : TypeId} {i : Nat} {a : α} (hne : id ≠ jd) (ht : tSize P t = some 1) (hc : (f a).cells = some [f a]) (ho : (f a).one = true) (hi : i < xs.length) :
    aStore P t (.ptrR id i) (f a) (own g jd ys (own f id xs H)) = some (own g jd ys (own f id (xs.set i a) H)) := by
  rw [own_comm (Ne.symm hne), own_store ht hc ho hi, own_comm hne]

/-- A full square: which places are told, and the numbers. -/
abbrev Full := List Bool × List Nat
def fullAt (n i : Nat) (S : Full) (c : Int) (v : Nat) : Full := (S.1.set (i * n + c.toNat) true, S.2.set (i * n + c.toNat) v)
def blankF (n : Nat) : Full := (List.replicate (n * n) false, List.replicate (n * n) 0)
def openF (st co : List Int) (va : List Nat) (n k : Nat) : Full := (List.range k).foldl (fun S i => rowFold st co va i (fullAt n i) S) (blankF n)
abbrev heapF (idt idn : Nat) (S : Full) (H : AHeap) : AHeap := own f32 idn S.2 (own fB idt S.1 H)
def FullOK (n : Nat) (S : Full) : Prop := S.1.length = n * n ∧ S.2.length = n * n
theorem FullOK.at {n i : Nat} {S : Full} (h : FullOK n S) (c : Int) (v : Nat) : FullOK n (fullAt n i S c v) := ⟨by simp [fullAt, h.1], by simp [fullAt, h.2]⟩
theorem foldl_inv {α β : Type} {p : β → Prop} {f : β → α → β} (hf : ∀ b a, p b → p (f b a)) : ∀ (l : List α) (b : β), p b → p (l.foldl f b)
  | [], _, h => h
  | a :: l, b, h => foldl_inv hf l _ (hf b a h)
theorem rowFold_inv {β : Type} {p : β → Prop} {f : β → Int → Nat → β} (hf : ∀ b c v, p b → p (f b c v)) (st co : List Int) (va : List Nat) (i : Nat) (b : β) (h : p b) : p (rowFold st co va i f b) :=
  foldl_inv (fun b j => hf b _ _) _ _ h
theorem openF_ok (st co : List Int) (va : List Nat) (n k : Nat) : FullOK n (openF st co va n k) :=
  foldl_inv (fun S i h => rowFold_inv (fun S c v h => h.at c v) st co va i S h) _ _ ⟨by simp [blankF], by simp [blankF]⟩

section
variable {st co : List Int} {va xs ys bs : List Nat} {x y z w : AV} {H : AHeap} {ida n : Nat}
/-- A new full square. -/
def RetFull (n : Nat) (S : Full) (H : AHeap) : AV → AHeap → Prop := fun v H' => ∃ idt idn, H idt = none ∧ H idn = none ∧ idt ≠ idn ∧ v = .agg [i64 n, ownS idt (n * n), ownS idn (n * n)] ∧ H' = heapF idt idn S H

theorem l05Blank_ok (hn : n ≤ 1000) : ACalls Try.prog 102 [i64 n] H (RetFull n (blankF n) H) := by
  have h2 : n * n ≤ 1000 * 1000 := Nat.mul_le_mul hn hn
  have e : (n : Int) * n = ((n * n : Nat) : Int) := by simp
  have hw : IntKind.i64.wrap (((n * n : Nat)) : Int) = ((n * n : Nat) : Int) := win (by omega)
  refine fun_in Try.ft102 hmix Try.func102 (by kernel_rfl) ?_
  generalize hN : n * n = N at h2 e hw
  simp [Try.f102, Try.ft102, e, hw, aMake (show N ≤ 1073741824 by omega)]
  intro id2 h2' idt ht idn hnn
  obtain ⟨nt2, ht⟩ := AHeap.set_none_of ht
  obtain ⟨nnt, hnn⟩ := AHeap.set_none_of hnn
  obtain ⟨nn2, hnn⟩ := AHeap.set_none_of hnn
  simp [Ne.symm nt2, Ne.symm nn2]
  refine ⟨heapF idt idn (blankF n) H, ?_, idt, idn, ht, hnn, Ne.symm nnt, by rw [hN], rfl⟩
  intro j b hj
  unfold heapF own blankF at hj
  simp only [AHeap.set_apply] at hj ⊢
  by_cases e1 : j = idn
  · subst e1
    rw [if_pos rfl] at hj
    rw [if_neg nn2, if_pos rfl]
    rw [← hj]; simp [hN]
  · rw [if_neg e1] at hj
    by_cases e3 : j = idt
    · subst e3
      rw [if_pos rfl] at hj
      rw [if_neg nt2, if_neg e1, if_pos rfl, ← hj]; simp [hN]
    · rw [if_neg e3] at hj
      have : j ≠ id2 := by rintro rfl; rw [h2'] at hj; cases hj
      rw [if_neg this, if_neg e1, if_neg e3]
      first | exact hj | (rw [if_neg this]; exact hj)

theorem at_lt {i c n : Nat} (hi : i < n) (hc : c < n) : i * n + c < n * n := by
  have : (i + 1) * n ≤ n * n := Nat.mul_le_mul_right _ hi
  rw [Nat.add_mul] at this; omega

set_option maxHeartbeats 2000000 in
theorem l05Open_ok (h : Valid n st co va) (hc : cellsAt H ida = some [i64 n, y, z, w]) (hy : Sl H i64 y st) (hz : Sl H i64 z co) (hw : Sl H f32 w va) :
    ACalls Try.prog 79 [.ptrR ida 0] H (RetFull n (openF st co va n n) H) := by
  have hs1 := h.s1
  have hs2 := h.s2
  have hl := h.len
  have hco := h.few
  have hva := h.vals
  refine fun_in Try.ft79 hmix Try.func79 (by kernel_rfl) ?_
  simp [Try.f79, Try.ft79]
  intro id2 h2
  have n2a : ida ≠ id2 := by rintro rfl; unfold cellsAt at hc; rw [h2] at hc; cases hc
  simp [n2a, hc]
  refine (l05Blank_ok (by omega)).mono ?_
  rintro _ _ ⟨idt, idn, ht, hn, hne, rfl, rfl⟩
  obtain ⟨nt2, ht⟩ := AHeap.set_none_of ht
  obtain ⟨nn2, hn⟩ := AHeap.set_none_of hn
  simp
  intro id3 h3
  obtain ⟨n3n, h3⟩ := AHeap.set_none_of (H := own fB idt (blankF n).1 (H.set id2 _)) h3
  obtain ⟨n3t, h3⟩ := AHeap.set_none_of (H := H.set id2 _) h3
  obtain ⟨n32, h3⟩ := AHeap.set_none_of h3
  have hswap : ∀ (S : Full) (G : AHeap) (b : Option Blk), (heapF idt idn S G).set id3 b = heapF idt idn S (G.set id3 b) := by
    intro S G b
    unfold heapF own
    rw [AHeap.set_comm _ _ _ (Ne.symm n3n), AHeap.set_comm _ _ _ (Ne.symm n3t)]
  have htn : ∀ b : Option Blk, (((H.set id2 b).set id3 (some (.cells [i64 n, ownS idt (n * n), ownS idn (n * n)]))) idt = none) := fun b => by rw [AHeap.set_ne _ _ (Ne.symm n3t), AHeap.set_ne _ _ nt2]; exact ht
  have hnn : ∀ b : Option Blk, (((H.set id2 b).set id3 (some (.cells [i64 n, ownS idt (n * n), ownS idn (n * n)]))) idn = none) := fun b => by rw [AHeap.set_ne _ _ (Ne.symm n3n), AHeap.set_ne _ _ nn2]; exact hn
  have hle : ∀ b : Option Blk, H.le ((H.set id2 b).set id3 (some (.cells [i64 n, ownS idt (n * n), ownS idn (n * n)]))) := fun b => AHeap.le_set _ (AHeap.le_set _ (AHeap.le_refl _) h2) h3
  have c3 : ∀ b : Option Blk, cellsAt ((H.set id2 b).set id3 (some (.cells [i64 n, ownS idt (n * n), ownS idn (n * n)]))) id3 = some [i64 n, ownS idt (n * n), ownS idn (n * n)] := fun b => cellsAt_same _
  have c2 : ∀ b : Blk, ((H.set id2 (some b)).set id3 (some (.cells [i64 n, ownS idt (n * n), ownS idn (n * n)]))) id2 = some b := fun b => by rw [AHeap.set_ne _ _ (Ne.symm n32), AHeap.set_same]
  rw [hswap]
  refine AW_for n (fun k fr H' => fr 0 = .ptrR ida 0 ∧ fr 2 = .ptrR id2 0 ∧ fr 3 = .ptrR id3 0 ∧ fr 4 = i64 k ∧ ∃ G, H.le G ∧ G idt = none ∧ G idn = none ∧ cellsAt G id3 = some [i64 n, ownS idt (n * n), ownS idn (n * n)] ∧ (∃ b, cellsAt G id2 = some [b, .nilslice, .nilslice]) ∧ H' = heapF idt idn (openF st co va n k) G) ?_ ?_
  · simp
    exact ⟨_, hle _, htn _, hnn _, c3 _, ⟨_, cellsAt_of (c2 _)⟩, rfl⟩
  · rintro k fr H' hk ⟨g0, g2, g3, g4, G, hG, hGt, hGn, q3, ⟨b2, q2⟩, rfl⟩
    have nat : ida ≠ idt := by rintro rfl; have := cellsAt_le hc hG; unfold cellsAt at this; rw [hGt] at this; cases this
    have nan : ida ≠ idn := by rintro rfl; have := cellsAt_le hc hG; unfold cellsAt at this; rw [hGn] at this; cases this
    have hGo : ∀ (A : List Bool) (B : List Nat), G.le (own f32 idn B (own fB idt A G)) := fun A B => AHeap.le_set _ (AHeap.le_set _ (AHeap.le_refl _) hGt) hGn
    have d0 : ∀ (A : List Bool) (B : List Nat), cellsAt (own f32 idn B (own fB idt A G)) ida = some [i64 n, y, z, w] := fun A B => cellsAt_le hc (AHeap.le_trans hG (hGo A B))
    have d3 : ∀ (A : List Bool) (B : List Nat), cellsAt (own f32 idn B (own fB idt A G)) id3 = some [i64 n, ownS idt (n * n), ownS idn (n * n)] := fun A B => cellsAt_le q3 (hGo A B)
    have d2 : ∀ (A : List Bool) (B : List Nat), cellsAt (own f32 idn B (own fB idt A G)) id2 = some [b2, .nilslice, .nilslice] := fun A B => cellsAt_le q2 (hGo A B)
    have hy2 := fun (A : List Bool) (B : List Nat) => (hy.mono hG).mono (hGo A B)
    have hz2 := fun (A : List Bool) (B : List Nat) => (hz.mono hG).mono (hGo A B)
    have hw2 := fun (A : List Bool) (B : List Nat) => (hw.mono hG).mono (hGo A B)
    by_cases hlt : k < n
    · have b1 := h.bounds (i := k) (by omega)
      have b2 := h.bounds (i := k + 1) (by omega)
      have b3 := h.step (i := k) (by omega)
      obtain ⟨a, ha⟩ : ∃ a : Nat, nth st k = a := ⟨(nth st k).toNat, by omega⟩
      obtain ⟨t, ht⟩ : ∃ t : Nat, nth st (k + 1) = t := ⟨(nth st (k + 1)).toNat, by omega⟩
      simp [g0, g2, g3, g4, d0, hlt, hy.idx, (hy2 _ _).nth, show k < st.length by omega, show (k : Int) < st.length by omega, ha]
      have hS0 := openF_ok st co va n k
      have hend : openF st co va n (k + 1) = rowFold st co va k (fullAt n k) (openF st co va n k) := foldl_range_succ _ _ _
      have hrow : rowFold st co va k (fullAt n k) (openF st co va n k) = (List.range (t - a)).foldl (fun S j => fullAt n k S (nth co (a + j)) (nth va (a + j))) (openF st co va n k) := by
        unfold rowFold; rw [ha, ht]; simp
      generalize openF st co va n k = S0 at hS0 hend hrow ⊢
      refine AW_for (t - a) (fun j fr H2 => fr 0 = .ptrR ida 0 ∧ fr 2 = .ptrR id2 0 ∧ fr 3 = .ptrR id3 0 ∧ fr 4 = i64 k ∧ fr 5 = i64 ((a + j : Nat) : Int) ∧
        H2 = heapF idt idn ((List.range j).foldl (fun S j => fullAt n k S (nth co (a + j)) (nth va (a + j))) S0) G) ?_ ?_
      · simp
      · rintro j fr H2 hj ⟨g0, g2, g3, g4, g5, rfl⟩
        have w4 : IntKind.i64.wrap ((k : Int) + 1) = ((k + 1 : Nat) : Int) := by rw [wadd k (by omega)]; omega
        have hx' := hy.idx (P := Try.prog) (t := 22) (k := .i64) (i := ((k + 1 : Nat) : Int)) (by simp) (by omega) (by omega)
        have hh := fun A B => (hy2 A B).nth (P := Try.prog) (e := 2) (by simp) (show k + 1 < st.length by omega)
        rw [Int.toNat_natCast] at hx'
        rw [ht] at hh
        generalize hI : ((k + 1 : Nat) : Int) = I at w4 hx'
        have hSj : FullOK n ((List.range j).foldl (fun S j => fullAt n k S (nth co (a + j)) (nth va (a + j))) S0) := foldl_inv (fun S j h => h.at _ _) _ _ hS0
        have hnext : (List.range (j + 1)).foldl (fun S j => fullAt n k S (nth co (a + j)) (nth va (a + j))) S0 = fullAt n k ((List.range j).foldl (fun S j => fullAt n k S (nth co (a + j)) (nth va (a + j))) S0) (nth co (a + j)) (nth va (a + j)) := foldl_range_succ _ _ _
        by_cases hjt : a + j < t
        · have w6 := wadd (a + j) (by omega)
          have e1 := hz.idx (P := Try.prog) (t := 22) (k := .i64) (i := ((a + j : Nat) : Int)) (by simp) (by omega) (by omega)
          have e2 := hw.idx (P := Try.prog) (t := 23) (k := .i64) (i := ((a + j : Nat) : Int)) (by simp) (by omega) (by omega)
          have n1 := fun A B => (hz2 A B).nth (P := Try.prog) (e := 2) (by simp) (show a + j < co.length by omega)
          have n2 := fun A B => (hw2 A B).nth (P := Try.prog) (e := 26) (by simp) (show a + j < va.length by omega)
          rw [Int.toNat_natCast] at e1 e2
          have hck := h.cols (nth co (a + j)) (nth_mem (by omega))
          obtain ⟨c, hcc⟩ : ∃ c : Nat, nth co (a + j) = c := ⟨(nth co (a + j)).toNat, by omega⟩
          have hcn : c < n := by omega
          have hat := at_lt hlt hcn
          have hnn1 : n * n ≤ 32 * 32 := Nat.mul_le_mul (by omega) (by omega)
          have hkn : k * n ≤ 32 * 32 := Nat.mul_le_mul (by omega) (by omega)
          have w7 : IntKind.i64.wrap ((k : Int) * n) = ((k * n : Nat) : Int) := by rw [show (k : Int) * n = ((k * n : Nat) : Int) by simp]; exact win (by omega)
          have w8 : IntKind.i64.wrap (((k * n : Nat) : Int) + c) = ((k * n + c : Nat) : Int) := by rw [win (by omega)]; omega
          have hnext2 : ∀ S : Full, fullAt n k S (nth co (a + j)) (nth va (a + j)) = (S.1.set (k * n + c) true, S.2.set (k * n + c) (nth va (a + j))) := fun S => by simp [fullAt, hcc]
          rw [hnext2] at hnext
          rw [hcc] at n1
          have hJt : ((a + j : Nat) : Int) < t := by omega
          obtain ⟨hS1, hS2⟩ := hSj
          generalize (List.range j).foldl (fun S j => fullAt n k S (nth co (a + j)) (nth va (a + j))) S0 = S at hS1 hS2 hnext ⊢
          generalize hJ : ((a + j : Nat) : Int) = J at g5 w6 e1 e2 hJt
          generalize hKN : k * n = KN at w7 w8 hat hnext
          generalize hP : KN + c = p at w8 hat hnext
          generalize hNN : n * n = NN at *
          simp [-aStore_R, g0, g2, g3, g4, g5, d0, d3, w4, hx', hh, hJt, e1, n1, w7, w8, own_idxN, hat]
          rw [own_store2 (f := fB) hne (by simp) rfl rfl (by rw [hS1]; exact hat)]
          simp [-aStore_R, d0, d3, e1, e2, n1, n2, w6, w7, w8, own_idxN, hat]
          rw [own_store (f := f32) (by simp) rfl rfl (by rw [hS2]; exact hat)]
          simp [w6]
          exact ⟨by omega, by omega, by rw [hnext]⟩
        · have hJt : ¬ ((a + j : Nat) : Int) < t := by omega
          generalize hJ : ((a + j : Nat) : Int) = J at g5 hJt
          have ej : j = t - a := by omega
          simp [g0, g2, g3, g4, g5, d0, w4, hx', hh, hJt]
          refine ⟨by omega, G, hG, hGt, hGn, q3, ⟨_, q2⟩, ?_⟩
          rw [hend, hrow, ej]
    · have ek : n = k := by omega
      subst ek
      simp [g0, g2, g3, g4, d0, hlt, d3, d2]
      refine ⟨heapF idt idn (openF st co va n n) H, ?_, idt, idn, ht, hn, hne, rfl, rfl⟩
      have h2H : ∀ X Y, own f32 idn X (own fB idt Y H) id2 = none := fun X Y => by unfold own; rw [AHeap.set_ne _ _ (Ne.symm nn2), AHeap.set_ne _ _ (Ne.symm nt2)]; exact h2
      intro i b hi
      have hi2 : i ≠ id2 := by rintro rfl; unfold heapF at hi; rw [h2H] at hi; cases hi
      rw [AHeap.set_ne _ _ hi2]
      unfold heapF own at hi ⊢
      simp only [AHeap.set_apply] at hi ⊢
      split at hi
      · rename_i e; rw [if_pos e]; exact hi
      · rename_i e; rw [if_neg e]
        split at hi
        · rename_i e; rw [if_pos e]; exact hi
        · rename_i e; rw [if_neg e]; exact hG _ _ hi
end
end Go.Ab
