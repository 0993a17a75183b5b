/- Slices as lists: rules for the walk. -/
import Derived.Test.YtdfoobfofjbjiaaAbSimp
set_option linter.unusedSimpArgs false
set_option linter.unusedVariables false
namespace Go.Ab

abbrev f32 (b : Nat) : AV := .float .f32 b
abbrev f64 (b : Nat) : AV := .float .f64 b
abbrev i64 (n : Int) : AV := .int .i64 n
abbrev u64 (n : Int) : AV := .int .u64 n
def u8 (b : UInt8) : AV := .int .u8 b.toNat

def noHeap : AHeap := fun _ => none

def elemPtr (es : Nat) : AV → Nat → AV
  | .sliceI xs _ _, i => .ptrI xs (i * es)
  | .sliceR id off _ _ _, i => .ptrR id (off + i * es)
  | _, _ => .junk

/-- A slice of elements of one cell reads as a list. -/
def Sl {α : Type} (H : AHeap) (f : α → AV) (x : AV) (xs : List α) : Prop := elemsOf H 1 x = some (xs.map f, xs.length) ∧ (isNilSlice x).isSome = true

section
variable {P : Program} {H : AHeap} {α : Type} {f : α → AV} {x : AV} {xs : List α}

theorem Sl.len (h : Sl H f x xs) {t : TypeId} (ht : isSliceT P t = true) : aLen P #[t] x H = some (.int .i64 (xs.length : Nat)) := by
  obtain ⟨h1, h2⟩ := h
  cases x <;> simp [isNilSlice] at h2
  · simp only [elemsOf] at h1
    split at h1
    · have := congrArg (fun o : Option (List AV × Nat) => o.map Prod.snd) h1
      simp at this
      simp [aLen, ht, this]
    · cases h1
  · simp only [elemsOf] at h1
    split at h1
    · split at h1
      · have := congrArg (fun o : Option (List AV × Nat) => o.map Prod.snd) h1
        simp at this
        simp [aLen, ht, this]
      · cases h1
    · cases h1
  · simp only [elemsOf, Option.some.injEq, Prod.mk.injEq] at h1
    simp [aLen, ht, ← h1.2]

theorem Sl.idx (h : Sl H f x xs) {t : TypeId} {k : IntKind} {i : Int} (ht : (tElem P t).bind (tSize P) = some 1) (h0 : 0 ≤ i) (hi : i < (xs.length : Nat)) :
    aIndexAddr P t x (.int k i) = some (elemPtr 1 x i.toNat) := by
  obtain ⟨h1, h2⟩ := h
  obtain ⟨e, he, hs⟩ := Option.bind_eq_some_iff.1 ht
  have hs' : tSize P e = some (0 + 1) := hs
  cases x <;> simp [isNilSlice] at h2
  · rename_i cs len ck
    simp only [elemsOf] at h1
    split at h1
    · rename_i hl
      simp only [Option.some.injEq, Prod.mk.injEq] at h1
      obtain ⟨h3, h4⟩ := h1
      have hl' : cs.length = xs.length := by rw [h3]; simp
      simp only [aIndexAddr, he, hs', elemPtr]
      rw [if_pos ⟨h0, by omega, by omega⟩]
    · cases h1
  · rename_i id off len es ck
    simp only [elemsOf] at h1
    split at h1
    · rename_i ys hid
      split at h1
      · rename_i hh
        simp only [Option.some.injEq, Prod.mk.injEq] at h1
        obtain ⟨h3, h4⟩ := h1
        simp only [aIndexAddr, he, hs', elemPtr]
        rw [if_pos ⟨h0, by omega, hh.1⟩]
      · cases h1
    · cases h1
  · simp only [elemsOf, Option.some.injEq, Prod.mk.injEq] at h1
    omega

theorem Sl.load (h : Sl H f x xs) {e : TypeId} {i : Nat} (ha : tAgg P e = some false) (hi : i < xs.length) : aLoad P e (elemPtr 1 x i) H = some (f xs[i]) := by
  obtain ⟨h1, h2⟩ := h
  cases x <;> simp [isNilSlice] at h2
  · rename_i cs len ck
    simp only [elemsOf] at h1
    split at h1
    · simp only [Option.some.injEq, Prod.mk.injEq] at h1
      obtain ⟨h3, h4⟩ := h1
      simp only [elemPtr, aLoad, ptrCells, ha, h3, Nat.mul_one]
      simp [hi]
    · cases h1
  · rename_i id off len es ck
    simp only [elemsOf] at h1
    split at h1
    · rename_i ys hid
      split at h1
      · rename_i hh
        simp only [Option.some.injEq, Prod.mk.injEq] at h1
        obtain ⟨h3, h4⟩ := h1
        simp only [elemPtr, aLoad, ptrCells, hid, ha, Nat.mul_one]
        have h5 : ((ys.drop off).take (len * 1))[i]? = (xs.map f)[i]? := by rw [h3]
        rw [List.getElem?_take, if_pos (by omega), List.getElem?_drop] at h5
        rw [h5]; simp [hi]
      · cases h1
    · cases h1
  · simp only [elemsOf, Option.some.injEq, Prod.mk.injEq] at h1
    omega

theorem Sl.nil : Sl H f .nilslice [] := ⟨rfl, rfl⟩
theorem Sl.imm (xs : List α) (ck : Option Nat) : Sl H f (.sliceI (xs.map f) xs.length ck) xs := ⟨by simp [elemsOf], rfl⟩
theorem Sl.own {id : Nat} {ck : Option Nat} (h : H id = some (.cells (xs.map f))) : Sl H f (.sliceR id 0 xs.length 1 ck) xs := by
  refine ⟨?_, rfl⟩
  have : (xs.map f).take xs.length = xs.map f := List.take_of_length_le (by simp)
  simp [elemsOf, h, this]
theorem Sl.mono {H' : AHeap} (h : Sl H f x xs) (hle : H.le H') : Sl H' f x xs := by
  obtain ⟨h1, h2⟩ := h
  refine ⟨?_, h2⟩
  cases x <;> simp [isNilSlice] at h2
  · exact h1
  · simp only [elemsOf] at h1 ⊢
    split at h1
    · rename_i hid
      simp only [hle _ _ hid]
      exact h1
    · cases h1
  · exact h1
theorem Sl.set {id : Nat} {b : Option Blk} (h : Sl H f x xs) (hid : H id = none) : Sl (H.set id b) f x xs := h.mono (AHeap.le_set b (AHeap.le_refl H) hid)
end

/-! memory that the code owns -/
def cellsAt (H : AHeap) (id : Nat) : Option (List AV) :=
  match H id with
  | some (.cells xs) => some xs
  | _ => none
section
variable {P : Program} {H : AHeap} {id j : Nat}
@[simp] theorem cellsAt_same (xs : List AV) : cellsAt (H.set id (some (.cells xs))) id = some xs := by simp [cellsAt]
@[simp] theorem cellsAt_ne (b : Option Blk) (h : ¬ j = id) : cellsAt (H.set id b) j = cellsAt H j := by simp [cellsAt, AHeap.set_ne H b h]
theorem cellsAt_of {xs : List AV} (h : H id = some (.cells xs)) : cellsAt H id = some xs := by simp [cellsAt, h]
@[simp] theorem set_none_iff (b : Blk) : (H.set id (some b)) j = none ↔ ¬ j = id ∧ H j = none := by
  by_cases e : j = id
  · subst e; simp
  · simp [AHeap.set_ne H _ e, e]
theorem not_symm {i j : Nat} (h : ¬ i = j) : ¬ j = i := fun e => h e.symm

@[simp] theorem aLoad_R {t : TypeId} {off : Nat} (h : tAgg P t = some false) : aLoad P t (.ptrR id off) H = (cellsAt H id).bind (·[off]?) := by
  simp only [aLoad, ptrCells, h, cellsAt]
  cases H id with
  | none => rfl
  | some b => cases b <;> rfl
@[simp] theorem aLoad_RA {t : TypeId} {off : Nat} (h : tAgg P t = some true) : aLoad P t (.ptrR id off) H =
    (cellsAt H id).bind fun xs => (tSize P t).bind fun n => if off + n ≤ xs.length then some (.agg ((xs.drop off).take n)) else none := by
  simp only [aLoad, ptrCells, h, cellsAt]
  cases H id with
  | none => rfl
  | some b => cases b <;> first | rfl | (cases tSize P t <;> rfl)
@[simp] theorem aLoad_I {t : TypeId} {xs : List AV} {off : Nat} (h : tAgg P t = some false) : aLoad P t (.ptrI xs off) H = xs[off]? := by
  simp only [aLoad, ptrCells, h]
@[simp] theorem aLoad_IA {t : TypeId} {xs : List AV} {off : Nat} (h : tAgg P t = some true) : aLoad P t (.ptrI xs off) H =
    (tSize P t).bind fun n => if off + n ≤ xs.length then some (.agg ((xs.drop off).take n)) else none := by
  simp only [aLoad, ptrCells, h]
  cases tSize P t <;> rfl
@[simp] theorem aStore_R {t : TypeId} {v : AV} {off : Nat} : aStore P t (.ptrR id off) v H =
    (cellsAt H id).bind fun xs => v.cells.bind fun vs => (tSize P t).bind fun n => if vs.length = n ∧ off + n ≤ xs.length ∧ allOne vs = true then some (H.set id (some (.cells (putAt xs off vs)))) else none := by
  unfold aStore cellsAt
  cases v.cells with
  | none => cases H id with
    | none => rfl
    | some b => cases b <;> rfl
  | some vs =>
    cases tSize P t with
    | none => cases H id with
      | none => rfl
      | some b => cases b <;> rfl
    | some n =>
      show (match H id with
        | some (.cells xs) => if vs.length = n ∧ off + n ≤ xs.length ∧ allOne vs then some (H.set id (some (.cells (putAt xs off vs)))) else none
        | _ => none) = _
      generalize H id = o
      cases o with
      | none => rfl
      | some b => cases b <;> rfl
@[simp] theorem aFieldAddr_R {t : TypeId} {f off : Nat} : aFieldAddr P t (.ptrR id off) f = (tField P t f).map fun o => .ptrR id (off + o.1) := by
  unfold aFieldAddr
  cases tField P t f with
  | none => rfl
  | some o => rfl
@[simp] theorem aFieldAddr_I {t : TypeId} {f off : Nat} {xs : List AV} : aFieldAddr P t (.ptrI xs off) f = (tField P t f).map fun o => .ptrI xs (off + o.1) := by
  unfold aFieldAddr
  cases tField P t f with
  | none => rfl
  | some o => rfl
@[simp] theorem aField_agg {t : TypeId} {f : Nat} {xs : List AV} : aField P t (.agg xs) f = (tField P t f).bind fun o => aPart P o.2 xs o.1 := by
  unfold aField
  cases tField P t f with
  | none => rfl
  | some o => rfl
@[simp] theorem aPart_one {t : TypeId} {xs : List AV} {off : Nat} (h : tAgg P t = some false) : aPart P t xs off = xs[off]? := by simp only [aPart, h]
@[simp] theorem aPart_agg {t : TypeId} {xs : List AV} {off : Nat} (h : tAgg P t = some true) : aPart P t xs off =
    (tSize P t).bind fun n => if off + n ≤ xs.length then some (.agg ((xs.drop off).take n)) else none := by
  simp only [aPart, h]
  cases tSize P t <;> rfl
end
@[simp] theorem cells_bool (b : Bool) : AV.cells (.bool b) = some [.bool b] := rfl
@[simp] theorem cells_int (k : IntKind) (n : Int) : AV.cells (.int k n) = some [.int k n] := rfl
@[simp] theorem cells_float (k : FloatKind) (n : Nat) : AV.cells (.float k n) = some [.float k n] := rfl
@[simp] theorem cells_complex (k : FloatKind) (n m : Nat) : AV.cells (.complex k n m) = some [.complex k n m] := rfl
@[simp] theorem cells_string (s : List UInt8) : AV.cells (.string s) = some [.string s] := rfl
@[simp] theorem cells_agg (xs : List AV) : AV.cells (.agg xs) = some xs := rfl
@[simp] theorem cells_sliceI (xs : List AV) (n : Nat) (c : Option Nat) : AV.cells (.sliceI xs n c) = some [.sliceI xs n c] := rfl
@[simp] theorem cells_sliceR (i o n e : Nat) (c : Option Nat) : AV.cells (.sliceR i o n e c) = some [.sliceR i o n e c] := rfl
@[simp] theorem cells_nilslice : AV.cells .nilslice = some [.nilslice] := rfl
@[simp] theorem cells_ptrR (i o : Nat) : AV.cells (.ptrR i o) = some [.ptrR i o] := rfl
@[simp] theorem cells_ptrI (xs : List AV) (o : Nat) : AV.cells (.ptrI xs o) = some [.ptrI xs o] := rfl
@[simp] theorem cells_nilptr : AV.cells .nilptr = some [.nilptr] := rfl
@[simp] theorem cells_map (i : Nat) : AV.cells (.map i) = some [.map i] := rfl
@[simp] theorem cells_func (f : Fn) (xs ys : List AV) : AV.cells (.func f xs ys) = some [.func f xs ys] := rfl
@[simp] theorem one_bool (b : Bool) : AV.one (.bool b) = true := rfl
@[simp] theorem one_int (k : IntKind) (n : Int) : AV.one (.int k n) = true := rfl
@[simp] theorem one_float (k : FloatKind) (n : Nat) : AV.one (.float k n) = true := rfl
@[simp] theorem one_complex (k : FloatKind) (n m : Nat) : AV.one (.complex k n m) = true := rfl
@[simp] theorem one_string (s : List UInt8) : AV.one (.string s) = true := rfl
@[simp] theorem one_sliceI (xs : List AV) (n : Nat) (c : Option Nat) : AV.one (.sliceI xs n c) = true := rfl
@[simp] theorem one_sliceR (i o n e : Nat) (c : Option Nat) : AV.one (.sliceR i o n e c) = true := rfl
@[simp] theorem one_nilslice : AV.one .nilslice = true := rfl
@[simp] theorem one_ptrR (i o : Nat) : AV.one (.ptrR i o) = true := rfl
@[simp] theorem one_ptrI (xs : List AV) (o : Nat) : AV.one (.ptrI xs o) = true := rfl
@[simp] theorem one_nilptr : AV.one .nilptr = true := rfl
@[simp] theorem one_map (i : Nat) : AV.one (.map i) = true := rfl
@[simp] theorem one_func (f : Fn) (xs ys : List AV) : AV.one (.func f xs ys) = true := rfl
@[simp] theorem allOne_nil : allOne [] = true := rfl
@[simp] theorem allOne_cons (x : AV) (xs : List AV) : allOne (x :: xs) = (x.one && allOne xs) := rfl
@[simp] theorem putAt_nil (xs : List AV) (n : Nat) : putAt xs n [] = xs := rfl
@[simp] theorem putAt_cons (xs : List AV) (n : Nat) (v : AV) (vs : List AV) : putAt xs n (v :: vs) = putAt (xs.set n v) (n + 1) vs := rfl
/-! literals -/
attribute [simp] zeroRow_one
@[simp] theorem zeroRow_zero (zs : List AV) : zeroRow zs 0 = [] := rfl
section
variable {P : Program}
@[simp] theorem aBuild_eq (t : TypeId) (parts : List (Nat × AV)) : aBuild P t parts = (tPlaces P t).bind fun ps => (zeroCells P t).bind fun zs => (aFill (fun i => ps[i]?) zs parts).map .agg := by
  unfold aBuild
  cases tPlaces P t <;> cases zeroCells P t <;> rfl
@[simp] theorem aFill_nil (place : Nat → Option (Nat × Nat)) (cells : List AV) : aFill place cells [] = some cells := rfl
@[simp] theorem aFill_cons (place : Nat → Option (Nat × Nat)) (cells : List AV) (i : Nat) (v : AV) (l : List (Nat × AV)) : aFill place cells ((i, v) :: l) =
    (place i).bind fun p => v.cells.bind fun vs => if vs.length = p.2 ∧ p.1 + vs.length ≤ cells.length then aFill place (putAt cells p.1 vs) l else none := by
  simp only [aFill]
  cases place i <;> cases v.cells <;> rfl
def sliceLit (n : Nat) (zs : List AV) (len : Nat) (parts : List (Nat × AV)) : Option (Nat × List AV) :=
  match n with
  | es + 1 => if len * (es + 1) ≤ 16777216 ∧ 0 < zs.length then (aFill (fun i => some (i * (es + 1), es + 1)) (zeroRow zs (len * (es + 1))) parts).map fun xs => (es + 1, xs) else none
  | 0 => none
@[simp] theorem aBuildSlice_eq (t : TypeId) (len : Nat) (parts : List (Nat × AV)) : aBuildSlice P t len parts = (tElem P t).bind fun e => (tSize P e).bind fun n => (zeroCells P e).bind fun zs => sliceLit n zs len parts := by
  unfold aBuildSlice sliceLit
  cases tElem P t with
  | none => rfl
  | some e =>
    simp only [Option.bind_some]
    cases tSize P e with
    | none => rfl
    | some n => cases n <;> cases zeroCells P e <;> rfl
@[simp] theorem sliceLit_eq (n : Nat) (zs : List AV) (len : Nat) (parts : List (Nat × AV)) (hn : n ≠ 0) (hl : len * n ≤ 16777216) (hz : 0 < zs.length) :
    sliceLit n zs len parts = (aFill (fun i => some (i * n, n)) (zeroRow zs (len * n)) parts).map fun xs => (n, xs) := by
  cases n with
  | zero => exact absurd rfl hn
  | succ n =>
    unfold sliceLit
    simp only
    rw [if_pos ⟨hl, hz⟩]
end
/-- A slice is one cell, whatever it is. -/
theorem Sl.cells {α : Type} {H : AHeap} {f : α → AV} {x : AV} {xs : List α} (h : Sl H f x xs) : x.cells = some [x] ∧ x.one = true := by
  cases x <;> simp [Sl, isNilSlice] at h <;> exact ⟨rfl, rfl⟩

/-- The end of a function, where what is not needed any more is forgotten. -/
def DropTo (K : AV → AHeap → Prop) (v : AV) (H' : AHeap) : Prop := ∃ H'', AHeap.le H'' H' ∧ K v H''
theorem drop_eq {H H' : AHeap} {v r : AV} (hv : v = r) (h : AHeap.le H H') : DropTo (fun v H' => v = r ∧ H' = H) v H' := ⟨H, h, hv, rfl⟩
theorem fun_in {P : Program} {f : FuncId} {fn : Func} (T : FT) {args : List AV} {H : AHeap} {K : AV → AHeap → Prop} (hm : P.follows .mixedOrders = true) (hf : P.funcs[f]? = some fn)
    (hk : (fn.body.isSome && !(fn.name == "runtime.NumGoroutine") && decide (args.length ≤ fn.ntmps) && slotsIn fn.ntmps (fn.body.getD .skip) && flagsIn (fn.body.getD .skip) T) = true)
    (h : AW P (fn.body.getD .skip) T (initFr args) H (AEndR P fn.results (DropTo K))) : ACalls P f args H K := (call_in T hm hf hk h).drop
theorem AtNew.intro {H : AHeap} {k : Nat → Prop} (h : ∀ id, H id = none → k id) : AtNew H k := h

theorem foldl_take_succ {α β : Type} (g : β → α → β) (a : β) (l : List α) (k : Nat) (h : k < l.length) : (l.take (k + 1)).foldl g a = g ((l.take k).foldl g a) l[k] := by
  rw [List.take_succ_eq_append_getElem h, List.foldl_append]; rfl

/-- What the kind does not hold. -/
def over (k : IntKind) (n : Int) : Int := k.wrap n
theorem wrap_i64_ite (n : Int) : IntKind.i64.wrap n = if -9223372036854775808 ≤ n ∧ n ≤ 9223372036854775807 then n else over .i64 n := by
  split
  · rename_i h; exact IntWalk.i64_in n h
  · rfl
end Go.Ab
