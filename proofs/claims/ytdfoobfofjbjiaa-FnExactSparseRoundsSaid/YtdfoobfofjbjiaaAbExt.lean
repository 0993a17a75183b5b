/- Functions without a body, whose value the model tells itself. -/
import Derived.Test.YtdfoobfofjbjiaaAbFlt
import Derived.Test.YtdfoobfofjbjiaaAbList
import Derived.Laws.Externs
set_option linter.unusedSimpArgs false
set_option linter.unusedVariables false
namespace Go.Ab

theorem ext_in {P : Program} {f : FuncId} {fn : Func} {e : Array Value → Sem Value} {args : List AV} {H : AHeap} {K : AV → AHeap → Prop} (hf : P.funcs[f]? = some fn)
    (hk : (!(fn.name == "runtime.NumGoroutine") && fn.body.isNone && (Extern.findNext fn).isNone) = true) (he : Extern.find fn = some e)
    (h : ∀ M ρ w cargs, RelL M ρ args cargs → ∃ v v' n, (e cargs).run P w = .ok v' { w with drawn := n } ∧ Rel M ρ v v' ∧ K v H) : ACalls P f args H K := by
  simp only [Bool.and_eq_true, Bool.not_eq_true', Option.isNone_iff_eq_none] at hk
  obtain ⟨⟨h1, h2⟩, h3⟩ := hk
  intro M ρ w cargs hs hr
  obtain ⟨v, v', n, g1, g2, g3⟩ := h M ρ w cargs hr
  unfold Invokes
  rw [run_callFunc_extern hf h1 (by rw [h2]; rfl) h3 he, g1]
  exact ⟨v, M, ρ, H, .drew n, hs.drew n, g2, g3⟩

theorem RelL.float1 {M : Imm} {ρ : Locs} {k : FloatKind} {b : Nat} {xs : Array Value} (h : RelL M ρ [.float k b] xs) : ∃ b', xs = #[.float k b'] ∧ canon k b' = b := by
  obtain ⟨a, rfl, ha⟩ := h.single
  obtain ⟨b', rfl, hb⟩ := ha.float_inv
  exact ⟨b', rfl, hb⟩
theorem RelL.int1 {M : Imm} {ρ : Locs} {k : IntKind} {b : Int} {xs : Array Value} (h : RelL M ρ [.int k b] xs) : xs = #[.int k b] := by
  obtain ⟨a, rfl, ha⟩ := h.single
  rw [ha.int_inv]

section
variable {P : Program} {f : FuncId} {fn : Func} {H : AHeap} (hf : P.funcs[f]? = some fn) (hk : (!(fn.name == "runtime.NumGoroutine") && fn.body.isNone && (Extern.findNext fn).isNone) = true)
include hf hk
theorem sqrt_in (he : Extern.find fn = some Extern.MathSqrt.sqrt) (b : Nat) : ACalls P f [.float .f64 b] H (fun v H' => v = .float .f64 (sqrtF .f64 b) ∧ H' = H) := by
  refine ext_in hf hk he ?_
  intro M ρ w cargs hr
  obtain ⟨b', rfl, rfl⟩ := hr.float1
  have hs : sqrtF .f64 (canon .f64 b') = outF .f64 (FloatKind.f64.format.sqrt b') := by unfold sqrtF; rw [sqrt_canon]
  refine ⟨.float .f64 (sqrtF .f64 (canon .f64 b')), ?_⟩
  rw [hs]
  have e : ∀ w : World, (Extern.MathSqrt.sqrt #[.float .f64 b']).run P w = (match FloatKind.f64.format.sqrt b' with | some r => pure (Value.float .f64 r) | none => (do pure (Value.float .f64 (← choose (.nanBits .f64 b' b'))) : Sem Value)).run P w := fun _ => rfl
  cases hq : FloatKind.f64.format.sqrt b' with
  | some r => exact ⟨.float .f64 r, w.drawn, by rw [e, hq]; rfl, .float _ _ _ rfl, rfl, rfl⟩
  | none =>
    obtain ⟨r, n, h1, h2⟩ := choose_nan (P := P) w .f64 b' b'
    exact ⟨.float .f64 r, n, by rw [e, hq]; simp [h1], .float _ _ _ h2, rfl, rfl⟩
theorem bits64_in (he : Extern.find fn = some Extern.MathFloatBits.float64bits) (b : Nat) : ACalls P f [.float .f64 b] H (fun v H' => ∃ n : Nat, v = .int .u64 n ∧ canon .f64 n = b ∧ H' = H) := by
  refine ext_in hf hk he ?_
  intro M ρ w cargs hr
  obtain ⟨b', rfl, rfl⟩ := hr.float1
  exact ⟨.int .u64 b', .int .u64 b', w.drawn, rfl, .int _ _, b', rfl, rfl, rfl⟩
theorem from64_in (he : Extern.find fn = some Extern.MathFloatBits.float64frombits) (n : Int) : ACalls P f [.int .u64 n] H (fun v H' => v = .float .f64 (canon .f64 n.toNat) ∧ H' = H) := by
  refine ext_in hf hk he ?_
  intro M ρ w cargs hr
  have := hr.int1; subst this
  exact ⟨_, .float .f64 n.toNat, w.drawn, rfl, .float _ _ _ rfl, rfl, rfl⟩
theorem bits32_in (he : Extern.find fn = some Extern.MathFloatBits.float32bits) (b : Nat) : ACalls P f [.float .f32 b] H (fun v H' => ∃ n : Nat, v = .int .u32 n ∧ canon .f32 n = b ∧ H' = H) := by
  refine ext_in hf hk he ?_
  intro M ρ w cargs hr
  obtain ⟨b', rfl, rfl⟩ := hr.float1
  exact ⟨.int .u32 b', .int .u32 b', w.drawn, rfl, .int _ _, b', rfl, rfl, rfl⟩
theorem from32_in (he : Extern.find fn = some Extern.MathFloatBits.float32frombits) (n : Int) : ACalls P f [.int .u32 n] H (fun v H' => v = .float .f32 (canon .f32 n.toNat) ∧ H' = H) := by
  refine ext_in hf hk he ?_
  intro M ρ w cargs hr
  have := hr.int1; subst this
  exact ⟨_, .float .f32 n.toNat, w.drawn, rfl, .float _ _ _ rfl, rfl, rfl⟩
end

/-- The bits of a float without the sign bit. -/
theorem andNot_sign (n : Nat) : bits .andNot .u64 n 9223372036854775808 = ((low63 n : Nat) : Int) := by
  unfold low63
  have h : (BitVec.ofInt 64 (n : Int) &&& ~~~BitVec.ofInt 64 9223372036854775808).toNat = n % 9223372036854775808 := by
    have e : (~~~BitVec.ofInt 64 9223372036854775808).toNat = 2 ^ 63 - 1 := by decide
    rw [BitVec.toNat_and, e, Nat.and_two_pow_sub_one_eq_mod]
    rw [BitVec.ofInt_natCast, BitVec.toNat_ofNat]
    omega
  show IntKind.u64.wrap (((BitVec.ofInt 64 (n : Int) &&& ~~~BitVec.ofInt 64 9223372036854775808).toNat : Nat) : Int) = _
  rw [h]
  simp only [IntKind.wrap, IntKind.bits, IntKind.signed]
  simp
  omega

/-- A result, and a heap. -/
def Ret (r : AV) (H : AHeap) : AV → AHeap → Prop := fun v H' => v = r ∧ H' = H
theorem Ret.mk (r : AV) (H : AHeap) : Ret r H r H := ⟨rfl, rfl⟩
/-- A contract with a result is handed on. -/
theorem ACalls.on {P : Program} {f : FuncId} {args : List AV} {H H1 : AHeap} {K : AV → AHeap → Prop} {r : AV} (h : ACalls P f args H (Ret r H1)) (k : K r H1) : ACalls P f args H K :=
  h.mono fun _ _ ⟨e1, e2⟩ => by rw [e1, e2]; exact k
theorem ACallsS.on {P : Program} {f : FuncId} {xs : List AV} {H : AHeap} {R : AV → Prop} {v : AV} (h : ACalls P f xs H (Ret v H)) (h' : R v) : ACallsS P f xs H R := ⟨v, h, h'⟩
theorem drop_ret {H H' : AHeap} {r : AV} (h : AHeap.le H H') : DropTo (Ret r H) r H' := ⟨H, h, .mk _ _⟩
theorem fin_ret {H H' : AHeap} {r : AV} (h : AHeap.le H H') : Fin (Ret r H) r H' := .done h (.mk _ _)
@[simp] theorem toF_same (k : FloatKind) (b : Nat) : floatToF k b k = some b := by simp [floatToF]
@[simp] theorem toF_wide (b : Nat) : floatToF .f32 b .f64 = some (wide b) := (floatToF_wide b).1
@[simp] theorem wide_nan (b : Nat) : isNaNF .f64 (wide b) = isNaNF .f32 b := (floatToF_wide b).2.2
@[simp] theorem wide_fin (b : Nat) : isFin .f64 (wide b) = isFin .f32 b := (floatToF_wide b).2.1
@[simp] theorem toF_root (b : Nat) : floatToF .f64 (sqrtF .f64 (wide b)) .f32 = some (rootF b) := root_ok b
theorem fin_nan_inf (k : FloatKind) (b : Nat) : (!isNaNF k b && !isInfF k b) = isFin k b := (fin_iff k b).symm

/-! elements by their number -/
def nth {α : Type} [Inhabited α] (xs : List α) (i : Nat) : α := xs.getD i default
section
variable {α β : Type} [Inhabited α] [Inhabited β] {P : Program} {H : AHeap} {f : α → AV} {x : AV} {xs ys : List α}
theorem nth_eq {i : Nat} (h : i < xs.length) : xs[i] = nth xs i := by simp [nth, List.getD, List.getElem?_eq_getElem h]
theorem nth_get {i : Nat} (h : i < xs.length) : xs[i]? = some (nth xs i) := by rw [List.getElem?_eq_getElem h, nth_eq h]
theorem nth_mem {i : Nat} (h : i < xs.length) : nth xs i ∈ xs := by rw [← nth_eq h]; exact List.getElem_mem _
theorem mem_nth {a : α} (h : a ∈ xs) : ∃ i, i < xs.length ∧ nth xs i = a := by
  obtain ⟨i, hi, e⟩ := List.getElem_of_mem h
  exact ⟨i, hi, by rw [← nth_eq hi, e]⟩
theorem nth_map (g : α → β) {i : Nat} (h : i < xs.length) : nth (xs.map g) i = g (nth xs i) := by
  rw [← nth_eq (by simpa using h), ← nth_eq h]; simp
theorem nth_set {i j : Nat} {a : α} (h : i < xs.length) : nth (xs.set i a) j = if j = i then a else nth xs j := by
  unfold nth
  simp only [List.getD, List.getElem?_set]
  by_cases e : i = j
  · subst e; simp [h]
  · simp [e, Ne.symm e]
theorem nth_ext (hl : xs.length = ys.length) (h : ∀ i, i < xs.length → nth xs i = nth ys i) : xs = ys :=
  List.ext_getElem hl fun i h1 h2 => by rw [nth_eq h1, nth_eq h2]; exact h i h1
theorem take_succ_nth {k : Nat} (h : k < xs.length) : xs.take (k + 1) = xs.take k ++ [nth xs k] := by rw [List.take_succ_eq_append_getElem h, nth_eq h]
theorem nth_append_left {i : Nat} (h : i < xs.length) : nth (xs ++ ys) i = nth xs i := by
  unfold nth; simp only [List.getD]; rw [List.getElem?_append_left h]
theorem nth_append_right {i : Nat} (h : xs.length ≤ i) : nth (xs ++ ys) i = nth ys (i - xs.length) := by
  unfold nth; simp only [List.getD]; rw [List.getElem?_append_right h]
theorem nth_replicate {n i : Nat} {a : α} (h : i < n) : nth (List.replicate n a) i = a := by rw [← nth_eq (by simpa using h)]; simp
theorem Sl.nth (h : Sl H f x xs) {e : TypeId} {i : Nat} (ha : tAgg P e = some false) (hi : i < xs.length) : aLoad P e (elemPtr 1 x i) H = some (f (nth xs i)) := by rw [h.load ha hi, nth_eq hi]
end
@[simp] theorem elemPtr_R (es id off n e : Nat) (ck : Option Nat) (i : Nat) : elemPtr es (.sliceR id off n e ck) i = .ptrR id (off + i * es) := rfl
theorem wadd (k : Nat) (h : k ≤ 4611686018427387904) : IntKind.i64.wrap ((k : Int) + 1) = (k : Int) + 1 := IntWalk.i64_in _ (by omega)
theorem win {n : Int} (h : -9223372036854775808 ≤ n ∧ n ≤ 9223372036854775807) : IntKind.i64.wrap n = n := IntWalk.i64_in n h
theorem aMake {P : Program} {t e : TypeId} {b : Nat} {z : AV} {n : Nat} (hn : n ≤ 1073741824) (he : tElem P t = some e) (hs : tSize P e = some 1) (hz : zeroCells P e = some [z]) (hb : tBytes P e = some b) (hb' : b ≤ 1000) :
    aMakeSlice P t (i64 n) (i64 n) = some (1, n, n, List.replicate n z) := by
  have h1 : n * (b + 1) ≤ 1073741824 * 1001 := Nat.mul_le_mul hn (by omega)
  unfold aMakeSlice
  simp only [he, hs, hz, hb]
  rw [if_pos ⟨by omega, by omega, by simp only [Int.toNat_natCast]; omega, by simp⟩]
  simp [zeroRow_one]

/-- A slice of the code's own, whose capacity is its length. -/
def own {α : Type} (f : α → AV) (id : Nat) (xs : List α) (H : AHeap) : AHeap := H.set id (some (.cells (xs.map f)))
abbrev ownS (id n : Nat) : AV := .sliceR id 0 n 1 (some n)
section
variable {α : Type} {f : α → AV} {id n : Nat} {xs ys : List α} {H : AHeap} {P : Program}
theorem own_sl (ck : Option Nat) : Sl (own f id xs H) f (.sliceR id 0 xs.length 1 ck) xs := Sl.own (by simp [own])
theorem own_sl' (ck : Option Nat) (h : xs.length = n) : Sl (own f id xs H) f (.sliceR id 0 n 1 ck) xs := by subst h; exact own_sl ck
theorem own_le (hid : H id = none) : H.le (own f id xs H) := AHeap.le_set _ (AHeap.le_refl _) hid
theorem own_at : cellsAt (own f id xs H) id = some (xs.map f) := by simp [own]
theorem own_idx {t : TypeId} {k : IntKind} {off : Nat} {ck : Option Nat} {i : Int} (ht : (tElem P t).bind (tSize P) = some 1) (h0 : 0 ≤ i) (hi : i < n) :
    aIndexAddr P t (.sliceR id off n 1 ck) (.int k i) = some (.ptrR id (off + i.toNat)) := by
  obtain ⟨e, he, hs⟩ := Option.bind_eq_some_iff.1 ht
  have hs' : tSize P e = some (0 + 1) := hs
  simp only [aIndexAddr, he, hs']
  rw [if_pos ⟨h0, by omega, trivial⟩]; simp
theorem own_idxN {t : TypeId} {k : IntKind} {ck : Option Nat} {i : Nat} (ht : (tElem P t).bind (tSize P) = some 1) (hi : i < n) :
    aIndexAddr P t (.sliceR id 0 n 1 ck) (.int k i) = some (.ptrR id i) := by
  rw [own_idx ht (by omega) (by omega)]; simp
theorem own_store {t : TypeId} {i : Nat} {a : α} (ht : tSize P t = some 1) (hc : (f a).cells = some [f a]) (ho : (f a).one = true) (hi : i < xs.length) :
    aStore P t (.ptrR id i) (f a) (own f id xs H) = some (own f id (xs.set i a) H) := by
  rw [aStore_R, own_at, ht, hc]
  simp only [Option.bind_some]
  rw [if_pos ⟨rfl, by simp; omega, by simp [ho]⟩]
  simp [own, List.map_set]
end

/-- A new slice of the code's own. -/
def RetOwn {α : Type} (f : α → AV) (xs : List α) (H : AHeap) : AV → AHeap → Prop := fun v H' => ∃ id, H id = none ∧ v = ownS id xs.length ∧ H' = own f id xs H
theorem RetOwn.mk {α : Type} {f : α → AV} {xs ys : List α} {H : AHeap} {id n : Nat} (hid : H id = none) (hn : n = xs.length) (h : ys = xs) : RetOwn f xs H (ownS id n) (own f id ys H) := by
  subst hn h; exact ⟨id, hid, rfl, rfl⟩

/-! lists told by a function -/
def mk {α : Type} (n : Nat) (g : Nat → α) : List α := (List.range n).map g
section
variable {α β : Type} [Inhabited α] {g g' : Nat → α} {n k : Nat} {xs : List α}
@[simp] theorem mk_length {α : Type} (n : Nat) (g : Nat → α) : (mk n g).length = n := by simp [mk]
theorem nth_mk (h : k < n) : nth (mk n g) k = g k := by rw [← nth_eq (by simpa using h)]; simp [mk]
theorem mk_ext {α : Type} {g g' : Nat → α} (h : ∀ i, i < n → g i = g' i) : mk n g = mk n g' := List.map_congr_left fun i hi => h i (by simpa using hi)
theorem mk_nth : mk xs.length (nth xs) = xs := nth_ext (by simp) fun i hi => nth_mk (by simpa using hi)
theorem mk_nth' (h : n = xs.length) : mk n (nth xs) = xs := by subst h; exact mk_nth
theorem mk_set {a : α} (hk : k < n) : (mk n g).set k a = mk n fun i => if i = k then a else g i :=
  nth_ext (by simp) fun i hi => by
    have hi : i < n := by simpa using hi
    rw [nth_set (by simpa using hk), nth_mk hi, nth_mk hi]
theorem mk_step (hk : k < n) : (mk n fun i => if i < k then g i else g' i).set k (g k) = mk n fun i => if i < k + 1 then g i else g' i := by
  rw [mk_set hk]
  refine mk_ext fun i hi => ?_
  by_cases e : i = k
  · subst e; rw [if_pos rfl, if_pos (by omega)]
  · rw [if_neg e]
    by_cases e' : i < k
    · rw [if_pos e', if_pos (by omega)]
    · rw [if_neg e', if_neg (by omega)]
theorem mk_end {α : Type} {g g' : Nat → α} {n k : Nat} (h : n ≤ k) : (mk n fun i => if i < k then g i else g' i) = mk n g := mk_ext fun i hi => by rw [if_pos (by omega)]
theorem mk_begin {α : Type} {g g' : Nat → α} {n : Nat} : (mk n fun i => if i < 0 then g i else g' i) = mk n g' := mk_ext fun i hi => by rw [if_neg (by omega)]
theorem mk_succ {α : Type} {g : Nat → α} : mk (n + 1) g = mk n g ++ [g n] := by simp [mk, List.range_succ]
theorem mk_zero {α : Type} {g : Nat → α} : mk 0 g = [] := rfl
theorem mk_const {α : Type} (a : α) : mk n (fun _ => a) = List.replicate n a := by
  induction n with
  | zero => rfl
  | succ n ih => rw [mk_succ, ih, List.replicate_succ']
theorem mk_map {α β : Type} {g : Nat → α} (f : α → β) : (mk n g).map f = mk n fun i => f (g i) := by simp [mk, Function.comp_def]
end
theorem Grow.fresh {α : Type} {B H : AHeap} {e v : AV} {f : α → AV} {xs : List α} (h : Grow B e f xs v H) {j : Nat} (b : Blk) (hj : H j = none) : Grow (B.set j (some b)) e f xs v (H.set j (some b)) := by
  rcases h with ⟨h1, h2, rfl⟩ | ⟨h0, id, hid, h2, rfl⟩
  · exact .inl ⟨h1, h2, rfl⟩
  · have hne : id ≠ j := by rintro rfl; simp at hj
    exact .inr ⟨h0, id, by rw [AHeap.set_ne _ _ hne]; exact hid, h2, AHeap.set_comm _ _ _ hne⟩
abbrev empty0 : AV := .sliceI [] 0 (some 0)
theorem AHeap.set_none_of {H : AHeap} {i j : Nat} {b : Blk} (h : (H.set i (some b)) j = none) : j ≠ i ∧ H j = none := by simpa using h
@[simp] theorem len_R {P : Program} {H : AHeap} {t : TypeId} {id off n es : Nat} {ck : Option Nat} (ht : isSliceT P t = true) : aLen P #[t] (.sliceR id off n es ck) H = some (i64 n) := by
  simp [aLen, ht]
@[simp] theorem mk_getElem {α : Type} {g : Nat → α} {n k : Nat} (h : k < (mk n g).length) : (mk n g)[k] = g k := by simp [mk]
end Go.Ab
