/- Abstract values and heaps over the model's worlds: what is immutable is held as a value, what the running code owns lies under an id. -/
import Derived.Orders
import Derived.LoopN
import Derived.Laws.World
import Derived.Laws.Entries
set_option linter.unusedSimpArgs false
set_option linter.unusedVariables false
namespace Go.Ab

/-- The bits that stand for every NaN of a kind. -/
def nanOf : FloatKind → Nat
  | .f32 => 2143289344
  | .f64 => 9221120237041090560

def canon (k : FloatKind) (b : Nat) : Nat := if (k.format.read b).isNaN then nanOf k else b

inductive AV where
  | bool (b : Bool)
  | int (k : IntKind) (n : Int)
  | float (k : FloatKind) (bits : Nat)
  | complex (k : FloatKind) (re im : Nat)
  | string (s : List UInt8)
  | ptrI (cells : List AV) (off : Nat)
  | ptrR (id off : Nat)
  | nilptr
  | sliceI (cells : List AV) (len : Nat) (cap : Option Nat)
  | sliceR (id off len es : Nat) (cap : Option Nat)
  | nilslice
  | map (id : Nat)
  | nilmap
  | func (fn : Fn) (first captured : List AV)
  | nilfunc
  | iface (t : TypeId) (v : AV)
  | nilface
  | agg (cs : List AV)
  | tuple (vs : List AV)
  | junk
  deriving Inhabited

structure Loc where
  block : Nat
  base : Nat
  size : Nat

inductive Blk where
  | cells (xs : List AV)
  | map (es : List (AV × AV))
  | iter (map : Nat) (left : List (AV × AV))
  | nilIter
  | sIter (s : List UInt8) (pos : Nat)
  deriving Inhabited

abbrev AHeap := Nat → Option Blk
def AHeap.set (H : AHeap) (id : Nat) (b : Option Blk) : AHeap := fun i => if i = id then b else H i
theorem AHeap.set_apply (H : AHeap) (id : Nat) (b : Option Blk) (i : Nat) : H.set id b i = if i = id then b else H i := rfl
@[simp] theorem AHeap.set_same (H : AHeap) (id : Nat) (b : Option Blk) : H.set id b id = b := by simp [AHeap.set]
@[simp] theorem AHeap.set_set (H : AHeap) (id : Nat) (b c : Option Blk) : (H.set id b).set id c = H.set id c := by
  funext i; simp only [AHeap.set]; split <;> rfl
theorem AHeap.set_ne (H : AHeap) {id i : Nat} (b : Option Blk) (h : i ≠ id) : H.set id b i = H i := by simp [AHeap.set, h]
theorem AHeap.set_none (H : AHeap) {id : Nat} (h : H id = none) : H.set id none = H := by
  funext i; simp only [AHeap.set]; split
  · rename_i e; rw [e, h]
  · rfl
theorem AHeap.set_eq (H : AHeap) {id : Nat} {b : Blk} (h : H id = some b) : H.set id (some b) = H := by
  funext i; simp only [AHeap.set]; split
  · rename_i e; rw [e, h]
  · rfl

/-- H' has all that H has. -/
def AHeap.le (H H' : AHeap) : Prop := ∀ id b, H id = some b → H' id = some b
theorem AHeap.le_refl (H : AHeap) : H.le H := fun _ _ h => h
theorem AHeap.le_trans {H H' H'' : AHeap} (h : H.le H') (h' : H'.le H'') : H.le H'' := fun _ _ k => h' _ _ (h _ _ k)
theorem AHeap.le_set {H H' : AHeap} {id : Nat} (b : Option Blk) (h : H.le H') (hn : H id = none) : H.le (H'.set id b) := by
  intro i c hi
  by_cases e : i = id
  · subst e; rw [hn] at hi; cases hi
  · rw [AHeap.set_ne _ _ e]; exact h _ _ hi

abbrev Imm := Nat → Option Obj
abbrev Locs := Nat → Option Loc

inductive Rel (M : Imm) (ρ : Locs) : AV → Value → Prop
  | bool (b : Bool) : Rel M ρ (.bool b) (.bool b)
  | int (k : IntKind) (n : Int) : Rel M ρ (.int k n) (.int k n)
  | float (k : FloatKind) (b b' : Nat) (h : canon k b' = b) : Rel M ρ (.float k b) (.float k b')
  | complex (k : FloatKind) (a a' b b' : Nat) (h : canon k a' = a) (h' : canon k b' = b) : Rel M ρ (.complex k a b) (.complex k a' b')
  | string (s : List UInt8) : Rel M ρ (.string s) (.string ⟨s.toArray⟩)
  | ptrI (xs : List AV) (off b base : Nat) (cs : Array Value) (t : TypeId) (fz : Nat × Nat) (hM : M b = some (.cells cs t fz)) (hl : base + xs.length ≤ cs.size)
      (h : ∀ j (h1 : j < xs.length) (h2 : base + j < cs.size), Rel M ρ xs[j] cs[base + j]) : Rel M ρ (.ptrI xs off) (.pointer (some ⟨b, base + off, none⟩))
  | ptrR (id off : Nat) (l : Loc) (hρ : ρ id = some l) : Rel M ρ (.ptrR id off) (.pointer (some ⟨l.block, l.base + off, none⟩))
  | nilptr : Rel M ρ .nilptr (.pointer none)
  | sliceN (len c : Nat) (a : Addr) (ck : Option Nat) (hc : len ≤ c) (hk : ∀ n, ck = some n → c = n) : Rel M ρ (.sliceI [] len ck) (.slice (some a) len c)
  | sliceI (xs : List AV) (len c b base : Nat) (ck : Option Nat) (cs : Array Value) (t : TypeId) (fz : Nat × Nat) (hc : len ≤ c) (hk : ∀ n, ck = some n → c = n)
      (hM : M b = some (.cells cs t fz)) (hl : base + xs.length ≤ cs.size)
      (h : ∀ j (h1 : j < xs.length) (h2 : base + j < cs.size), Rel M ρ xs[j] cs[base + j]) : Rel M ρ (.sliceI xs len ck) (.slice (some ⟨b, base, none⟩) len c)
  | sliceR (id off len es c : Nat) (ck : Option Nat) (l : Loc) (a : Addr) (hc : len ≤ c) (hk : ∀ n, ck = some n → c = n) (hρ : ρ id = some l)
      (ha : c = 0 ∨ a = ⟨l.block, l.base + off, none⟩) (hr : l.base + off + c * es ≤ l.size) (hn : ck = none → l.base + off + c * es = l.size) :
      Rel M ρ (.sliceR id off len es ck) (.slice (some a) len c)
  | nilslice : Rel M ρ .nilslice (.slice none 0 0)
  | map (id : Nat) (l : Loc) (hρ : ρ id = some l) : Rel M ρ (.map id) (.map (some l.block))
  | nilmap : Rel M ρ .nilmap (.map none)
  | func (fn : Fn) (xs ys : List AV) (as bs : Array Value) (h1 : as.size = xs.length) (h2 : bs.size = ys.length)
      (h : ∀ j (h1 : j < xs.length) (h2 : j < as.size), Rel M ρ xs[j] as[j]) (h' : ∀ j (h1 : j < ys.length) (h2 : j < bs.size), Rel M ρ ys[j] bs[j]) :
      Rel M ρ (.func fn xs ys) (.func fn as bs)
  | nilfunc : Rel M ρ .nilfunc .nilFunc
  | iface (t : TypeId) (v : AV) (v' : Value) (h : Rel M ρ v v') : Rel M ρ (.iface t v) (.iface t v')
  | nilface : Rel M ρ .nilface .nilIface
  | agg (xs : List AV) (cs : Array Value) (hs : cs.size = xs.length) (h : ∀ j (h1 : j < xs.length) (h2 : j < cs.size), Rel M ρ xs[j] cs[j]) : Rel M ρ (.agg xs) (.agg cs)
  | tuple (xs : List AV) (cs : Array Value) (hs : cs.size = xs.length) (h : ∀ j (h1 : j < xs.length) (h2 : j < cs.size), Rel M ρ xs[j] cs[j]) : Rel M ρ (.tuple xs) (.tuple cs)
  | junk (v : Value) : Rel M ρ .junk v

/-- Lists of abstract values against rows of values. -/
def RelL (M : Imm) (ρ : Locs) (xs : List AV) (cs : Array Value) : Prop :=
  cs.size = xs.length ∧ ∀ j (h1 : j < xs.length) (h2 : j < cs.size), Rel M ρ xs[j] cs[j]

def Sub {α : Type} (f g : Nat → Option α) : Prop := ∀ i x, f i = some x → g i = some x
theorem Sub.refl {α : Type} (f : Nat → Option α) : Sub f f := fun _ _ h => h
theorem Sub.trans {α : Type} {f g h : Nat → Option α} (a : Sub f g) (b : Sub g h) : Sub f h := fun _ _ k => b _ _ (a _ _ k)

theorem Rel.mono {M M' : Imm} {ρ ρ' : Locs} (hM : Sub M M') (hρ : Sub ρ ρ') {x : AV} {v : Value} (h : Rel M ρ x v) : Rel M' ρ' x v := by
  induction h with
  | bool b => exact .bool b
  | int k n => exact .int k n
  | float k b b' h => exact .float k b b' h
  | complex k a a' b b' h h' => exact .complex k a a' b b' h h'
  | string s => exact .string s
  | ptrI xs off b base cs t fz h1 hl _ ih => exact .ptrI xs off b base cs t fz (hM _ _ h1) hl ih
  | ptrR id off l h => exact .ptrR id off l (hρ _ _ h)
  | nilptr => exact .nilptr
  | sliceN len c a ck hc hk => exact .sliceN len c a ck hc hk
  | sliceI xs len c b base ck cs t fz hc hk h1 hl _ ih => exact .sliceI xs len c b base ck cs t fz hc hk (hM _ _ h1) hl ih
  | sliceR id off len es c ck l a hc hk h ha hr hn => exact .sliceR id off len es c ck l a hc hk (hρ _ _ h) ha hr hn
  | nilslice => exact .nilslice
  | map id l h => exact .map id l (hρ _ _ h)
  | nilmap => exact .nilmap
  | func fn xs ys as bs h1 h2 _ _ ih ih' => exact .func fn xs ys as bs h1 h2 ih ih'
  | nilfunc => exact .nilfunc
  | iface t v v' _ ih => exact .iface t v v' ih
  | nilface => exact .nilface
  | agg xs cs hs _ ih => exact .agg xs cs hs ih
  | tuple xs cs hs _ ih => exact .tuple xs cs hs ih
  | junk v => exact .junk v

theorem RelL.mono {M M' : Imm} {ρ ρ' : Locs} (hM : Sub M M') (hρ : Sub ρ ρ') {x : List AV} {v : Array Value} (h : RelL M ρ x v) : RelL M' ρ' x v :=
  ⟨h.1, fun j h1 h2 => (h.2 j h1 h2).mono hM hρ⟩

theorem RelL.nil (M : Imm) (ρ : Locs) : RelL M ρ [] #[] := ⟨rfl, fun j h => by simp at h⟩
theorem RelL.append {M : Imm} {ρ : Locs} {xs ys : List AV} {as bs : Array Value} (h : RelL M ρ xs as) (h' : RelL M ρ ys bs) : RelL M ρ (xs ++ ys) (as ++ bs) := by
  refine ⟨by simp [h.1, h'.1], fun j h1 h2 => ?_⟩
  by_cases hj : j < xs.length
  · rw [List.getElem_append_left hj, Array.getElem_append_left (by rw [h.1]; exact hj)]; exact h.2 j hj _
  · rw [List.getElem_append_right (by omega), Array.getElem_append_right (by rw [h.1]; omega)]
    have := h'.2 (j - xs.length) (by simp at h1; omega) (by simp at h2; rw [← h.1]; have := h.1; omega)
    simpa only [h.1] using this
theorem RelL.get {M : Imm} {ρ : Locs} {xs : List AV} {cs : Array Value} (h : RelL M ρ xs cs) {j : Nat} {x : AV} (hj : xs[j]? = some x) : ∃ v, cs[j]? = some v ∧ Rel M ρ x v := by
  obtain ⟨hlt, rfl⟩ := List.getElem?_eq_some_iff.1 hj
  have h2 : j < cs.size := by rw [h.1]; exact hlt
  exact ⟨cs[j], Array.getElem?_eq_getElem h2, h.2 j hlt h2⟩

/-- What an owned block holds, against the object that lies there. -/
def BlkOK (M : Imm) (ρ : Locs) (l : Loc) : Blk → Obj → Prop
  | .cells xs, o => ∃ cs t fz, o = .cells cs t fz ∧ (fz.2 = 0 ∨ cs.size ≤ fz.1) ∧ cs.size = l.size ∧ l.base + xs.length ≤ cs.size ∧
      ∀ j (h1 : j < xs.length) (h2 : l.base + j < cs.size), Rel M ρ xs[j] cs[l.base + j]
  | .map es, o => ∃ entries clock, o = .map entries clock ∧ entries.size = es.length ∧ (∀ j (h : j < entries.size), entries[j].born < clock) ∧
      (∀ i j (h : i < entries.size) (h' : j < entries.size), entries[i].born = entries[j].born → i = j) ∧
      ∀ j (h1 : j < es.length) (h2 : j < entries.size), Rel M ρ es[j].1 entries[j].key ∧ Rel M ρ es[j].2 entries[j].val
  | .iter _ _, _ => False
  | .nilIter, o => o = .mapIter none 0 #[] 0
  | .sIter s pos, o => o = .stringIter ⟨s.toArray⟩ pos

theorem BlkOK.mono {M M' : Imm} {ρ ρ' : Locs} (hM : Sub M M') (hρ : Sub ρ ρ') {l : Loc} {b : Blk} {o : Obj} (h : BlkOK M ρ l b o) : BlkOK M' ρ' l b o := by
  cases b with
  | cells xs => obtain ⟨cs, t, fz, h1, h0, h2, h3, h4⟩ := h; exact ⟨cs, t, fz, h1, h0, h2, h3, fun j a b => (h4 j a b).mono hM hρ⟩
  | map es => obtain ⟨cs, t, h1, h2, h3, h5, h4⟩ := h; exact ⟨cs, t, h1, h2, h3, h5, fun j a b => ⟨(h4 j a b).1.mono hM hρ, (h4 j a b).2.mono hM hρ⟩⟩
  | iter m left => exact h
  | nilIter => exact h
  | sIter s pos => exact h

structure St (M : Imm) (ρ : Locs) (H : AHeap) (w : World) : Prop where
  imm : ∀ b o, M b = some o → w.heap[b]? = some o
  own : ∀ id blk, H id = some blk → ∃ l o, ρ id = some l ∧ M l.block = none ∧ w.heap[l.block]? = some o ∧ BlkOK M ρ l blk o
  inj : ∀ id id' l l', H id ≠ none → H id' ≠ none → ρ id = some l → ρ id' = some l' → l.block = l'.block → id = id'
  fin : ∃ N, ∀ id, N ≤ id → ρ id = none

structure Ext (M : Imm) (ρ : Locs) (w : World) (M' : Imm) (ρ' : Locs) (w' : World) : Prop where
  imm : Sub M M'
  loc : Sub ρ ρ'
  os : w'.os = w.os
  tape : w'.tape = w.tape
  output : w'.output = w.output
  size : w.heap.size ≤ w'.heap.size

theorem Ext.refl (M : Imm) (ρ : Locs) (w : World) : Ext M ρ w M ρ w := ⟨.refl _, .refl _, rfl, rfl, rfl, Nat.le_refl _⟩
theorem Ext.trans {M M' M'' : Imm} {ρ ρ' ρ'' : Locs} {w w' w'' : World} (h : Ext M ρ w M' ρ' w') (k : Ext M' ρ' w' M'' ρ'' w'') : Ext M ρ w M'' ρ'' w'' :=
  ⟨h.imm.trans k.imm, h.loc.trans k.loc, k.os.trans h.os, k.tape.trans h.tape, k.output.trans h.output, Nat.le_trans h.size k.size⟩
theorem Rel.ext {M M' : Imm} {ρ ρ' : Locs} {w w' : World} (h : Ext M ρ w M' ρ' w') {x : AV} {v : Value} (r : Rel M ρ x v) : Rel M' ρ' x v := r.mono h.imm h.loc
theorem RelL.ext {M M' : Imm} {ρ ρ' : Locs} {w w' : World} (h : Ext M ρ w M' ρ' w') {x : List AV} {v : Array Value} (r : RelL M ρ x v) : RelL M' ρ' x v := r.mono h.imm h.loc

section steps
variable {M : Imm} {ρ : Locs} {H : AHeap} {w : World}

theorem St.drop (h : St M ρ H w) {H' : AHeap} (hle : H'.le H) : St M ρ H' w where
  imm := h.imm
  own id blk hb := h.own id blk (hle _ _ hb)
  inj id id' l l' h1 h2 := h.inj id id' l l'
    (by cases e : H' id with | none => exact absurd e h1 | some b => rw [hle _ _ e]; simp)
    (by cases e : H' id' with | none => exact absurd e h2 | some b => rw [hle _ _ e]; simp)
  fin := h.fin

theorem St.drew (h : St M ρ H w) (n : Nat) : St M ρ H { w with drawn := n } := ⟨h.imm, h.own, h.inj, h.fin⟩
theorem Ext.drew (n : Nat) : Ext M ρ w M ρ { w with drawn := n } := ⟨.refl _, .refl _, rfl, rfl, rfl, Nat.le_refl _⟩

theorem St.lt (h : St M ρ H w) {id : Nat} {blk : Blk} {l : Loc} (hb : H id = some blk) (hl : ρ id = some l) : l.block < w.heap.size := by
  obtain ⟨l', o, h1, _, h3, _⟩ := h.own id blk hb
  rw [hl] at h1; cases h1
  exact (Array.getElem?_eq_some_iff.1 h3).1

theorem heap_push_old {o x : Obj} {b : Nat} (h : w.heap[b]? = some x) : (w.alloc o).heap[b]? = some x := by
  have := (Array.getElem?_eq_some_iff.1 h).1
  show (w.heap.push o)[b]? = some x
  rw [Array.getElem?_push, if_neg (by omega)]; exact h
theorem heap_push_new {o : Obj} : (w.alloc o).heap[w.heap.size]? = some o := by
  show (w.heap.push o)[w.heap.size]? = some o
  simp

/-- An id that nothing bears yet. -/
theorem St.fresh (h : St M ρ H w) : ∃ id, ρ id = none ∧ H id = none := by
  obtain ⟨N, hN⟩ := h.fin
  refine ⟨N, hN N (Nat.le_refl _), ?_⟩
  cases e : H N with
  | none => rfl
  | some b => obtain ⟨l, o, h1, _⟩ := h.own N b e; rw [hN N (Nat.le_refl _)] at h1; cases h1

def setLoc (ρ : Locs) (id : Nat) (l : Loc) : Locs := fun i => if i = id then some l else ρ i
theorem setLoc_same (ρ : Locs) (id : Nat) (l : Loc) : setLoc ρ id l id = some l := by simp [setLoc]
theorem Sub.setLoc {id : Nat} (l : Loc) (h : ρ id = none) : Sub ρ (setLoc ρ id l) := by
  intro i x hx
  simp only [Ab.setLoc]
  split
  · rename_i e; rw [e, h] at hx; cases hx
  · exact hx
def setImm (M : Imm) (b : Nat) (o : Obj) : Imm := fun i => if i = b then some o else M i
theorem setImm_same (M : Imm) (b : Nat) (o : Obj) : setImm M b o b = some o := by simp [setImm]
theorem Sub.setImm {b : Nat} (o : Obj) (h : M b = none) : Sub M (setImm M b o) := by
  intro i x hx
  simp only [Ab.setImm]
  split
  · rename_i e; rw [e, h] at hx; cases hx
  · exact hx
theorem setLoc_fin {id : Nat} {l : Loc} (h : ∃ N, ∀ id, N ≤ id → ρ id = none) : ∃ N, ∀ i, N ≤ i → setLoc ρ id l i = none := by
  obtain ⟨N, hN⟩ := h
  refine ⟨max N (id + 1), fun i hi => ?_⟩
  simp only [setLoc]
  rw [if_neg (by omega)]; exact hN i (by omega)

theorem St.noImm_new (h : St M ρ H w) : M w.heap.size = none := by
  cases e : M w.heap.size with
  | none => rfl
  | some o => have := h.imm _ _ e; simp at this

/-- A new block that the code owns. -/
theorem St.alloc (h : St M ρ H w) {id : Nat} (hρ : ρ id = none) (hH : H id = none) (o : Obj) (blk : Blk) (size : Nat)
    (hb : BlkOK M ρ ⟨w.heap.size, 0, size⟩ blk o) :
    St M (setLoc ρ id ⟨w.heap.size, 0, size⟩) (H.set id (some blk)) (w.alloc o) ∧ Ext M ρ w M (setLoc ρ id ⟨w.heap.size, 0, size⟩) (w.alloc o) := by
  have hs : Sub ρ (setLoc ρ id ⟨w.heap.size, 0, size⟩) := Sub.setLoc _ hρ
  refine ⟨⟨fun b x hx => heap_push_old (h.imm _ _ hx), fun i b hi => ?_, fun i j l l' hi hj hl hl' e => ?_, setLoc_fin h.fin⟩,
    ⟨.refl _, hs, rfl, rfl, rfl, (by show _ ≤ (w.heap.push o).size; simp)⟩⟩
  · by_cases e : i = id
    · subst e
      rw [AHeap.set_same] at hi; cases hi
      exact ⟨_, o, setLoc_same .., h.noImm_new, heap_push_new, hb.mono (.refl _) hs⟩
    · rw [AHeap.set_ne _ _ e] at hi
      obtain ⟨l, x, h1, h2, h3, h4⟩ := h.own i b hi
      exact ⟨l, x, hs _ _ h1, h2, heap_push_old h3, h4.mono (.refl _) hs⟩
  · have old : ∀ i l, i ≠ id → (H.set id (some blk)) i ≠ none → setLoc ρ id ⟨w.heap.size, 0, size⟩ i = some l → H i ≠ none ∧ ρ i = some l ∧ l.block < w.heap.size := by
      intro i l hne hi hl
      rw [AHeap.set_ne _ _ hne] at hi
      simp only [setLoc, if_neg hne] at hl
      cases e : H i with
      | none => exact absurd e hi
      | some b => exact ⟨by simp, hl, h.lt e hl⟩
    by_cases e1 : i = id <;> by_cases e2 : j = id
    · rw [e1, e2]
    · subst e1
      rw [setLoc_same] at hl; cases hl
      have := (old j l' e2 hj hl').2.2
      simp at e; omega
    · subst e2
      rw [setLoc_same] at hl'; cases hl'
      have := (old i l e1 hi hl).2.2
      simp at e; omega
    · exact h.inj i j l l' (old i l e1 hi hl).1 (old j l' e2 hj hl').1 (old i l e1 hi hl).2.1 (old j l' e2 hj hl').2.1 e

/-- A new block that is never written again. -/
theorem St.allocI (h : St M ρ H w) (o : Obj) : St (setImm M w.heap.size o) ρ H (w.alloc o) ∧ Ext M ρ w (setImm M w.heap.size o) ρ (w.alloc o) := by
  have hs : Sub M (setImm M w.heap.size o) := Sub.setImm _ h.noImm_new
  refine ⟨⟨fun b x hx => ?_, fun i b hi => ?_, h.inj, h.fin⟩, ⟨hs, .refl _, rfl, rfl, rfl, (by show _ ≤ (w.heap.push o).size; simp)⟩⟩
  · simp only [setImm] at hx
    split at hx
    · rename_i e; cases hx; rw [e]; exact heap_push_new
    · exact heap_push_old (h.imm _ _ hx)
  · obtain ⟨l, x, h1, h2, h3, h4⟩ := h.own i b hi
    refine ⟨l, x, h1, ?_, heap_push_old h3, h4.mono hs (.refl _)⟩
    simp only [setImm]
    rw [if_neg (by have := h.lt hi h1; omega)]; exact h2

/-- An owned block is written: another object of the same shape lies there. -/
theorem St.write (h : St M ρ H w) {id : Nat} {l : Loc} {blk blk' : Blk} (hH : H id = some blk) (hρ : ρ id = some l) (o : Obj) (hb : BlkOK M ρ l blk' o)
    {w' : World} (hw : w'.heap = w.heap.setIfInBounds l.block o) (h1 : w'.os = w.os) (h2 : w'.tape = w.tape) (h3 : w'.output = w.output) :
    St M ρ (H.set id (some blk')) w' ∧ Ext M ρ w M ρ w' := by
  have hlt := h.lt hH hρ
  have hM : M l.block = none := by obtain ⟨l', _, a, b, _⟩ := h.own id blk hH; rw [hρ] at a; cases a; exact b
  have hne : ∀ j, H.set id (some blk') j ≠ none → H j ≠ none := by
    intro j hj
    by_cases e : j = id
    · rw [e, hH]; simp
    · rwa [AHeap.set_ne _ _ e] at hj
  refine ⟨⟨fun b x hx => ?_, fun i b hi => ?_, fun i j l l' hi hj => h.inj i j l l' (hne i hi) (hne j hj), h.fin⟩, ⟨.refl _, .refl _, h1, h2, h3, by rw [hw]; simp⟩⟩
  · rw [hw, Array.getElem?_setIfInBounds_ne (by intro e; rw [← e, hM] at hx; cases hx)]; exact h.imm _ _ hx
  · by_cases e : i = id
    · subst e
      rw [AHeap.set_same] at hi; cases hi
      exact ⟨l, o, hρ, hM, by rw [hw, Array.getElem?_setIfInBounds_self_of_lt hlt], hb⟩
    · rw [AHeap.set_ne _ _ e] at hi
      obtain ⟨l', x, a, b', c, d⟩ := h.own i b hi
      refine ⟨l', x, a, b', ?_, d⟩
      rw [hw, Array.getElem?_setIfInBounds_ne ?_]; exact c
      intro e'
      exact e (h.inj i id l' l (by rw [hi]; simp) (by rw [hH]; simp) a hρ e'.symm)

/-- What is owned is given up: it is not written any more. -/
theorem St.freeze (h : St M ρ H w) {id : Nat} {l : Loc} {xs : List AV} (hH : H id = some (.cells xs)) (hρ : ρ id = some l) :
    ∃ cs t fz, St (setImm M l.block (.cells cs t fz)) ρ (H.set id none) w ∧ Ext M ρ w (setImm M l.block (.cells cs t fz)) ρ w ∧ cs.size = l.size ∧ l.base + xs.length ≤ cs.size ∧
      ∀ j (h1 : j < xs.length) (h2 : l.base + j < cs.size), Rel M ρ xs[j] cs[l.base + j] := by
  obtain ⟨l', o, a, b, c, d⟩ := h.own id _ hH
  rw [hρ] at a; cases a
  obtain ⟨cs, t, fz, rfl, _, hsz, hlen, hrel⟩ := d
  have hs : Sub M (setImm M l.block (.cells cs t fz)) := Sub.setImm _ b
  refine ⟨cs, t, fz, ⟨fun b' x hx => ?_, fun i b' hi => ?_, fun i j l1 l2 hi hj => h.inj i j l1 l2 (fun e => hi ?_) (fun e => hj ?_), h.fin⟩, ⟨hs, .refl _, rfl, rfl, rfl, Nat.le_refl _⟩, hsz, hlen, hrel⟩
  · simp only [setImm] at hx
    split at hx
    · rename_i e; cases hx; rw [e]; exact c
    · exact h.imm _ _ hx
  · have hne : i ≠ id := by intro e; subst e; rw [AHeap.set_same] at hi; cases hi
    rw [AHeap.set_ne _ _ hne] at hi
    obtain ⟨l2, x, h1, h2, h3, h4⟩ := h.own i b' hi
    refine ⟨l2, x, h1, ?_, h3, h4.mono hs (.refl _)⟩
    simp only [setImm]
    rw [if_neg]; exact h2
    intro e
    exact hne (h.inj i id l2 l (by rw [hi]; simp) (by rw [hH]; simp) h1 hρ e)
  · simp only [AHeap.set]; split
    · rfl
    · exact e
  · simp only [AHeap.set]; split
    · rfl
    · exact e
end steps
end Go.Ab
