/- A region: its operations in the order of the text, and in any order that its edges let. -/
import Derived.Test.YtdfoobfofjbjiaaAbOps
set_option linter.unusedSimpArgs false
set_option linter.unusedVariables false
namespace Go.Ab

section mono
variable {P : Program} {fr : Fr} {H : AHeap}
theorem aAppend_mono {ats : Array TypeId} {x y : AV} {K K' : AV → AHeap → Prop} (hk : ∀ v H, K v H → K' v H) (h : aAppend P ats x y H K) : aAppend P ats x y H K' := by
  obtain ⟨es, b, ys, n, h1, h2, h⟩ := h
  refine ⟨es, b, ys, n, h1, h2, ?_⟩
  split
  · rename_i e; rw [if_pos e] at h; exact ⟨h.1, hk _ _ h.2⟩
  · rename_i e; rw [if_neg e] at h
    cases x with
    | nilslice => exact ⟨h.1, fun id hid => hk _ _ (h.2 id hid)⟩
    | sliceI xs len ck =>
      cases ck with
      | none => exact h.elim
      | some c => exact ⟨h.1, h.2.1, h.2.2.1, fun id hid => hk _ _ (h.2.2.2 id hid)⟩
    | sliceR id off len es' ck =>
      obtain ⟨xs, g1, g2, g3, h⟩ := h
      refine ⟨xs, g1, g2, g3, ?_⟩
      cases ck with
      | some c =>
        simp only at h ⊢
        split
        · rename_i e; rw [if_pos e] at h; exact ⟨h.1, h.2.1, hk _ _ h.2.2⟩
        · rename_i e; rw [if_neg e] at h; exact ⟨h.1, fun id hid => hk _ _ (h.2 id hid)⟩
      | none =>
        simp only at h ⊢
        split
        · rename_i e; rw [if_pos e] at h; exact ⟨h.1, hk _ _ h.2⟩
        · rename_i e; rw [if_neg e] at h; exact ⟨h.1, h.2.1, fun id hid => hk _ _ (h.2.2 id hid)⟩
    | _ => exact h.elim

theorem aop_mono {o : Oper} {K K' : AV → AHeap → Prop} (hk : ∀ v H, K v H → K' v H) (h : aop P fr H o K) : aop P fr H o K' := by
  unfold aop at *
  split at h
  · exact hk _ _ h
  · exact hk _ _ h
  · obtain ⟨b, h1, h2⟩ := h; exact ⟨b, h1, hk _ _ h2⟩
  · obtain ⟨zs, h1, h2⟩ := h; exact ⟨zs, h1, fun id hid => hk _ _ (h2 id hid)⟩
  · obtain ⟨zs, h1, h2⟩ := h; exact ⟨zs, h1, fun id hid => hk _ _ (h2 id hid)⟩
  · obtain ⟨v, h1, h2⟩ := h; exact ⟨v, h1, hk _ _ h2⟩
  · obtain ⟨es, xs, h1, h2⟩ := h; exact ⟨es, xs, h1, hk _ _ h2⟩
  · obtain ⟨v, h1, h2⟩ := h; exact ⟨v, h1, hk _ _ h2⟩
  · obtain ⟨v, h1, h2⟩ := h; exact ⟨v, h1, hk _ _ h2⟩
  · split at h <;> first | exact hk _ _ h | exact h.elim
  · obtain ⟨v, h1, h3, h2⟩ := h; exact ⟨v, h1, h3, hk _ _ h2⟩
  · obtain ⟨v, h1, h2⟩ := h; exact ⟨v, h1, hk _ _ h2⟩
  · obtain ⟨v, h1, h2⟩ := h; exact ⟨v, h1, hk _ _ h2⟩
  · exact ⟨h.1, h.2.1, hk _ _ h.2.2⟩
  · exact hk _ _ h
  · obtain ⟨es, n, m, xs, h1, h2⟩ := h; exact ⟨es, n, m, xs, h1, fun id hid => hk _ _ (h2 id hid)⟩
  · obtain ⟨v, h1, h2⟩ := h; exact ⟨v, h1, hk _ _ h2⟩
  · obtain ⟨v, h1, h2⟩ := h; exact ⟨v, h1, hk _ _ h2⟩
  · obtain ⟨v, h1, h2⟩ := h; exact ⟨v, h1, hk _ _ h2⟩
  · obtain ⟨v, h1, h2⟩ := h; exact ⟨v, h1, hk _ _ h2⟩
  · obtain ⟨v, h1, h2⟩ := h; exact ⟨v, h1, hk _ _ h2⟩
  · exact fun id hid => hk _ _ (h id hid)
  · obtain ⟨v, h1, h2⟩ := h; exact ⟨v, h1, hk _ _ h2⟩
  · obtain ⟨v, h1, h2⟩ := h; exact ⟨v, h1, hk _ _ h2⟩
  · obtain ⟨vs, v, h1, h3, h2⟩ := h; exact ⟨vs, v, h1, h3, hk _ _ h2⟩
  · split at h
    · obtain ⟨q, xs, ys, h1, h2⟩ := h; exact ⟨q, xs, ys, h1, h2.mono hk⟩
    · split at h
      · exact aAppend_mono hk h
      · exact h.elim
    · split at h
      · obtain ⟨v, H', h1, h2⟩ := h; exact ⟨v, H', h1, hk _ _ h2⟩
      · exact h.elim
    · split at h
      · obtain ⟨v, h1, h2⟩ := h; exact ⟨v, h1, hk _ _ h2⟩
      · exact h.elim
    · split at h
      · obtain ⟨v, h1, h2⟩ := h; exact ⟨v, h1, hk _ _ h2⟩
      · exact h.elim
    · split at h
      · obtain ⟨v, h1, h2⟩ := h; exact ⟨v, h1, hk _ _ h2⟩
      · exact h.elim
    · obtain ⟨v, h1, h2⟩ := h; exact ⟨v, h1, hk _ _ h2⟩
    · obtain ⟨v, h1, h2⟩ := h; exact ⟨v, h1, hk _ _ h2⟩
    · obtain ⟨v, h1, h2⟩ := h; exact ⟨v, h1, hk _ _ h2⟩
    · obtain ⟨v, h1, h2⟩ := h; exact ⟨v, h1, hk _ _ h2⟩
    · obtain ⟨v, h1, h2⟩ := h; exact ⟨v, h1, hk _ _ h2⟩
    · exact h.elim
  · exact h.elim
end mono

/-- Whether a guarded operation runs. -/
def aguard (ops : Array Oper) (fr : Fr) (o : Oper) : Option Bool :=
  match o.guard with
  | none => some true
  | some (j, want) => match (ops[j]?).bind (·.dst) with
    | some t => match fr t with
      | .bool b => some (b == want)
      | .tuple _ => some false
      | _ => none
    | none => some false

theorem aguard_sound {M : Imm} {ρ : Locs} {fr : Fr} {a : Act} {ops : Array Oper} {o : Oper} {b : Bool} (hf : RelF M ρ fr a) (h : aguard ops fr o = some b) : Region.wanted o (yielded ops a.tmps) = b := by
  unfold aguard at h
  unfold Region.wanted
  split at h
  · rename_i hg; cases h; simp [hg]
  · rename_i j want hg
    simp only [hg]
    unfold yielded
    split at h
    · rename_i t ht
      rw [ht, Option.bind_some]
      have hr := hf.2 t
      rw [Array.getD_eq_getD_getElem?] at hr
      split at h
      · rename_i c hc; cases h
        rw [hc] at hr
        have e := hr.bool_inv
        cases hq : a.tmps[t]? with
        | none => rw [hq] at e; cases e
        | some x => rw [hq] at e; simp at e; subst e; simp
      · rename_i vs hc; cases h
        rw [hc] at hr
        obtain ⟨cs, e, _⟩ := hr.tuple_inv
        cases hq : a.tmps[t]? with
        | none => rfl
        | some x => rw [hq] at e; simp at e; subst e; rfl
      · cases h
    · rename_i ht; cases h
      rw [ht]; rfl

/-- The operations of a region in the order of the text. -/
def AWL (P : Program) (ops : Array Oper) : List Oper → Fr → AHeap → (Fr → AHeap → Prop) → Prop
  | [], fr, H, K => K fr H
  | o :: os, fr, H, K => match aguard ops fr o with
    | some true => aop P fr H o fun v H' => AWL P ops os (fr.put o.dst v) H' K
    | some false => AWL P ops os (fr.put o.dst skipped) H K
    | none => False

/-- What a piece of code leads to, in the model. -/
def Post (M : Imm) (ρ : Locs) (w : World) (n : Nat) (Q : Exit → Act → World → Prop) (e : Exit) (K : Fr → AHeap → Prop) : Prop :=
  ∀ fr' H' M' ρ' a' w', Ext M ρ w M' ρ' w' → St M' ρ' H' w' → RelF M' ρ' fr' a' → a'.tmps.size = n → K fr' H' → Q e a' w'

theorem Post.ext {M M' : Imm} {ρ ρ' : Locs} {w w' : World} {n : Nat} {Q : Exit → Act → World → Prop} {e : Exit} {K : Fr → AHeap → Prop} (h : Post M ρ w n Q e K) (he : Ext M ρ w M' ρ' w') : Post M' ρ' w' n Q e K :=
  fun fr' H' M'' ρ'' a' w'' h1 h2 h3 h4 h5 => h fr' H' M'' ρ'' a' w'' (he.trans h1) h2 h3 h4 h5

theorem AWL_sound {P : Program} {Q : Exit → Act → World → Prop} {K : Fr → AHeap → Prop} {ops : Array Oper} (l : List Nat) : ∀ (os : List Oper) (M : Imm) (ρ : Locs) (H : AHeap) (w : World) (fr : Fr) (a : Act),
    l.length = os.length → (∀ (j i : Nat), l[j]? = some i → ops[i]? = os[j]?) → (∀ o ∈ os, dstOK a.tmps.size o.dst = true) →
    St M ρ H w → RelF M ρ fr a → AWL P ops os fr H K → Post M ρ w a.tmps.size Q .normal K → wpOps P ops Q l a w := by
  induction l with
  | nil =>
    intro os M ρ H w fr a hl _ _ hs hf h hp
    have : os = [] := by cases os <;> simp_all
    subst this
    exact hp _ _ _ _ _ _ (.refl ..) hs hf rfl h
  | cons i l ih =>
    intro os M ρ H w fr a hl ho hd hs hf h hp
    cases os with
    | nil => simp at hl
    | cons o os =>
      have hi : ops[i]? = some o := ho 0 i rfl
      simp only [wpOps, hi]
      have ho' : ∀ (j i : Nat), l[j]? = some i → ops[i]? = os[j]? := fun j i' hj => ho (j + 1) i' hj
      have hdo := hd o (by simp)
      simp only [AWL] at h
      split at h
      · rename_i hg
        rw [aguard_sound hf hg, if_pos rfl]
        refine .inl (aop_sound hs hf h ?_)
        intro v H' v' M' ρ' w' he hs' hr hk
        exact ih os M' ρ' H' w' _ _ (by simpa using hl) ho' (fun o' h' => by rw [Act.put_size]; exact hd o' (by simp [h'])) hs' ((hf.ext he).put hdo hr) hk (by rw [Act.put_size]; exact hp.ext he)
      · rename_i hg
        rw [aguard_sound hf hg, if_neg (by simp)]
        exact ih os M ρ H w _ _ (by simpa using hl) ho' (fun o' h' => by rw [Act.put_size]; exact hd o' (by simp [h'])) hs (hf.put hdo (rel_skipped ..)) h (by rw [Act.put_size]; exact hp)
      · exact h.elim

theorem AWL_region {P : Program} {Q : Exit → Act → World → Prop} {K : Fr → AHeap → Prop} {ops : Array Oper} {id : Nat} {M : Imm} {ρ : Locs} {H : AHeap} {w : World} {fr : Fr} {a : Act}
    (hd : ∀ o ∈ ops.toList, dstOK a.tmps.size o.dst = true) (hs : St M ρ H w) (hf : RelF M ρ fr a) (h : AWL P ops ops.toList fr H K) (hp : Post M ρ w a.tmps.size Q .normal K) : (Code.region id ops false).wp P Q a w :=
  wp_region (AWL_sound (List.range ops.size) ops.toList M ρ H w fr a (by simp) (fun j i hj => by
    obtain ⟨hlt, e⟩ := List.getElem?_eq_some_iff.1 hj
    simp at e; subst e; simp) hd hs hf h hp)

/-! any order -/
/-- The operations behind which the edges put an operation, themselves and through others. -/
def direct (ops : Array Oper) (j : Nat) : List Nat :=
  match ops[j]? with
  | some o => (o.after.toList.filter (Region.binds .any ·)).map (·.on)
  | none => []
/-- For each of the first operations, as bits, those behind which it runs, directly or through others. -/
def masks (ops : Array Oper) : Nat → List Nat
  | 0 => []
  | n + 1 => masks ops n ++ [(direct ops n).foldl (fun m i => m ||| 2 ^ i ||| (masks ops n).getD i 0) 0]
def edgesOK (ops : Array Oper) : Bool := (List.range ops.size).all fun i => (direct ops i).all fun j => decide (j < i)

/-- How an operation of a region stands to the others: it leaves the heap as it is, and (s) may be followed by what changes the heap or (q) not; (b) the others run all before it or all behind it; or (m) it changes the heap, and some may run before it or behind it. -/
inductive Kind where
  | s | q | b | m | a
  deriving DecidableEq

/-- An operation that makes a new block, and does nothing else. -/
def isNew (o : Oper) : Bool := match o.op with | .alloc _ | .box .. | .makeSlice .. | .makeMap _ none => true | _ => false
/-- An operation whose value stays as it is when a new block is made. -/
def stableOp (o : Oper) : Bool := match o.op with
  | .move _ | .assign _ | .pick .. | .build .. | .buildSlice .. | .nilCheck _ | .binOp .. | .unOp .. | .convert .. | .makeFunc .. | .fieldAddr .. | .field .. | .indexAddr .. | .index .. | .extract .. | .load .. => true
  | _ => false
/-- A new block, beside what there is. -/
def aNew (P : Program) (fr : Fr) (o : Oper) : Option ((Nat → AV) × Blk) := match o.op with
  | .alloc e => (zeroCells P e).map fun zs => (fun id => .ptrR id 0, .cells zs)
  | .box _ x => ((ev fr x).cells).map fun zs => (fun id => .ptrR id 0, .cells zs)
  | .makeSlice t l c => (aMakeSlice P t (ev fr l) (ev fr c)).map fun r => (fun id => .sliceR id 0 r.2.1 r.1 (some r.2.2.1), .cells r.2.2.2)
  | .makeMap _ none => some (fun id => .map id, .map [])
  | _ => none
theorem aop_new {P : Program} {fr : Fr} {H : AHeap} {o : Oper} (hn : isNew o = true) (K : AV → AHeap → Prop) : aop P fr H o K ↔ ∃ z, aNew P fr o = some z ∧ ∀ id, H id = none → K (z.1 id) (H.set id (some z.2)) := by
  unfold isNew at hn
  split at hn <;> (try cases hn) <;> rename_i ho <;> unfold aop aNew <;> simp only [ho]
  · constructor
    · rintro ⟨zs, h1, h2⟩; exact ⟨_, by rw [h1]; rfl, h2⟩
    · rintro ⟨z, h1, h2⟩
      obtain ⟨zs, h3, rfl⟩ := Option.map_eq_some_iff.1 h1
      exact ⟨zs, h3, h2⟩
  · constructor
    · rintro ⟨zs, h1, h2⟩; exact ⟨_, by rw [h1]; rfl, h2⟩
    · rintro ⟨z, h1, h2⟩
      obtain ⟨zs, h3, rfl⟩ := Option.map_eq_some_iff.1 h1
      exact ⟨zs, h3, h2⟩
  · constructor
    · rintro ⟨es, n, m, xs, h1, h2⟩; exact ⟨_, by rw [h1]; rfl, h2⟩
    · rintro ⟨z, h1, h2⟩
      obtain ⟨⟨es, n, m, xs⟩, h3, rfl⟩ := Option.map_eq_some_iff.1 h1
      exact ⟨es, n, m, xs, h3, h2⟩
  · constructor
    · intro h; exact ⟨_, rfl, h⟩
    · rintro ⟨z, h1, h2⟩; cases h1; exact h2
theorem aLoad_set {P : Program} {t : TypeId} {p v : AV} {H : AHeap} {id : Nat} {b : Option Blk} (hid : H id = none) (h : aLoad P t p H = some v) : aLoad P t p (H.set id b) = some v := by
  have hp : ∀ x, ptrCells H p = some x → ptrCells (H.set id b) p = some x := by
    intro x hx
    cases p with
    | ptrR i off =>
      simp only [ptrCells] at hx ⊢
      have hne : i ≠ id := by rintro rfl; rw [hid] at hx; cases hx
      rw [AHeap.set_ne _ _ hne]; exact hx
    | _ => exact hx
  unfold aLoad at h ⊢
  cases hc : ptrCells H p with
  | none => rw [hc] at h; split at h <;> simp_all
  | some x => rw [hc] at h; rw [hp _ hc]; exact h
theorem aop_stable {P : Program} {fr : Fr} {H : AHeap} {o : Oper} (hs : stableOp o = true) {v : AV} {id : Nat} (b : Option Blk) (hid : H id = none) (h : aop P fr H o fun v' H' => v' = v ∧ H' = H) : aop P fr (H.set id b) o fun v' H' => v' = v ∧ H' = H.set id b := by
  unfold stableOp at hs
  unfold aop at h ⊢
  split at hs <;> (try cases hs) <;> rename_i ho <;> simp only [ho] at h ⊢
  · exact ⟨h.1, trivial⟩
  · exact ⟨h.1, trivial⟩
  · obtain ⟨c, h1, h2⟩ := h; exact ⟨c, h1, h2.1, trivial⟩
  · obtain ⟨c, h1, h2⟩ := h; exact ⟨c, h1, h2.1, trivial⟩
  · obtain ⟨c, d, h1, h2⟩ := h; exact ⟨c, d, h1, h2.1, trivial⟩
  · split at h <;> first | exact ⟨h.1, trivial⟩ | exact h.elim
  · obtain ⟨c, h1, h3, h2⟩ := h; exact ⟨c, h1, h3, h2.1, trivial⟩
  · obtain ⟨c, h1, h2⟩ := h; exact ⟨c, h1, h2.1, trivial⟩
  · obtain ⟨c, h1, h2⟩ := h; exact ⟨c, h1, h2.1, trivial⟩
  · exact ⟨h.1, trivial⟩
  · obtain ⟨c, h1, h2⟩ := h; exact ⟨c, h1, h2.1, trivial⟩
  · obtain ⟨c, h1, h2⟩ := h; exact ⟨c, h1, h2.1, trivial⟩
  · obtain ⟨c, h1, h2⟩ := h; exact ⟨c, h1, h2.1, trivial⟩
  · obtain ⟨c, h1, h2⟩ := h; exact ⟨c, h1, h2.1, trivial⟩
  · obtain ⟨c, d, h1, h3, h2⟩ := h; exact ⟨c, d, h1, h3, h2.1, trivial⟩
  · obtain ⟨c, h1, h2⟩ := h; exact ⟨c, aLoad_set hid h1, h2.1, trivial⟩

/-- Two operations that do not look at one another's slots. -/
def apart (ops : Array Oper) (x y : Oper) : Bool :=
  match x.dst, y.dst with
  | some d, some e => d != e && !(y.looksAt ops).contains d && !(x.looksAt ops).contains e
  | some d, none => !(y.looksAt ops).contains d
  | none, some e => !(x.looksAt ops).contains e
  | none, none => true
def pairOK (ops : Array Oper) (t : List Nat) (p q : Nat × Kind) : Bool :=
  p.1 != q.1 && ((t.getD q.1 0).testBit p.1 ||
    match ops[p.1]?, ops[q.1]? with
    | some x, some y => apart ops x y && (decide ((p.2 = .s ∨ p.2 = .q ∧ q.2 ≠ .m) ∧ q.2 ≠ .b ∧ q.2 ≠ .a) || (decide (q.2 = .a) && isNew y && ((decide (p.2 = .s ∨ p.2 = .q) && stableOp x) || (decide (p.2 = .a) && isNew x))))
    | _, _ => false)
def pairs (ops : Array Oper) (t : List Nat) : List (Nat × Kind) → Bool
  | [] => true
  | p :: l => l.all (pairOK ops t p) && pairs ops t l
/-- An order in which the operations of a region may be gone through, for all orders that the edges let. -/
def planOK (ops : Array Oper) (pl : List (Nat × Kind)) : Bool :=
  edgesOK ops && pairs ops (masks ops ops.size) pl && (List.range ops.size).all (fun i => (pl.map (·.1)).contains i) && pl.all fun p => decide (p.1 < ops.size)
def opsOf (ops : Array Oper) (pl : List (Nat × Kind)) : List (Oper × Kind) := pl.filterMap fun p => (ops[p.1]?).map fun o => (o, p.2)

/-- An operation that has run, and gives the same on another heap. -/
def Again (P : Program) (H : AHeap) : List (Oper × Fr × AV) → Prop
  | [] => True
  | (o, fr, v) :: l => (aop P fr H o fun v' H' => v' = v ∧ H' = H) ∧ Again P H l

def pend (k : Kind) (o : Oper) (fr : Fr) (v : AV) (pe : List (Oper × Fr × AV)) : List (Oper × Fr × AV) := if k = .s then (o, fr, v) :: pe else pe
theorem Again.tl {P : Program} {H : AHeap} {k : Kind} {o : Oper} {fr : Fr} {v : AV} {pe : List (Oper × Fr × AV)} (h : Again P H (pend k o fr v pe)) : Again P H pe := by
  unfold pend at h
  split at h
  · exact h.2
  · exact h
theorem Again.map {P : Program} {H : AHeap} {k : Kind} {o : Oper} {fr fr' : Fr} {v : AV} {pe pe' : List (Oper × Fr × AV)} (h : Again P H (pend k o fr v pe)) (ho : ∀ K, aop P fr' H o K = aop P fr H o K) (hp : Again P H pe → Again P H pe') :
    Again P H (pend k o fr' v pe') := by
  unfold pend at h ⊢
  split at h
  · rename_i e; rw [if_pos e]; exact ⟨by rw [ho]; exact h.1, hp h.2⟩
  · rename_i e; rw [if_neg e]; exact hp h

def AWD (P : Program) (ops : Array Oper) : List (Oper × Kind) → List (Oper × Fr × AV) → Fr → AHeap → (Fr → AHeap → Prop) → Prop
  | [], _, fr, H, K => K fr H
  | (o, k) :: os, pe, fr, H, K => match aguard ops fr o with
    | some true =>
      if k = .b then aop P fr H o fun v H' => AWD P ops os [] (fr.put o.dst v) H' K
      else if k = .m then aop P fr H o fun v H' => Again P H' pe ∧ AWD P ops os pe (fr.put o.dst v) H' K
      else if k = .a then aop P fr H o fun v H' => AWD P ops os pe (fr.put o.dst v) H' K
      else ∃ v, aop P fr H o (fun v' H' => v' = v ∧ H' = H) ∧ AWD P ops os (pend k o fr v pe) (fr.put o.dst v) H K
    | some false => AWD P ops os pe (fr.put o.dst skipped) H K
    | none => False
end Go.Ab
