/- One operation, on abstract values and heaps. -/
import Derived.Test.YtdfoobfofjbjiaaAbMap
set_option linter.unusedSimpArgs false
set_option linter.unusedVariables false
namespace Go.Ab

abbrev Fr := Nat → AV
def Fr.put (fr : Fr) (d : Option Tmp) (v : AV) : Fr :=
  match d with
  | some d => fun i => if i = d then v else fr i
  | none => fr

def ev (fr : Fr) : Operand → AV
  | .tmp t => fr t
  | .const v => .ofV v
  | .global _ => .junk
  | .func f => .func (.func f) [] []

def RelF (M : Imm) (ρ : Locs) (fr : Fr) (a : Act) : Prop := a.defers = [] ∧ ∀ t, Rel M ρ (fr t) (a.tmps.getD t undef)

section frames
variable {M M' : Imm} {ρ ρ' : Locs} {fr : Fr} {a : Act}
theorem RelF.mono (h : RelF M ρ fr a) (hM : Sub M M') (hρ : Sub ρ ρ') : RelF M' ρ' fr a := ⟨h.1, fun t => (h.2 t).mono hM hρ⟩
theorem RelF.ext {w w' : World} (h : RelF M ρ fr a) (he : Ext M ρ w M' ρ' w') : RelF M' ρ' fr a := h.mono he.imm he.loc
def dstOK (n : Nat) : Option Tmp → Bool
  | some d => decide (d < n)
  | none => true
theorem Act.put_size (a : Act) (d : Option Tmp) (v : Value) : (a.put d v).tmps.size = a.tmps.size := by cases d <;> simp [Act.put]
theorem Act.put_defers' (a : Act) (d : Option Tmp) (v : Value) : (a.put d v).defers = a.defers := by cases d <;> rfl
theorem RelF.put (h : RelF M ρ fr a) {d : Option Tmp} (hd : dstOK a.tmps.size d = true) {v : AV} {v' : Value} (hv : Rel M ρ v v') : RelF M ρ (fr.put d v) (a.put d v') := by
  refine ⟨by rw [Act.put_defers']; exact h.1, fun t => ?_⟩
  cases d with
  | none => exact h.2 t
  | some d =>
    simp only [dstOK, decide_eq_true_eq] at hd
    simp only [Fr.put, Act.put]
    by_cases e : t = d
    · subst e
      rw [if_pos rfl]
      simp only [Array.getD_eq_getD_getElem?, Array.getElem?_setIfInBounds_self_of_lt hd, Option.getD_some]
      exact hv
    · rw [if_neg e]
      have := h.2 t
      simp only [Array.getD_eq_getD_getElem?] at this ⊢
      rw [Array.getElem?_setIfInBounds_ne (fun e' => e e'.symm)]
      exact this
theorem RelF.ev (h : RelF M ρ fr a) (x : Operand) : Rel M ρ (Ab.ev fr x) (a.eval x) := by
  cases x with
  | tmp t => exact h.2 t
  | const v => exact Rel.ofV v
  | global g => exact .junk _
  | func f => exact .func _ [] [] #[] #[] rfl rfl (fun j h => by simp at h) (fun j h => by simp at h)
theorem RelF.evs (h : RelF M ρ fr a) (xs : Array Operand) : RelL M ρ (xs.toList.map (Ab.ev fr)) (xs.map a.eval) := by
  refine ⟨by simp, fun j h1 h2 => ?_⟩
  simp only [List.getElem_map, Array.getElem_map, Array.getElem_toList]
  exact h.ev _
theorem RelF.evo (h : RelF M ρ fr a) (x : Option Operand) : RelO M ρ (x.map (Ab.ev fr)) (x.map a.eval) := by
  cases x with
  | none => trivial
  | some x => exact h.ev x
end frames

/-- A function is entered, or one of the model's own entries gives its value at once. -/
def Invokes (P : Program) (f : FuncId) (args : Array Value) (w : World) (R : Value → World → Prop) : Prop :=
  match (callFunc f args).run P w with
  | .ok (.enter g xs) w' => Calls P g xs w' fun e w'' => ∃ v, e = .returned v ∧ R v w''
  | .ok (.value v) w' => R v w'
  | _ => False

/-- What a call does, on abstract values and heaps. -/
def ACalls (P : Program) (f : FuncId) (args : List AV) (H : AHeap) (K : AV → AHeap → Prop) : Prop :=
  ∀ M ρ w cargs, St M ρ H w → RelL M ρ args cargs → Invokes P f cargs w fun v' w' =>
    ∃ v M' ρ' H', Ext M ρ w M' ρ' w' ∧ St M' ρ' H' w' ∧ Rel M' ρ' v v' ∧ K v H'

theorem Invokes.mono {P : Program} {f : FuncId} {args : Array Value} {w : World} {R R' : Value → World → Prop} (h : Invokes P f args w R) (hr : ∀ v w', R v w' → R' v w') : Invokes P f args w R' := by
  unfold Invokes at *
  split at h
  · exact Calls.mono h (fun e w' ⟨v, e1, e2⟩ => ⟨v, e1, hr _ _ e2⟩)
  · exact hr _ _ h
  · exact h.elim
theorem ACalls.mono {P : Program} {f : FuncId} {args : List AV} {H : AHeap} {K K' : AV → AHeap → Prop} (h : ACalls P f args H K) (hk : ∀ v H', K v H' → K' v H') : ACalls P f args H K' :=
  fun M ρ w cargs hs hr => (h M ρ w cargs hs hr).mono fun _ _ ⟨v, M', ρ', H', a, b, c, d⟩ => ⟨v, M', ρ', H', a, b, c, hk _ _ d⟩
/-- What is not needed any more may be forgotten. -/
theorem ACalls.drop {P : Program} {f : FuncId} {args : List AV} {H : AHeap} {K : AV → AHeap → Prop} (h : ACalls P f args H fun v H' => ∃ H'', AHeap.le H'' H' ∧ K v H'') : ACalls P f args H K :=
  fun M ρ w cargs hs hr => (h M ρ w cargs hs hr).mono fun _ _ ⟨v, M', ρ', _, a, b, c, H'', d, e⟩ => ⟨v, M', ρ', H'', a, b.drop d, c, e⟩

/-! struct values -/
def tPlaces (P : Program) (t : TypeId) : Option (List (Nat × Nat)) :=
  match P.underlying t with
  | some (.struct fs) => fs.toList.mapM fun f => (tSize P f.type).map fun n => (f.offset, n)
  | _ => none
def aBuild (P : Program) (t : TypeId) (parts : List (Nat × AV)) : Option AV :=
  match tPlaces P t, zeroCells P t with
  | some ps, some zs => (aFill (ps[·]?) zs parts).map .agg
  | _, _ => none

theorem run_mapM_list {P : Program} {w : World} {α β : Type} (f : α → Sem β) (g : α → Option β) (hf : ∀ x y, g x = some y → (f x).run P w = .ok y w) :
    ∀ (l : List α) (ys : List β), l.mapM g = some ys → (l.mapM f).run P w = .ok ys w
  | [], ys, h => by
    simp only [List.mapM_nil] at h ⊢
    cases h; rfl
  | x :: l, ys, h => by
    simp only [List.mapM_cons] at h ⊢
    cases hx : g x with
    | none => simp [hx] at h
    | some y =>
      cases hl : l.mapM g with
      | none => simp [hx, hl] at h
      | some zs =>
        simp [hx, hl] at h; subst h
        simp [hf x y hx, run_mapM_list f g hf l zs hl]

theorem aBuild_gives {P : Program} {M : Imm} {ρ : Locs} {w : World} {t : TypeId} {parts : List (Nat × AV)} {parts' : Array (Nat × Value)} {v : AV} (h : aBuild P t parts = some v) (hl : parts.length = parts'.size)
    (hp : ∀ (j : Nat) (p : Nat × AV) (q : Nat × Value), parts[j]? = some p → parts'[j]? = some q → p.1 = q.1 ∧ Rel M ρ p.2 q.2) : Gives P M ρ w (Instr.build t parts') v := by
  unfold aBuild at h
  split at h
  case h_2 => cases h
  rename_i ps zs hps hzs
  obtain ⟨xs, h1, rfl⟩ := Option.map_eq_some_iff.1 h
  obtain ⟨z, hz1, hz2⟩ := zeroCells_spec (M := M) (ρ := ρ) hzs
  unfold tPlaces at hps
  split at hps
  case h_2 => cases hps
  rename_i fs hu
  obtain ⟨ds, g1, g2⟩ := aFill_spec (M := M) (ρ := ρ) _ parts parts'.toList zs xs _ h1 hz2 (by simpa using hl) (fun j p q a b => hp j p q a (by simpa using b))
  have hm := run_mapM_list (P := P) (w := w) (fun f : Field => (do pure (f.offset, ← sizeOf f.type) : Sem (Nat × Nat))) _ (fun f y hy => by
    obtain ⟨n, hn, rfl⟩ := Option.map_eq_some_iff.1 hy
    simp [run_sizeOf hn]) fs.toList ps hps
  have hm' : (fs.mapM fun f => (do pure (f.offset, ← sizeOf f.type) : Sem (Nat × Nat))).run P w = .ok ps.toArray w := by
    rw [Array.mapM_eq_mapM_toList, Sem.run_map, hm]; rfl
  refine ⟨.agg ds, w.drawn, ?_, .agg _ _ g2.1 g2.2⟩
  have g1' : Instr.fill (fun x => ps[x]?) z.cells parts'.toList = some ds := g1
  have hm2 : (fs.mapM fun f => ((fun n => (f.offset, n)) <$> sizeOf f.type : Sem (Nat × Nat))).run P w = .ok ps.toArray w := by simpa using hm'
  simp [Instr.build, run_zeroValue hz1, run_underlying hu, hm2, g1']

/-- Two nil values of an interface type are held against each other only where one of both is written out. -/
def nilsOK (x y : Operand) : AV → AV → Prop
  | .nilface, .nilface => (match x, y with | .const _, _ | _, .const _ => True | _, _ => False)
  | _, _ => True

def aop (P : Program) (fr : Fr) (H : AHeap) (o : Oper) (K : AV → AHeap → Prop) : Prop :=
  match o.op with
  | .move x | .assign x => K (ev fr x) H
  | .pick c x y => ∃ b, ev fr c = .bool b ∧ K (if b then ev fr x else ev fr y) H
  | .alloc e => ∃ zs, zeroCells P e = some zs ∧ ∀ id, H id = none → K (.ptrR id 0) (H.set id (some (.cells zs)))
  | .box _ x => ∃ xs, (ev fr x).cells = some xs ∧ ∀ id, H id = none → K (.ptrR id 0) (H.set id (some (.cells xs)))
  | .build t ps => ∃ v, aBuild P t (ps.toList.map fun p => (p.1, ev fr p.2)) = some v ∧ K v H
  | .buildSlice t len ps => ∃ es xs, aBuildSlice P t len (ps.toList.map fun p => (p.1, ev fr p.2)) = some (es, xs) ∧
      K (.sliceI xs len (some len)) H
  | .load t p => ∃ v, aLoad P t (ev fr p) H = some v ∧ K v H
  | .store t p x => ∃ H', aStore P t (ev fr p) (ev fr x) H = some H' ∧ K skipped H'
  | .nilCheck x => match ev fr x with
    | .ptrI xs off => K (.ptrI xs off) H
    | .ptrR id off => K (.ptrR id off) H
    | .func (.func f) xs ys => K (.func (.func f) xs ys) H
    | _ => False
  | .binOp op t x y _ => ∃ v, aBin P op t (ev fr x) (ev fr y) = some v ∧ nilsOK x y (ev fr x) (ev fr y) ∧ K v H
  | .unOp op _ x => ∃ v, aUn op (ev fr x) = some v ∧ K v H
  | .convert s d x => ∃ v, aConv P s d (ev fr x) = some v ∧ K v H
  | .makeInterface t x => isIfaceT P t = false ∧ (P.underlying t).isSome = true ∧ K (.iface t (ev fr x)) H
  | .makeFunc fn xs ys => K (.func fn (xs.toList.map (ev fr)) (ys.toList.map (ev fr))) H
  | .makeSlice t l c => ∃ es n m xs, aMakeSlice P t (ev fr l) (ev fr c) = some (es, n, m, xs) ∧ ∀ id, H id = none → K (.sliceR id 0 n es (some m)) (H.set id (some (.cells xs)))
  | .slice t x lo hi mx => ∃ v, aSlice P t (ev fr x) (lo.map (ev fr)) (hi.map (ev fr)) (mx.map (ev fr)) H = some v ∧ K v H
  | .fieldAddr t x f => ∃ v, aFieldAddr P t (ev fr x) f = some v ∧ K v H
  | .field t x f => ∃ v, aField P t (ev fr x) f = some v ∧ K v H
  | .indexAddr t x i => ∃ v, aIndexAddr P t (ev fr x) (ev fr i) = some v ∧ K v H
  | .index t x i => ∃ v, aIndex P t (ev fr x) (ev fr i) = some v ∧ K v H
  | .makeMap _ none => ∀ id, H id = none → K (.map id) (H.set id (some (.map [])))
  | .lookup t m k ok => ∃ v, aLookup P t (ev fr m) (ev fr k) ok H = some v ∧ K v H
  | .mapUpdate t m k x => ∃ H', aMapUpdate P t (ev fr m) (ev fr k) (ev fr x) H = some H' ∧ K skipped H'
  | .extract x i => ∃ vs v, ev fr x = .tuple vs ∧ vs[i]? = some v ∧ K v H
  | .call c => match c.callee with
    | .value f => ∃ g xs ys, ev fr f = .func (.func g) xs ys ∧ ACalls P g (xs ++ c.args.toList.map (ev fr) ++ ys) H K
    | .builtin .append => match c.args.toList.map (ev fr) with
      | [s, x] => aAppend P c.argTypes s x H K
      | _ => False
    | .builtin .copy => match c.args.toList.map (ev fr) with
      | [d, x] => ∃ v H', aCopy P c.argTypes d x H = some (v, H') ∧ K v H'
      | _ => False
    | .builtin .len => match c.args.toList.map (ev fr) with
      | [x] => ∃ v, aLen P c.argTypes x H = some v ∧ K v H
      | _ => False
    | .builtin .cap => match c.args.toList.map (ev fr) with
      | [x] => ∃ v, aCap P c.argTypes x = some v ∧ K v H
      | _ => False
    | .builtin .clear => match c.args.toList.map (ev fr) with
      | [x] => ∃ H', aClear P c.argTypes x H = some H' ∧ K skipped H'
      | _ => False
    | .builtin .max => ∃ v, aFold aMax2 (c.args.toList.map (ev fr)) = some v ∧ K v H
    | .builtin .min => ∃ v, aFold aMin2 (c.args.toList.map (ev fr)) = some v ∧ K v H
    | .builtin .complex => ∃ v, aComplexOf (c.args.toList.map (ev fr)) = some v ∧ K v H
    | .builtin .real => ∃ v, aReal (c.args.toList.map (ev fr)) = some v ∧ K v H
    | .builtin .imag => ∃ v, aImag (c.args.toList.map (ev fr)) = some v ∧ K v H
    | _ => False
  | _ => False

section sound
variable {P : Program} {M : Imm} {ρ : Locs} {H : AHeap} {w : World} {fr : Fr} {a : Act} {o : Oper} {K : AV → AHeap → Prop} {next : Act → World → Prop} {Q : Exit → Act → World → Prop}

/-- What comes behind an operation. -/
def Then (M : Imm) (ρ : Locs) (w : World) (a : Act) (o : Oper) (K : AV → AHeap → Prop) (next : Act → World → Prop) : Prop :=
  ∀ v H' v' M' ρ' w', Ext M ρ w M' ρ' w' → St M' ρ' H' w' → Rel M' ρ' v v' → K v H' → next (a.put o.dst v') w'

theorem wp_of_does {s : Sem Value} {v : AV} {H' : AHeap} (hn : Then M ρ w a o K next) (hd : Does P M ρ w s v H') (hk : K v H') (he : (execOp a.eval o).run P w = (s.run P w).andThen fun v w' => .ok (.value v) w') :
    o.wp P a w next Q := by
  obtain ⟨v', w', M', ρ', h1, h2, h3, h4⟩ := hd
  unfold Oper.wp
  rw [he, h1]
  exact hn v H' v' M' ρ' w' h2 h3 h4 hk
theorem wp_of_gives {s : Sem Value} {v : AV} (hs : St M ρ H w) (hn : Then M ρ w a o K next) (hd : Gives P M ρ w s v) (hk : K v H) (he : (execOp a.eval o).run P w = (s.run P w).andThen fun v w' => .ok (.value v) w') :
    o.wp P a w next Q := wp_of_does hn (.of_gives hs hd) hk he
theorem v_run (s : Sem Value) : ((do pure (.value (← s)) : Sem Next)).run P w = (s.run P w).andThen fun v w' => .ok (.value v) w' := by simp

theorem call_builtin {c : Call} {b : Builtin} {s : Sem Value} (ho : o.op = .call c) (hc : c.callee = .builtin b)
    (hb : ∀ consts, builtin b c.argTypes o.type consts (c.args.map a.eval) = (do pure (.value (← s)))) : (execOp a.eval o).run P w = (s.run P w).andThen fun v w' => .ok (.value v) w' := by
  simp only [execOp, ho, resolve, hc, Sem.run_bind, Sem.run_pure, Result.andThen_ok, invoke, hb]

theorem map2 {c : Call} {x y : AV} (hf : RelF M ρ fr a) (h : c.args.toList.map (ev fr) = [x, y]) : ∃ x' y', c.args.map a.eval = #[x', y'] ∧ Rel M ρ x x' ∧ Rel M ρ y y' := by
  have := hf.evs c.args
  rw [h] at this
  exact this.pair
theorem map1 {c : Call} {x : AV} (hf : RelF M ρ fr a) (h : c.args.toList.map (ev fr) = [x]) : ∃ x', c.args.map a.eval = #[x'] ∧ Rel M ρ x x' := by
  have := hf.evs c.args
  rw [h] at this
  exact this.single
theorem RelF.parts (hf : RelF M ρ fr a) (ps : Array (Nat × Operand)) : (ps.toList.map fun p => (p.1, Ab.ev fr p.2)).length = (ps.map fun (i, x) => (i, a.eval x)).size ∧
    ∀ (j : Nat) (p : Nat × AV) (q : Nat × Value), (ps.toList.map fun p => (p.1, Ab.ev fr p.2))[j]? = some p → (ps.map fun (i, x) => (i, a.eval x))[j]? = some q → p.1 = q.1 ∧ Rel M ρ p.2 q.2 := by
  refine ⟨by simp, fun j p q hp hq => ?_⟩
  simp only [List.getElem?_map, Array.getElem?_toList, Array.getElem?_map] at hp hq
  cases hj : ps[j]? with
  | none => rw [hj] at hp; cases hp
  | some x =>
    rw [hj] at hp hq
    simp at hp hq
    subst hp hq
    exact ⟨rfl, hf.ev _⟩

def isC : Operand → Bool
  | .const _ => true
  | _ => false
theorem eqGuard_run {op : BinOp} {t : TypeId} {x y : Operand} {v x' y' : AV} {u u' : Value} (h : aBin P op t x' y' = some v) (hx : Rel M ρ x' u) (hy : Rel M ρ y' u')
    (hg : nilsOK x y x' y') : (eqGuard op t x y u u').run P w = .ok () w := by
  have hnn : u = .nilIface → u' = .nilIface → (isC x || isC y) = true := by
    intro e1 e2
    subst e1 e2
    cases hx <;> first
      | (cases hy <;> first
          | (cases x <;> cases y <;> first | rfl | exact hg.elim)
          | (simp [aBin] at h))
      | (cases hy <;> simp [aBin] at h)
  have hag : ∀ xs ys, ¬ (u = .agg xs ∧ u' = .agg ys) := by
    rintro xs ys ⟨e1, e2⟩
    subst e1 e2
    cases hx <;> cases hy <;> simp [aBin] at h
  have key : (eqGuard .eql t x y u u').run P w = .ok () w ∧ (eqGuard .neq t x y u u').run P w = .ok () w := by
    unfold eqGuard
    simp only [Bool.not_true, Bool.false_eq_true, if_false]
    constructor
    all_goals
      split
      · have := hnn rfl rfl
        cases x <;> cases y <;> first | rfl | (simp [isC] at this)
      · exact absurd ⟨rfl, rfl⟩ (hag _ _)
      · rfl
  cases op <;> first | exact key.1 | exact key.2 | rfl

theorem aop_sound (hs : St M ρ H w) (hf : RelF M ρ fr a) (h : aop P fr H o K) (hn : Then M ρ w a o K next) : o.wp P a w next Q := by
  unfold aop at h
  split at h
  · rename_i x ho
    exact wp_of_gives hs hn (.pure w (hf.ev x)) h (by simp [execOp, ho])
  · rename_i x ho
    exact wp_of_gives hs hn (.pure w (hf.ev x)) h (by simp [execOp, ho])
  · rename_i c x y ho
    obtain ⟨b, hb, hk⟩ := h
    have hc := hf.ev c
    rw [hb] at hc
    have hc' := hc.bool_inv
    refine wp_of_gives (s := pure (if b then a.eval x else a.eval y)) hs hn (.pure w ?_) hk (by simp [execOp, ho, hc', asBool])
    split <;> exact hf.ev _
  · rename_i e ho
    obtain ⟨zs, hz, hk⟩ := h
    obtain ⟨id, h1, h2⟩ := hs.fresh
    exact wp_of_does hn (alloc_does hs hz h1 h2 (.tuple #[])) (hk id h2) (by simp only [execOp, ho]; exact v_run _)
  · rename_i e x ho
    obtain ⟨xs, hc, hk⟩ := h
    obtain ⟨id, h1, h2⟩ := hs.fresh
    exact wp_of_does hn (newVar_does hs (hf.ev x) hc e h1 h2) (hk id h2) (by simp only [execOp, ho]; exact v_run _)
  · rename_i t ps ho
    obtain ⟨v, hv, hk⟩ := h
    have hp := hf.parts ps
    exact wp_of_gives hs hn (aBuild_gives hv hp.1 hp.2) hk (by simp only [execOp, ho]; exact v_run _)
  · rename_i t len ps ho
    obtain ⟨es, xs, hv, hk⟩ := h
    have hp := hf.parts ps
    obtain ⟨e, cs, hr, hcs, hrun⟩ := aBuildSlice_run hv hp.1 hp.2
    obtain ⟨g1, g2⟩ := hs.allocI (.cells cs e)
    have hr' : RelL (setImm M w.heap.size (.cells cs e)) ρ xs cs := hr.ext g2
    exact wp_of_does hn ⟨_, _, _, _, hrun w, g2, g1, .sliceI xs len len w.heap.size 0 (some len) cs e (0, 0) (Nat.le_refl _) (fun n hn => by cases hn; rfl) (setImm_same ..) (by simp [hr.1])
      (fun j h1 h2 => by have := hr'.2 j h1 (by simpa using h2); simpa using this)⟩ hk (by simp only [execOp, ho]; exact v_run _)
  · rename_i t p ho
    obtain ⟨v, hv, hk⟩ := h
    exact wp_of_gives hs hn (aLoad_gives hs hv (hf.ev p)) hk (by simp only [execOp, ho]; exact v_run _)
  · rename_i t p x ho
    obtain ⟨H', hv, hk⟩ := h
    obtain ⟨w', h1, h2, h3⟩ := aStore_does (P := P) hs hv (hf.ev p) (hf.ev x)
    unfold Oper.wp
    simp only [execOp, ho, Sem.run_bind, h1, Result.andThen_ok, Sem.run_pure]
    exact hn _ _ _ _ _ _ h2 h3 (rel_skipped _ _) hk
  · rename_i x ho
    have hx := hf.ev x
    split at h
    · rename_i xs off e
      rw [e] at hx
      refine wp_of_gives (s := pure (a.eval x)) hs hn (.pure w hx) h ?_
      generalize hu : a.eval x = u at hx
      cases hx; simp only [execOp, ho, hu]; rfl
    · rename_i id off e
      rw [e] at hx
      refine wp_of_gives (s := pure (a.eval x)) hs hn (.pure w hx) h ?_
      generalize hu : a.eval x = u at hx
      cases hx; simp only [execOp, ho, hu]; rfl
    · rename_i f xs ys e
      rw [e] at hx
      refine wp_of_gives (s := pure (a.eval x)) hs hn (.pure w hx) h ?_
      generalize hu : a.eval x = u at hx
      cases hx; simp only [execOp, ho, hu]; rfl
    · exact h.elim
  · rename_i op t x y u ho
    obtain ⟨v, hv, hg, hk⟩ := h
    refine wp_of_gives hs hn (aBin_gives w hv (hf.ev x) (hf.ev y)) hk ?_
    have := eqGuard_run (P := P) (w := w) hv (hf.ev x) (hf.ev y) hg
    simp only [execOp, ho, Sem.run_bind, this, Result.andThen_ok, Sem.run_pure]
  · rename_i op t x ho
    obtain ⟨v, hv, hk⟩ := h
    exact wp_of_gives hs hn (aUn_gives hv (hf.ev x)) hk (by simp only [execOp, ho]; exact v_run _)
  · rename_i s d x ho
    obtain ⟨v, hv, hk⟩ := h
    exact wp_of_gives hs hn (aConv_gives hv (hf.ev x)) hk (by simp only [execOp, ho]; exact v_run _)
  · rename_i t x ho
    obtain ⟨h1, h2, hk⟩ := h
    obtain ⟨d, hd⟩ := Option.isSome_iff_exists.1 h2
    refine wp_of_gives (s := Instr.makeInterface t (a.eval x)) hs hn ⟨.iface t (a.eval x), w.drawn, ?_, .iface t _ _ (hf.ev x)⟩ hk (by simp only [execOp, ho]; exact v_run _)
    unfold isIfaceT at h1
    rw [hd] at h1
    cases d <;> first | (simp [Instr.makeInterface, run_underlying hd]; done) | (simp at h1)
  · rename_i fn xs ys ho
    have h1 := hf.evs xs
    have h2 := hf.evs ys
    exact wp_of_gives (s := Instr.makeFunc fn (xs.map a.eval) (ys.map a.eval)) hs hn (.pure w (.func fn _ _ _ _ h1.1 h2.1 h1.2 h2.2)) h (by simp only [execOp, ho]; exact v_run _)
  · rename_i t l c ho
    obtain ⟨es, n, m, xs, hv, hk⟩ := h
    obtain ⟨e, cs, hr, hcs, hle, hrun⟩ := aMakeSlice_run (w := w) hv (hf.ev l) (hf.ev c)
    obtain ⟨id, h1, h2⟩ := hs.fresh
    obtain ⟨g1, g2⟩ := hs.alloc h1 h2 (.cells cs e) (.cells xs) cs.size hr.blk
    exact wp_of_does hn ⟨_, _, _, _, hrun, g2, g1, .sliceR id 0 n es m _ _ _ hle (fun n hn => by cases hn; rfl) (setLoc_same ..) (.inr rfl) (by simp [hcs]) (fun hn => by cases hn)⟩ (hk id h2) (by simp only [execOp, ho]; exact v_run _)
  · rename_i t x lo hi mx ho
    obtain ⟨v, hv, hk⟩ := h
    exact wp_of_gives hs hn (aSlice_gives hs hv (hf.ev x) (hf.evo lo) (hf.evo hi) (hf.evo mx)) hk (by simp only [execOp, ho]; exact v_run _)
  · rename_i t x f ho
    obtain ⟨v, hv, hk⟩ := h
    exact wp_of_gives hs hn (aFieldAddr_gives hv (hf.ev x)) hk (by simp only [execOp, ho]; exact v_run _)
  · rename_i t x f ho
    obtain ⟨v, hv, hk⟩ := h
    exact wp_of_gives hs hn (aField_gives hv (hf.ev x)) hk (by simp only [execOp, ho]; exact v_run _)
  · rename_i t x i ho
    obtain ⟨v, hv, hk⟩ := h
    exact wp_of_gives hs hn (aIndexAddr_gives hv (hf.ev x) (hf.ev i)) hk (by simp only [execOp, ho]; exact v_run _)
  · rename_i t x i ho
    obtain ⟨v, hv, hk⟩ := h
    exact wp_of_gives hs hn (aIndex_gives hv (hf.ev x) (hf.ev i)) hk (by simp only [execOp, ho]; exact v_run _)
  · rename_i t ho
    obtain ⟨id, h1, h2⟩ := hs.fresh
    exact wp_of_does hn (makeMap_does hs (t := t) h1 h2) (h id h2) (by simp only [execOp, ho]; exact v_run _)
  · rename_i t m k ok ho
    obtain ⟨v, hv, hk⟩ := h
    exact wp_of_gives hs hn (aLookup_gives hs hv (hf.ev m) (hf.ev k)) hk (by simp only [execOp, ho]; exact v_run _)
  · rename_i t m k x ho
    obtain ⟨H', hv, hk⟩ := h
    obtain ⟨w', h1, h2, h3⟩ := aMapUpdate_does (P := P) hs hv (hf.ev m) (hf.ev k) (hf.ev x)
    unfold Oper.wp
    simp only [execOp, ho, Sem.run_bind, h1, Result.andThen_ok, Sem.run_pure]
    exact hn _ _ _ _ _ _ h2 h3 (rel_skipped _ _) hk
  · rename_i x i ho
    obtain ⟨vs, v, hx, hv, hk⟩ := h
    have hr := hf.ev x
    rw [hx] at hr
    obtain ⟨cs, e, hrl⟩ := hr.tuple_inv
    obtain ⟨v', h1, h2⟩ := hrl.get hv
    exact wp_of_gives (s := Instr.extract (a.eval x) i) hs hn ⟨v', w.drawn, by simp [Instr.extract, e, h1], h2⟩ hk (by simp only [execOp, ho]; exact v_run _)
  · rename_i c ho
    split at h
    · rename_i f hc
      obtain ⟨g, xs, ys, hx, hcall⟩ := h
      have hr := hf.ev f
      rw [hx] at hr
      generalize hu : a.eval f = u at hr
      cases hr with
      | func _ _ _ as bs l1 l2 h1 h2 =>
        have hargs : RelL M ρ (xs ++ c.args.toList.map (ev fr) ++ ys) (as ++ c.args.map a.eval ++ bs) :=
          (RelL.append ⟨l1, h1⟩ (hf.evs c.args)).append ⟨l2, h2⟩
        have hi := hcall M ρ w _ hs hargs
        unfold Oper.wp
        simp only [execOp, ho, resolve, hc, hu, Deferred.ofValue, Sem.run_bind, Sem.run_pure, Result.andThen_ok, invoke]
        unfold Invokes at hi
        split at hi
        · rename_i g' xs' w' hrun
          rw [hrun]
          refine Calls.mono hi ?_
          rintro e w'' ⟨v', rfl, v, M', ρ', H', e1, e2, e3, e4⟩
          exact hn v H' v' M' ρ' w'' e1 e2 e3 e4
        · rename_i v' w' hrun
          rw [hrun]
          obtain ⟨v, M', ρ', H', e1, e2, e3, e4⟩ := hi
          exact hn v H' v' M' ρ' w' e1 e2 e3 e4
        · exact hi.elim
    · rename_i hc
      split at h
      · rename_i s x hl
        obtain ⟨s', x', e, h1, h2⟩ := map2 hf hl
        obtain ⟨v, H', hk, hd⟩ := aAppend_does (ty := o.type) hs h h1 h2
        exact wp_of_does hn hd hk (call_builtin ho hc fun _ => by rw [e]; rfl)
      · exact h.elim
    · rename_i hc
      split at h
      · rename_i s x hl
        obtain ⟨s', x', e, h1, h2⟩ := map2 hf hl
        obtain ⟨v, H', hv, hk⟩ := h
        exact wp_of_does hn (aCopy_does (ty := o.type) hs hv h1 h2) hk (call_builtin ho hc fun _ => by rw [e]; rfl)
      · exact h.elim
    · rename_i hc
      split at h
      · rename_i x hl
        obtain ⟨x', e, h1⟩ := map1 hf hl
        obtain ⟨v, hv, hk⟩ := h
        exact wp_of_gives hs hn (aLen_gives (ty := o.type) hs hv h1) hk (call_builtin ho hc fun _ => by rw [e]; rfl)
      · exact h.elim
    · rename_i hc
      split at h
      · rename_i x hl
        obtain ⟨x', e, h1⟩ := map1 hf hl
        obtain ⟨v, hv, hk⟩ := h
        exact wp_of_gives hs hn (aCap_gives (ty := o.type) hv h1) hk (call_builtin ho hc fun _ => by rw [e]; rfl)
      · exact h.elim
    · rename_i hc
      split at h
      · rename_i x hl
        obtain ⟨x', e, h1⟩ := map1 hf hl
        obtain ⟨H', hv, hk⟩ := h
        exact wp_of_does hn (aClear_does (ty := o.type) hs hv h1) hk (call_builtin ho hc fun _ => by rw [e]; rfl)
      · exact h.elim
    · rename_i hc
      obtain ⟨v, hv, hk⟩ := h
      exact wp_of_gives hs hn (aMaxs_gives (ats := c.argTypes) (ty := o.type) hv (hf.evs c.args)) hk (call_builtin ho hc fun _ => rfl)
    · rename_i hc
      obtain ⟨v, hv, hk⟩ := h
      exact wp_of_gives hs hn (aMins_gives (ats := c.argTypes) (ty := o.type) hv (hf.evs c.args)) hk (call_builtin ho hc fun _ => rfl)
    · rename_i hc
      obtain ⟨v, hv, hk⟩ := h
      exact wp_of_gives hs hn (aComplexOf_gives (ats := c.argTypes) (ty := o.type) hv (hf.evs c.args)) hk (call_builtin ho hc fun _ => rfl)
    · rename_i hc
      obtain ⟨v, hv, hk⟩ := h
      exact wp_of_gives hs hn (aReal_gives (ats := c.argTypes) (ty := o.type) hv (hf.evs c.args)) hk (call_builtin ho hc fun _ => rfl)
    · rename_i hc
      obtain ⟨v, hv, hk⟩ := h
      exact wp_of_gives hs hn (aImag_gives (ats := c.argTypes) (ty := o.type) hv (hf.evs c.args)) hk (call_builtin ho hc fun _ => rfl)
    · exact h.elim
  · exact h.elim
end sound
end Go.Ab
