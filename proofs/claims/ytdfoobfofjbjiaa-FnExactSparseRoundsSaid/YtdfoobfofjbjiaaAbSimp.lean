/- Rules by which simp goes through code. -/
import Derived.Test.YtdfoobfofjbjiaaAbWp
import Derived.KernelRfl
import Derived.IntWalk
set_option linter.unusedSimpArgs false
set_option linter.unusedVariables false
namespace Go.Ab

theorem call_intro {P : Program} {f : FuncId} {fn : Func} {T : FT} {args : List AV} {H : AHeap} {K : AV → AHeap → Prop} (hm : P.follows .mixedOrders = true) (hf : P.funcs[f]? = some fn)
    (hk : (fn.body.isSome && !(fn.name == "runtime.NumGoroutine") && decide (args.length ≤ fn.ntmps) && slotsIn fn.ntmps (fn.body.getD .skip) && flagsIn (fn.body.getD .skip) T) = true)
    (h : AW P (fn.body.getD .skip) T (initFr args) H (AEnd P fn K)) : ACalls P f args H K := by
  simp only [Bool.and_eq_true, Bool.not_eq_true', decide_eq_true_eq] at hk
  obtain ⟨⟨⟨⟨h1, h2⟩, h3⟩, h4⟩, h5⟩ := hk
  obtain ⟨c, hc⟩ := Option.isSome_iff_exists.1 h1
  rw [hc] at h h4 h5
  exact ACalls_of_AW hm hf hc h2 h3 h4 h5 h

/-- Go on with what an option holds; simp looks at the option alone. -/
def bindO {α : Type} (o : Option α) (k : α → Prop) : Prop := ∃ v, o = some v ∧ k v
@[congr] theorem bindO_congr {α : Type} {o o' : Option α} (k : α → Prop) (h : o = o') : bindO o k = bindO o' k := by rw [h]
@[simp] theorem bindO_some {α : Type} (v : α) (k : α → Prop) : bindO (some v) k = k v := by simp [bindO]
@[simp] theorem bindO_none {α : Type} (k : α → Prop) : bindO none k = False := by simp [bindO]
theorem bindO_of {α : Type} {o : Option α} {k : α → Prop} (v : α) (h : o = some v) (hk : k v) : bindO o k := ⟨v, h, hk⟩

/-- Go on at a new id; simp does not go on. -/
def AtNew (H : AHeap) (k : Nat → Prop) : Prop := ∀ id, H id = none → k id
@[congr] theorem AtNew_congr {H H' : AHeap} (k : Nat → Prop) (h : H = H') : AtNew H k = AtNew H' k := by rw [h]

/-- Go on by a test; simp looks at the test alone. -/
def Test (b : Bool) (p q : Prop) : Prop := (b = true → p) ∧ (b = false → q)
@[congr] theorem Test_congr {b b' : Bool} (p q : Prop) (h : b = b') : Test b p q = Test b' p q := by rw [h]
@[simp] theorem Test_true (p q : Prop) : Test true p q = p := by simp [Test]
@[simp] theorem Test_false (p q : Prop) : Test false p q = q := by simp [Test]
theorem Test.intro {b : Bool} {p q : Prop} (h : b = true → p) (h' : b = false → q) : Test b p q := ⟨h, h'⟩

def asBoolO : AV → Option Bool
  | .bool b => some b
  | _ => none
@[simp] theorem asBoolO_bool (b : Bool) : asBoolO (.bool b) = some b := rfl
def asTuple : AV → Option (List AV)
  | .tuple vs => some vs
  | _ => none
@[simp] theorem asTuple_tuple (vs : List AV) : asTuple (.tuple vs) = some vs := rfl
def asFunc : AV → Option (FuncId × List AV × List AV)
  | .func (.func g) xs ys => some (g, xs, ys)
  | _ => none
@[simp] theorem asFunc_func (g : FuncId) (xs ys : List AV) : asFunc (.func (.func g) xs ys) = some (g, xs, ys) := rfl

def nonNil : AV → Option AV
  | .ptrI xs off => some (.ptrI xs off)
  | .ptrR id off => some (.ptrR id off)
  | .func (.func f) xs ys => some (.func (.func f) xs ys)
  | _ => none
@[simp] theorem nonNil_ptrI (xs : List AV) (off : Nat) : nonNil (.ptrI xs off) = some (.ptrI xs off) := rfl
@[simp] theorem nonNil_ptrR (id off : Nat) : nonNil (.ptrR id off) = some (.ptrR id off) := rfl
@[simp] theorem nonNil_func (f : FuncId) (xs ys : List AV) : nonNil (.func (.func f) xs ys) = some (.func (.func f) xs ys) := rfl
/-- What a guard's slot tells. -/
def gval (t : Option Tmp) (want : Bool) (fr : Fr) : Option Bool :=
  match t with
  | some t => match fr t with
    | .bool b => some (b == want)
    | .tuple _ => some false
    | _ => none
  | none => some false
def gval' (want : Bool) : AV → Option Bool
  | .bool b => some (b == want)
  | .tuple _ => some false
  | _ => none
@[simp] theorem gval_some (t : Nat) (want : Bool) (fr : Fr) : gval (some t) want fr = gval' want (fr t) := by
  unfold gval gval'; rfl
@[simp] theorem gval_none (want : Bool) (fr : Fr) : gval none want fr = some false := rfl
@[simp] theorem gval'_bool (want b : Bool) : gval' want (.bool b) = some (b == want) := rfl
@[simp] theorem gval'_skipped (want : Bool) : gval' want skipped = some false := rfl

/-- An operation that leaves the heap as it is, and what follows with its value. -/
def AWS (P : Program) (fr : Fr) (H : AHeap) (o : Oper) (R : AV → Prop) : Prop := ∃ v, aop P fr H o (fun v' H' => v' = v ∧ H' = H) ∧ R v
/-- A call that leaves the heap as it is, and what follows with its value. -/
def ACallsS (P : Program) (f : FuncId) (xs : List AV) (H : AHeap) (R : AV → Prop) : Prop := ∃ v, ACalls P f xs H (fun v' H' => v' = v ∧ H' = H) ∧ R v

/-! what comes next, by name: simp does not go into it before it is reached -/
def At (K : AV → AHeap → Prop) (H : AHeap) : AV → Prop := fun v => K v H
def Sk (K : AV → AHeap → Prop) : AHeap → Prop := fun H' => K skipped H'
def NewAt (H : AHeap) (K : AV → AHeap → Prop) : List AV → Prop := fun zs => AtNew H fun id => K (.ptrR id 0) (H.set id (some (.cells zs)))
def PickK (u v : AV) (K : AV → AHeap → Prop) (H : AHeap) : Bool → Prop := fun b => K (if b then u else v) H
def PickR (u v : AV) (R : AV → Prop) : Bool → Prop := fun b => R (if b then u else v)
def CondK (P : Program) (x y : Code) (T : FT) (fr : Fr) (H : AHeap) (Q : Exit → Fr → AHeap → Prop) : Bool → Prop := fun b => Test b (AW P x T.a fr H Q) (AW P y T.b fr H Q)
def LK (P : Program) (ops : Array Oper) (os : List Oper) (fr : Fr) (d : Option Tmp) (KF : Fr → AHeap → Prop) : AV → AHeap → Prop := fun v H' => AWL P ops os (fr.put d v) H' KF
def DK (P : Program) (ops : Array Oper) (os : List (Oper × Kind)) (pe : List (Oper × Fr × AV)) (fr : Fr) (d : Option Tmp) (KF : Fr → AHeap → Prop) : AV → AHeap → Prop := fun v H' => AWD P ops os pe (fr.put d v) H' KF
def MK (P : Program) (ops : Array Oper) (os : List (Oper × Kind)) (pe : List (Oper × Fr × AV)) (fr : Fr) (d : Option Tmp) (KF : Fr → AHeap → Prop) : AV → AHeap → Prop := fun v H' => Again P H' pe ∧ AWD P ops os pe (fr.put d v) H' KF
def SK (P : Program) (ops : Array Oper) (os : List (Oper × Kind)) (pe : List (Oper × Fr × AV)) (fr : Fr) (d : Option Tmp) (H : AHeap) (KF : Fr → AHeap → Prop) : AV → Prop := fun v => AWD P ops os pe (fr.put d v) H KF
def PK (P : Program) (ops : Array Oper) (os : List (Oper × Kind)) (pe : List (Oper × Fr × AV)) (fr : Fr) (d : Option Tmp) (H : AHeap) (KF : Fr → AHeap → Prop) (o : Oper) : AV → Prop := fun v => AWD P ops os ((o, fr, v) :: pe) (fr.put d v) H KF
def CutK (T : FT) (Q : Exit → Fr → AHeap → Prop) : Fr → AHeap → Prop := fun fr' H' => Q .normal (T.cut fr') H'
def SeqK (P : Program) (y : Code) (T : FT) (Q : Exit → Fr → AHeap → Prop) : Exit → Fr → AHeap → Prop := fun e fr' H' => match e with | .normal => AW P y T fr' H' Q | e => Q e fr' H'
def BlockK (id : Nat) (Q : Exit → Fr → AHeap → Prop) : Exit → Fr → AHeap → Prop := fun e fr' H' => match e with
    | .exit id' => if id' = id then Q .normal fr' H' else Q (.exit id') fr' H'
    | e => Q e fr' H'
def GuardL (P : Program) (ops : Array Oper) (os : List Oper) (fr : Fr) (H : AHeap) (o : Oper) (KF : Fr → AHeap → Prop) : Bool → Prop := fun b => Test b (aop P fr H o (LK P ops os fr o.dst KF)) (AWL P ops os (fr.put o.dst skipped) H KF)
def GuardQ (P : Program) (ops : Array Oper) (os : List (Oper × Kind)) (pe : List (Oper × Fr × AV)) (fr : Fr) (H : AHeap) (o : Oper) (KF : Fr → AHeap → Prop) : Bool → Prop := fun b => Test b (AWS P fr H o (SK P ops os pe fr o.dst H KF)) (AWD P ops os pe (fr.put o.dst skipped) H KF)
def GuardB (P : Program) (ops : Array Oper) (os : List (Oper × Kind)) (pe : List (Oper × Fr × AV)) (fr : Fr) (H : AHeap) (o : Oper) (KF : Fr → AHeap → Prop) : Bool → Prop := fun b => Test b (aop P fr H o (DK P ops os [] fr o.dst KF)) (AWD P ops os pe (fr.put o.dst skipped) H KF)
def ExtK (i : Nat) (K : AV → AHeap → Prop) (H : AHeap) : List AV → Prop := fun vs => bindO vs[i]? (At K H)
def ExtR (i : Nat) (R : AV → Prop) : List AV → Prop := fun vs => bindO vs[i]? R
def BsK (len : Nat) (K : AV → AHeap → Prop) (H : AHeap) : Nat × List AV → Prop := fun r => K (.sliceI r.2 len (some len)) H
def BsR (len : Nat) (R : AV → Prop) : Nat × List AV → Prop := fun r => R (.sliceI r.2 len (some len))
def CallK (P : Program) (args : List AV) (H : AHeap) (K : AV → AHeap → Prop) : FuncId × List AV × List AV → Prop := fun r => ACalls P r.1 (r.2.1 ++ args ++ r.2.2) H K
def CallR (P : Program) (args : List AV) (H : AHeap) (R : AV → Prop) : FuncId × List AV × List AV → Prop := fun r => ACallsS P r.1 (r.2.1 ++ args ++ r.2.2) H R
def PairK (K : AV → AHeap → Prop) : AV × AHeap → Prop := fun r => K r.1 r.2
def MsK (K : AV → AHeap → Prop) (H : AHeap) : Nat × Nat × Nat × List AV → Prop := fun r => AtNew H fun id => K (.sliceR id 0 r.2.1 r.1 (some r.2.2.1)) (H.set id (some (.cells r.2.2.2)))
section
variable {P : Program} {T : FT} {fr fr' : Fr} {H H' : AHeap} {KF : Fr → AHeap → Prop} {K : AV → AHeap → Prop} {Q : Exit → Fr → AHeap → Prop} {R : AV → Prop} {ops : Array Oper} {os : List Oper} {od : List (Oper × Kind)} {pe : List (Oper × Fr × AV)} {d : Option Tmp}
@[simp] theorem At_ap (v : AV) : At K H v = K v H := propext Iff.rfl
@[simp] theorem Sk_ap : Sk K H' = K skipped H' := propext Iff.rfl
@[simp] theorem NewAt_ap (zs : List AV) : NewAt H K zs = AtNew H fun id => K (.ptrR id 0) (H.set id (some (.cells zs))) := propext Iff.rfl
@[simp] theorem PickK_t (u v : AV) : PickK u v K H true = K u H := propext Iff.rfl
@[simp] theorem PickK_f (u v : AV) : PickK u v K H false = K v H := propext Iff.rfl
theorem PickK_ap (u v : AV) (b : Bool) : PickK u v K H b = K (if b then u else v) H := propext Iff.rfl
@[simp] theorem PickK_bool (u v b : Bool) : PickK (.bool u) (.bool v) K H b = K (.bool (if b then u else v)) H := by cases b <;> rfl
@[simp] theorem PickR_t (u v : AV) : PickR u v R true = R u := propext Iff.rfl
@[simp] theorem PickR_f (u v : AV) : PickR u v R false = R v := propext Iff.rfl
theorem PickR_ap (u v : AV) (b : Bool) : PickR u v R b = R (if b then u else v) := propext Iff.rfl
@[simp] theorem PickR_bool (u v b : Bool) : PickR (.bool u) (.bool v) R b = R (.bool (if b then u else v)) := by cases b <;> rfl
@[simp] theorem CondK_t (x y : Code) : CondK P x y T fr H Q true = AW P x T.a fr H Q := Test_true _ _
@[simp] theorem CondK_f (x y : Code) : CondK P x y T fr H Q false = AW P y T.b fr H Q := Test_false _ _
theorem CondK.split {x y : Code} {b : Bool} (h : b = true → AW P x T.a fr H Q) (h' : b = false → AW P y T.b fr H Q) : CondK P x y T fr H Q b := ⟨h, h'⟩
@[simp] theorem LK_ap (v : AV) : LK P ops os fr d KF v H' = AWL P ops os (fr.put d v) H' KF := propext Iff.rfl
@[simp] theorem DK_ap (v : AV) : DK P ops od pe fr d KF v H' = AWD P ops od pe (fr.put d v) H' KF := propext Iff.rfl
@[simp] theorem MK_ap (v : AV) : MK P ops od pe fr d KF v H' = (Again P H' pe ∧ AWD P ops od pe (fr.put d v) H' KF) := propext Iff.rfl
@[simp] theorem SK_ap (v : AV) : SK P ops od pe fr d H KF v = AWD P ops od pe (fr.put d v) H KF := propext Iff.rfl
@[simp] theorem PK_ap (v : AV) (o : Oper) : PK P ops od pe fr d H KF o v = AWD P ops od ((o, fr, v) :: pe) (fr.put d v) H KF := propext Iff.rfl
@[simp] theorem CutK_ap : CutK T Q fr' H' = Q .normal (T.cut fr') H' := propext Iff.rfl
@[simp] theorem SeqK_normal (y : Code) : SeqK P y T Q .normal fr H = AW P y T fr H Q := propext Iff.rfl
@[simp] theorem SeqK_exit (y : Code) (i : Nat) : SeqK P y T Q (.exit i) fr H = Q (.exit i) fr H := propext Iff.rfl
@[simp] theorem SeqK_ret (y : Code) : SeqK P y T Q .ret fr H = Q .ret fr H := propext Iff.rfl
@[simp] theorem SeqK_goto (y : Code) (i : Nat) : SeqK P y T Q (.goto i) fr H = Q (.goto i) fr H := propext Iff.rfl
@[simp] theorem BlockK_normal (id : Nat) : BlockK id Q .normal fr H = Q .normal fr H := propext Iff.rfl
@[simp] theorem BlockK_ret (id : Nat) : BlockK id Q .ret fr H = Q .ret fr H := propext Iff.rfl
@[simp] theorem BlockK_goto (id i : Nat) : BlockK id Q (.goto i) fr H = Q (.goto i) fr H := propext Iff.rfl
@[simp] theorem BlockK_exit (id i : Nat) : BlockK id Q (.exit i) fr H = if i = id then Q .normal fr H else Q (.exit i) fr H := propext Iff.rfl
@[simp] theorem GuardL_t (o : Oper) : GuardL P ops os fr H o KF true = aop P fr H o (LK P ops os fr o.dst KF) := Test_true _ _
@[simp] theorem GuardL_f (o : Oper) : GuardL P ops os fr H o KF false = AWL P ops os (fr.put o.dst skipped) H KF := Test_false _ _
theorem GuardL.split {o : Oper} {b : Bool} (h : b = true → aop P fr H o (LK P ops os fr o.dst KF)) (h' : b = false → AWL P ops os (fr.put o.dst skipped) H KF) : GuardL P ops os fr H o KF b := ⟨h, h'⟩
@[simp] theorem GuardQ_t (o : Oper) : GuardQ P ops od pe fr H o KF true = AWS P fr H o (SK P ops od pe fr o.dst H KF) := Test_true _ _
@[simp] theorem GuardQ_f (o : Oper) : GuardQ P ops od pe fr H o KF false = AWD P ops od pe (fr.put o.dst skipped) H KF := Test_false _ _
@[simp] theorem GuardB_t (o : Oper) : GuardB P ops od pe fr H o KF true = aop P fr H o (DK P ops od [] fr o.dst KF) := Test_true _ _
@[simp] theorem GuardB_f (o : Oper) : GuardB P ops od pe fr H o KF false = AWD P ops od pe (fr.put o.dst skipped) H KF := Test_false _ _
@[simp] theorem ExtK_ap (i : Nat) (vs : List AV) : ExtK i K H vs = bindO vs[i]? (At K H) := propext Iff.rfl
@[simp] theorem ExtR_ap (i : Nat) (vs : List AV) : ExtR i R vs = bindO vs[i]? R := propext Iff.rfl
@[simp] theorem BsK_ap (len : Nat) (r : Nat × List AV) : BsK len K H r = K (.sliceI r.2 len (some len)) H := propext Iff.rfl
@[simp] theorem BsR_ap (len : Nat) (r : Nat × List AV) : BsR len R r = R (.sliceI r.2 len (some len)) := propext Iff.rfl
@[simp] theorem CallK_ap (args : List AV) (r : FuncId × List AV × List AV) : CallK P args H K r = ACalls P r.1 (r.2.1 ++ args ++ r.2.2) H K := propext Iff.rfl
@[simp] theorem CallR_ap (args : List AV) (r : FuncId × List AV × List AV) : CallR P args H R r = ACallsS P r.1 (r.2.1 ++ args ++ r.2.2) H R := propext Iff.rfl
@[simp] theorem PairK_ap (r : AV × AHeap) : PairK K r = K r.1 r.2 := propext Iff.rfl
@[simp] theorem MsK_ap (r : Nat × Nat × Nat × List AV) : MsK K H r = AtNew H fun id => K (.sliceR id 0 r.2.1 r.1 (some r.2.2.1)) (H.set id (some (.cells r.2.2.2))) := propext Iff.rfl
end

section rules
variable {P : Program} {T : FT} {fr fr' : Fr} {H H' : AHeap} {KF : Fr → AHeap → Prop} {K : AV → AHeap → Prop} {Q : Exit → Fr → AHeap → Prop}

@[congr] theorem AW_congr {c : Code} {T' : FT} (hT : T = T') (h : fr = fr') (h' : H = H') : AW P c T fr H Q = AW P c T' fr' H' Q := by rw [h, h', hT]
@[congr] theorem AWL_congr {ops : Array Oper} {l : List Oper} (h : fr = fr') (h' : H = H') : AWL P ops l fr H KF = AWL P ops l fr' H' KF := by rw [h, h']
@[congr] theorem AWD_congr {ops : Array Oper} {l : List (Oper × Kind)} {pe : List (Oper × Fr × AV)} (h : fr = fr') (h' : H = H') : AWD P ops l pe fr H KF = AWD P ops l pe fr' H' KF := by rw [h, h']
@[congr] theorem aop_congr' {o : Oper} (h : fr = fr') (h' : H = H') : aop P fr H o K = aop P fr' H' o K := by rw [h, h']
@[congr] theorem ACalls_congr {f : FuncId} {xs ys : List AV} (h : xs = ys) (h' : H = H') : ACalls P f xs H K = ACalls P f ys H' K := by rw [h, h']

@[simp] theorem ev_tmp (t : Nat) : ev fr (.tmp t) = fr t := rfl
@[simp] theorem ev_const (v : Value) : ev fr (.const v) = AV.ofV v := rfl
@[simp] theorem ev_func (f : FuncId) : ev fr (.func f) = .func (.func f) [] [] := rfl
@[simp] theorem put_some (d : Nat) (v : AV) (t : Nat) : (fr.put (some d) v) t = if t = d then v else fr t := rfl
@[simp] theorem put_none (v : AV) : fr.put none v = fr := rfl
@[simp] theorem initFr_zero (x : AV) (xs : List AV) : initFr (x :: xs) 0 = x := rfl
@[simp] theorem initFr_succ (x : AV) (xs : List AV) (n : Nat) : initFr (x :: xs) (n + 1) = initFr xs n := by simp [initFr]
@[simp] theorem initFr_lit (x : AV) (xs : List AV) (n : Nat) [NeZero n] : initFr (x :: xs) (OfNat.ofNat n) = initFr xs (n - 1) := by
  obtain ⟨m, rfl⟩ : ∃ m, n = m + 1 := ⟨n - 1, by have := NeZero.ne n; omega⟩
  show initFr (x :: xs) (m + 1) = _
  simp
@[simp] theorem initFr_nil (n : Nat) : initFr [] n = skipped := rfl

@[simp] theorem ofV_bool (b : Bool) : AV.ofV (.bool b) = .bool b := rfl
@[simp] theorem ofV_int (k : IntKind) (n : Int) : AV.ofV (.int k n) = .int k n := rfl
@[simp] theorem ofV_float (k : FloatKind) (b : Nat) : AV.ofV (.float k b) = .float k (canon k b) := rfl
@[simp] theorem ofV_complex (k : FloatKind) (a b : Nat) : AV.ofV (.complex k a b) = .complex k (canon k a) (canon k b) := rfl
@[simp] theorem ofV_string (s : ByteArray) : AV.ofV (.string s) = .string s.data.toList := rfl
@[simp] theorem ofV_nilptr : AV.ofV (.pointer none) = .nilptr := rfl
@[simp] theorem ofV_nilslice : AV.ofV (.slice none 0 0) = .nilslice := rfl
@[simp] theorem ofV_nilmap : AV.ofV (.map none) = .nilmap := rfl
@[simp] theorem ofV_nilfunc : AV.ofV .nilFunc = .nilfunc := rfl
@[simp] theorem ofV_nilface : AV.ofV .nilIface = .nilface := rfl
@[simp] theorem ofV_agg (cs : Array Value) : AV.ofV (.agg cs) = .agg (cs.toList.map AV.ofS) := rfl
@[simp] theorem ofS_bool (b : Bool) : AV.ofS (.bool b) = .bool b := rfl
@[simp] theorem ofS_int (k : IntKind) (n : Int) : AV.ofS (.int k n) = .int k n := rfl
@[simp] theorem ofS_float (k : FloatKind) (b : Nat) : AV.ofS (.float k b) = .float k (canon k b) := rfl
@[simp] theorem ofS_complex (k : FloatKind) (a b : Nat) : AV.ofS (.complex k a b) = .complex k (canon k a) (canon k b) := rfl
@[simp] theorem ofS_string (s : ByteArray) : AV.ofS (.string s) = .string s.data.toList := rfl
@[simp] theorem ofS_nilptr : AV.ofS (.pointer none) = .nilptr := rfl
@[simp] theorem ofS_nilslice : AV.ofS (.slice none 0 0) = .nilslice := rfl
@[simp] theorem ofS_nilmap : AV.ofS (.map none) = .nilmap := rfl
@[simp] theorem ofS_nilfunc : AV.ofS .nilFunc = .nilfunc := rfl
@[simp] theorem ofS_nilface : AV.ofS .nilIface = .nilface := rfl

@[simp] theorem AW_skip : AW P .skip T fr H Q = Q .normal fr H := propext Iff.rfl
@[simp] theorem AW_region (id : Nat) (ops : Array Oper) : AW P (.region id ops false) T fr H Q = AWL P ops ops.toList fr H (CutK T Q) := propext Iff.rfl
@[simp] theorem AW_draws (id : Nat) (ops : Array Oper) : AW P (.region id ops true) T fr H Q = AWD P ops (T.list ops) [] fr H (CutK T Q) := propext Iff.rfl
@[simp] theorem AW_seq (x y : Code) : AW P (.seq x y) T fr H Q = AW P x T.a fr H (SeqK P y T.b Q) := propext Iff.rfl
@[simp] theorem AW_cond (c : Operand) (x y : Code) : AW P (.cond c x y) T fr H Q = bindO (asBoolO (ev fr c)) (CondK P x y T fr H Q) := by
  show (∃ b, ev fr c = .bool b ∧ _) = _
  unfold bindO CondK Test
  apply propext
  constructor
  · rintro ⟨b, h, h'⟩; exact ⟨b, by rw [h]; rfl, h'⟩
  · rintro ⟨b, h, h'⟩
    refine ⟨b, ?_, h'⟩
    cases hc : ev fr c <;> rw [hc] at h <;> simp [asBoolO] at h
    rw [h]
@[simp] theorem AW_block (id : Nat) (x : Code) : AW P (.block id x) T fr H Q = AW P x T fr H (BlockK id Q) := propext Iff.rfl
@[simp] theorem AW_exit (id : Nat) : AW P (.exit id) T fr H Q = Q (.exit id) fr H := propext Iff.rfl
@[simp] theorem AW_label (l : Nat) : AW P (.label l) T fr H Q = Q .normal fr H := propext Iff.rfl
@[simp] theorem AW_goto (l : Nat) : AW P (.goto l) T fr H Q = Q (.goto l) fr H := propext Iff.rfl
@[simp] theorem AW_ret : AW P .ret T fr H Q = Q .ret fr H := propext Iff.rfl
@[simp] theorem AWL_nil (ops : Array Oper) : AWL P ops [] fr H KF = KF fr H := propext Iff.rfl
@[simp] theorem AWL_plain (ops : Array Oper) (d : Option Tmp) (op : Op) (t : TypeId) (p : String) (af : Array Edge) (os : List Oper) :
    AWL P ops ({ dst := d, op := op, type := t, pos := p, after := af, guard := none } :: os) fr H KF =
      aop P fr H { dst := d, op := op, type := t, pos := p, after := af, guard := none } (LK P ops os fr d KF) := propext Iff.rfl
@[simp] theorem AWL_guard (ops : Array Oper) (d : Option Tmp) (op : Op) (t : TypeId) (p : String) (af : Array Edge) (j : Nat) (want : Bool) (os : List Oper) :
    AWL P ops ({ dst := d, op := op, type := t, pos := p, after := af, guard := some (j, want) } :: os) fr H KF =
      bindO (gval ((ops[j]?).bind (·.dst)) want fr) (GuardL P ops os fr H { dst := d, op := op, type := t, pos := p, after := af, guard := none } KF) := by
  have e : aguard ops fr { dst := d, op := op, type := t, pos := p, after := af, guard := some (j, want) } = gval ((ops[j]?).bind (·.dst)) want fr := rfl
  simp only [AWL, e]
  cases gval ((ops[j]?).bind (·.dst)) want fr with
  | none => simp
  | some b =>
    rw [bindO_some]
    cases b
    · rw [GuardL_f]
    · rw [GuardL_t]; rfl
variable {pe : List (Oper × Fr × AV)}
@[simp] theorem AWD_nil (ops : Array Oper) : AWD P ops [] pe fr H KF = KF fr H := propext Iff.rfl
@[simp] theorem AWD_barrier (ops : Array Oper) (d : Option Tmp) (op : Op) (t : TypeId) (p : String) (af : Array Edge) (os : List (Oper × Kind)) :
    AWD P ops (({ dst := d, op := op, type := t, pos := p, after := af, guard := none }, .b) :: os) pe fr H KF =
      aop P fr H { dst := d, op := op, type := t, pos := p, after := af, guard := none } (DK P ops os [] fr d KF) := propext Iff.rfl
@[simp] theorem AWD_mover (ops : Array Oper) (d : Option Tmp) (op : Op) (t : TypeId) (p : String) (af : Array Edge) (os : List (Oper × Kind)) :
    AWD P ops (({ dst := d, op := op, type := t, pos := p, after := af, guard := none }, .m) :: os) pe fr H KF =
      aop P fr H { dst := d, op := op, type := t, pos := p, after := af, guard := none } (MK P ops os pe fr d KF) := propext Iff.rfl

@[simp] theorem AWD_new (ops : Array Oper) (d : Option Tmp) (op : Op) (t : TypeId) (p : String) (af : Array Edge) (os : List (Oper × Kind)) :
    AWD P ops (({ dst := d, op := op, type := t, pos := p, after := af, guard := none }, .a) :: os) pe fr H KF =
      aop P fr H { dst := d, op := op, type := t, pos := p, after := af, guard := none } (DK P ops os pe fr d KF) := propext Iff.rfl

/-! the operations -/
section
variable (d : Option Tmp) (ty : TypeId) (pos : String) (af : Array Edge) (g : Option (Nat × Bool))
@[simp] theorem aop_move (x : Operand) : aop P fr H ⟨d, .move x, ty, pos, af, g⟩ K = K (ev fr x) H := propext Iff.rfl
@[simp] theorem aop_assign (x : Operand) : aop P fr H ⟨d, .assign x, ty, pos, af, g⟩ K = K (ev fr x) H := propext Iff.rfl
@[simp] theorem aop_alloc (e : TypeId) : aop P fr H ⟨d, .alloc e, ty, pos, af, g⟩ K = bindO (zeroCells P e) (NewAt H K) := propext Iff.rfl
@[simp] theorem aop_box (e : TypeId) (x : Operand) : aop P fr H ⟨d, .box e x, ty, pos, af, g⟩ K = bindO (ev fr x).cells (NewAt H K) := propext Iff.rfl
@[simp] theorem aop_nilCheck (x : Operand) : aop P fr H ⟨d, .nilCheck x, ty, pos, af, g⟩ K = bindO (nonNil (ev fr x)) (At K H) := by
  show (match ev fr x with | .ptrI xs off => K (.ptrI xs off) H | .ptrR id off => K (.ptrR id off) H | .func (.func f) xs ys => K (.func (.func f) xs ys) H | _ => False) = _
  cases ev fr x with
  | func fn xs ys => cases fn <;> simp [nonNil]
  | _ => simp [nonNil]
@[simp] theorem aop_pick (c x y : Operand) : aop P fr H ⟨d, .pick c x y, ty, pos, af, g⟩ K = bindO (asBoolO (ev fr c)) (PickK (ev fr x) (ev fr y) K H) := by
  show (∃ b, ev fr c = .bool b ∧ _) = _
  unfold bindO
  apply propext
  constructor
  · rintro ⟨b, h, h'⟩; exact ⟨b, by rw [h]; rfl, h'⟩
  · rintro ⟨b, h, h'⟩
    refine ⟨b, ?_, h'⟩
    cases hc : ev fr c <;> rw [hc] at h <;> simp [asBoolO] at h
    rw [h]
@[simp] theorem aop_build (t : TypeId) (ps : Array (Nat × Operand)) : aop P fr H ⟨d, .build t ps, ty, pos, af, g⟩ K = bindO (aBuild P t (ps.toList.map fun p => (p.1, ev fr p.2))) (At K H) := propext Iff.rfl
@[simp] theorem aop_load (t : TypeId) (p : Operand) : aop P fr H ⟨d, .load t p, ty, pos, af, g⟩ K = bindO (aLoad P t (ev fr p) H) (At K H) := propext Iff.rfl
@[simp] theorem aop_store (t : TypeId) (p x : Operand) : aop P fr H ⟨d, .store t p x, ty, pos, af, g⟩ K = bindO (aStore P t (ev fr p) (ev fr x) H) (Sk K) := propext Iff.rfl
theorem aop_binOp_gen (op : BinOp) (t u : TypeId) (x y : Operand) : aop P fr H ⟨d, .binOp op t x y u, ty, pos, af, g⟩ K = (∃ v, aBin P op t (ev fr x) (ev fr y) = some v ∧ nilsOK x y (ev fr x) (ev fr y) ∧ K v H) := rfl
/-- A test on two values, and what nil values of interfaces want. -/
def aBin' (P : Program) (op : BinOp) (t : TypeId) (x y : Operand) (u v : AV) : Option AV :=
  match u, v with
  | .nilface, .nilface => if isC x || isC y then aBin P op t u v else none
  | _, _ => aBin P op t u v
theorem nils_iff (x y : Operand) (u v : AV) (A : Option AV) (k : AV → Prop) : (∃ w, A = some w ∧ nilsOK x y u v ∧ k w) ↔ bindO (match u, v with | .nilface, .nilface => if isC x || isC y then A else none | _, _ => A) k := by
  cases u <;> first
    | (simp [nilsOK, bindO]; done)
    | (cases v <;> first
        | (simp [nilsOK, bindO]; done)
        | (cases x <;> cases y <;> simp [nilsOK, isC, bindO]))
@[simp] theorem aop_binOp (op : BinOp) (t u : TypeId) (x y : Operand) : aop P fr H ⟨d, .binOp op t x y u, ty, pos, af, g⟩ K = bindO (aBin' P op t x y (ev fr x) (ev fr y)) (At K H) := by
  rw [aop_binOp_gen]
  exact propext (nils_iff x y (ev fr x) (ev fr y) _ _)
@[simp] theorem aop_unOp (op : UnOp) (t : TypeId) (x : Operand) : aop P fr H ⟨d, .unOp op t x, ty, pos, af, g⟩ K = bindO (aUn op (ev fr x)) (At K H) := propext Iff.rfl
@[simp] theorem aop_convert (s t : TypeId) (x : Operand) : aop P fr H ⟨d, .convert s t x, ty, pos, af, g⟩ K = bindO (aConv P s t (ev fr x)) (At K H) := propext Iff.rfl
@[simp] theorem aop_makeFunc (fn : Fn) (xs ys : Array Operand) : aop P fr H ⟨d, .makeFunc fn xs ys, ty, pos, af, g⟩ K = K (.func fn (xs.toList.map (ev fr)) (ys.toList.map (ev fr))) H := propext Iff.rfl
@[simp] theorem aop_makeInterface (t : TypeId) (x : Operand) : aop P fr H ⟨d, .makeInterface t x, ty, pos, af, g⟩ K = (isIfaceT P t = false ∧ (P.underlying t).isSome = true ∧ K (.iface t (ev fr x)) H) := propext Iff.rfl
@[simp] theorem aop_makeSlice (t : TypeId) (l c : Operand) : aop P fr H ⟨d, .makeSlice t l c, ty, pos, af, g⟩ K =
    bindO (aMakeSlice P t (ev fr l) (ev fr c)) (MsK K H) := by
  apply propext
  constructor
  · rintro ⟨es, n, m, xs, h1, h2⟩; exact ⟨_, h1, h2⟩
  · rintro ⟨⟨es, n, m, xs⟩, h1, h2⟩; exact ⟨es, n, m, xs, h1, h2⟩
@[simp] theorem aop_slice (t : TypeId) (x : Operand) (lo hi mx : Option Operand) : aop P fr H ⟨d, .slice t x lo hi mx, ty, pos, af, g⟩ K =
    bindO (aSlice P t (ev fr x) (lo.map (ev fr)) (hi.map (ev fr)) (mx.map (ev fr)) H) (At K H) := propext Iff.rfl
@[simp] theorem aop_fieldAddr (t : TypeId) (x : Operand) (f : Nat) : aop P fr H ⟨d, .fieldAddr t x f, ty, pos, af, g⟩ K = bindO (aFieldAddr P t (ev fr x) f) (At K H) := propext Iff.rfl
@[simp] theorem aop_field (t : TypeId) (x : Operand) (f : Nat) : aop P fr H ⟨d, .field t x f, ty, pos, af, g⟩ K = bindO (aField P t (ev fr x) f) (At K H) := propext Iff.rfl
@[simp] theorem aop_indexAddr (t : TypeId) (x i : Operand) : aop P fr H ⟨d, .indexAddr t x i, ty, pos, af, g⟩ K = bindO (aIndexAddr P t (ev fr x) (ev fr i)) (At K H) := propext Iff.rfl
@[simp] theorem aop_index (t : TypeId) (x i : Operand) : aop P fr H ⟨d, .index t x i, ty, pos, af, g⟩ K = bindO (aIndex P t (ev fr x) (ev fr i)) (At K H) := propext Iff.rfl
@[simp] theorem aop_makeMap (t : TypeId) : aop P fr H ⟨d, .makeMap t none, ty, pos, af, g⟩ K = AtNew H fun id => K (.map id) (H.set id (some (.map []))) := propext Iff.rfl
@[simp] theorem aop_lookup (t : TypeId) (m k : Operand) (ok : Bool) : aop P fr H ⟨d, .lookup t m k ok, ty, pos, af, g⟩ K = bindO (aLookup P t (ev fr m) (ev fr k) ok H) (At K H) := propext Iff.rfl
@[simp] theorem aop_mapUpdate (t : TypeId) (m k x : Operand) : aop P fr H ⟨d, .mapUpdate t m k x, ty, pos, af, g⟩ K = bindO (aMapUpdate P t (ev fr m) (ev fr k) (ev fr x) H) (Sk K) := propext Iff.rfl
@[simp] theorem aop_extract (x : Operand) (i : Nat) : aop P fr H ⟨d, .extract x i, ty, pos, af, g⟩ K = bindO (asTuple (ev fr x)) (ExtK i K H) := by
  apply propext
  constructor
  · rintro ⟨vs, v, h1, h2, h3⟩; exact ⟨vs, by rw [h1]; rfl, v, h2, h3⟩
  · rintro ⟨vs, h1, v, h2, h3⟩
    refine ⟨vs, v, ?_, h2, h3⟩
    cases hc : ev fr x <;> rw [hc] at h1 <;> simp [asTuple] at h1
    rw [h1]
@[simp] theorem aop_buildSlice (t : TypeId) (len : Nat) (ps : Array (Nat × Operand)) : aop P fr H ⟨d, .buildSlice t len ps, ty, pos, af, g⟩ K =
    bindO (aBuildSlice P t len (ps.toList.map fun p => (p.1, ev fr p.2))) (BsK len K H) := by
  apply propext
  constructor
  · rintro ⟨es, xs, h1, h2⟩; exact ⟨_, h1, h2⟩
  · rintro ⟨⟨es, xs⟩, h1, h2⟩; exact ⟨es, xs, h1, h2⟩
@[simp] theorem aop_clear (x : Operand) (ats : Array TypeId) : aop P fr H ⟨d, .call ⟨.builtin .clear, #[x], ats⟩, ty, pos, af, g⟩ K = bindO (aClear P ats (ev fr x) H) (Sk K) := propext Iff.rfl
@[simp] theorem aop_call (f : Operand) (args : Array Operand) (ats : Array TypeId) : aop P fr H ⟨d, .call ⟨.value f, args, ats⟩, ty, pos, af, g⟩ K =
    bindO (asFunc (ev fr f)) (CallK P (args.toList.map (ev fr)) H K) := by
  apply propext
  constructor
  · rintro ⟨q, xs, ys, h1, h2⟩; exact ⟨(q, xs, ys), by rw [h1]; rfl, h2⟩
  · rintro ⟨⟨q, xs, ys⟩, h1, h2⟩
    refine ⟨q, xs, ys, ?_, h2⟩
    cases hc : ev fr f with
    | func fn as bs =>
      rw [hc] at h1
      cases fn <;> simp [asFunc] at h1
      obtain ⟨rfl, rfl, rfl⟩ := h1; rfl
    | _ => rw [hc] at h1; simp [asFunc] at h1
@[simp] theorem aop_len (x : Operand) (ats : Array TypeId) : aop P fr H ⟨d, .call ⟨.builtin .len, #[x], ats⟩, ty, pos, af, g⟩ K = bindO (aLen P ats (ev fr x) H) (At K H) := propext Iff.rfl
@[simp] theorem aop_cap (x : Operand) (ats : Array TypeId) : aop P fr H ⟨d, .call ⟨.builtin .cap, #[x], ats⟩, ty, pos, af, g⟩ K = bindO (aCap P ats (ev fr x)) (At K H) := propext Iff.rfl
@[simp] theorem aop_append (s x : Operand) (ats : Array TypeId) : aop P fr H ⟨d, .call ⟨.builtin .append, #[s, x], ats⟩, ty, pos, af, g⟩ K = aAppend P ats (ev fr s) (ev fr x) H K := propext Iff.rfl
@[simp] theorem aop_copy (s x : Operand) (ats : Array TypeId) : aop P fr H ⟨d, .call ⟨.builtin .copy, #[s, x], ats⟩, ty, pos, af, g⟩ K = bindO (aCopy P ats (ev fr s) (ev fr x) H) (PairK K) := by
  apply propext
  constructor
  · rintro ⟨v, H', h1, h2⟩; exact ⟨_, h1, h2⟩
  · rintro ⟨⟨v, H'⟩, h1, h2⟩; exact ⟨v, H', h1, h2⟩
@[simp] theorem aop_max (xs : Array Operand) (ats : Array TypeId) : aop P fr H ⟨d, .call ⟨.builtin .max, xs, ats⟩, ty, pos, af, g⟩ K = bindO (aFold aMax2 (xs.toList.map (ev fr))) (At K H) := propext Iff.rfl
@[simp] theorem aop_min (xs : Array Operand) (ats : Array TypeId) : aop P fr H ⟨d, .call ⟨.builtin .min, xs, ats⟩, ty, pos, af, g⟩ K = bindO (aFold aMin2 (xs.toList.map (ev fr))) (At K H) := propext Iff.rfl
@[simp] theorem aop_complex (xs : Array Operand) (ats : Array TypeId) : aop P fr H ⟨d, .call ⟨.builtin .complex, xs, ats⟩, ty, pos, af, g⟩ K = bindO (aComplexOf (xs.toList.map (ev fr))) (At K H) := propext Iff.rfl
@[simp] theorem aop_real (xs : Array Operand) (ats : Array TypeId) : aop P fr H ⟨d, .call ⟨.builtin .real, xs, ats⟩, ty, pos, af, g⟩ K = bindO (aReal (xs.toList.map (ev fr))) (At K H) := propext Iff.rfl
@[simp] theorem aop_imag (xs : Array Operand) (ats : Array TypeId) : aop P fr H ⟨d, .call ⟨.builtin .imag, xs, ats⟩, ty, pos, af, g⟩ K = bindO (aImag (xs.toList.map (ev fr))) (At K H) := propext Iff.rfl
end
@[congr] theorem aAppend_congr {ats : Array TypeId} {s s' x x' : AV} (h1 : s = s') (h2 : x = x') (h3 : H = H') : aAppend P ats s x H K = aAppend P ats s' x' H' K := by rw [h1, h2, h3]

/-! the end -/
def aRes (P : Program) (rs : List ResultVar) (fr : Fr) (H : AHeap) : Option AV :=
  match rs.mapM (aResult P fr H) with
  | some [v] => some v
  | some vs => some (.tuple vs)
  | none => none
def AEndR (P : Program) (rs : Array ResultVar) (K : AV → AHeap → Prop) (e : Exit) (fr : Fr) (H : AHeap) : Prop :=
  match e with
  | .normal | .ret => bindO (aRes P rs.toList fr H) (At K H)
  | _ => False
@[simp] theorem AEndR_normal (rs : Array ResultVar) : AEndR P rs K .normal fr H = bindO (aRes P rs.toList fr H) (At K H) := rfl
@[simp] theorem AEndR_ret (rs : Array ResultVar) : AEndR P rs K .ret fr H = bindO (aRes P rs.toList fr H) (At K H) := rfl
@[simp] theorem aRes_nil : aRes P [] fr H = some (.tuple []) := rfl
@[simp] theorem aRes_tmp (t : Nat) : aRes P [.tmp t] fr H = some (fr t) := rfl
@[simp] theorem aRes_cell (a t : Nat) : aRes P [.cell a t] fr H = aLoad P t (fr a) H := by
  unfold aRes
  simp only [List.mapM_cons, List.mapM_nil, aResult]
  cases aLoad P t (fr a) H <;> rfl
@[simp] theorem aRes_more (x y : ResultVar) (l : List ResultVar) : aRes P (x :: y :: l) fr H = ((x :: y :: l).mapM (aResult P fr H)).map .tuple := by
  unfold aRes
  cases h : (x :: y :: l).mapM (aResult P fr H) with
  | none => rfl
  | some vs =>
    have hl : ∀ (l : List ResultVar) (vs : List AV), l.mapM (aResult P fr H) = some vs → vs.length = l.length := by
      intro l
      induction l with
      | nil => intro vs h; simp at h; rw [h]; rfl
      | cons x l ih =>
        intro vs h
        simp only [List.mapM_cons] at h
        cases h1 : aResult P fr H x with
        | none => simp [h1] at h
        | some v =>
          cases h2 : l.mapM (aResult P fr H) with
          | none => simp [h1, h2] at h
          | some ws => simp [h1, h2] at h; subst h; simp [ih ws h2]
    have := hl _ _ h
    match vs, this with
    | a :: b :: r, _ => rfl
@[simp] theorem aResult_tmp (t : Nat) : aResult P fr H (.tmp t) = some (fr t) := rfl
@[simp] theorem aResult_cell (a t : Nat) : aResult P fr H (.cell a t) = aLoad P t (fr a) H := rfl
theorem call_in {P : Program} {f : FuncId} {fn : Func} (T : FT) {args : List AV} {H : AHeap} {K : AV → AHeap → Prop} (hm : P.follows .mixedOrders = true) (hf : P.funcs[f]? = some fn)
    (hk : (fn.body.isSome && !(fn.name == "runtime.NumGoroutine") && decide (args.length ≤ fn.ntmps) && slotsIn fn.ntmps (fn.body.getD .skip) && flagsIn (fn.body.getD .skip) T) = true)
    (h : AW P (fn.body.getD .skip) T (initFr args) H (AEndR P fn.results K)) : ACalls P f args H K := by
  refine call_intro hm hf hk ?_
  have : AEndR P fn.results K = AEnd P fn K := by
    funext e fr H
    cases e <;> rfl
  rw [← this]; exact h

/-! a region that draws its order -/
@[congr] theorem AWS_congr {o : Oper} {R : AV → Prop} (h : fr = fr') (h' : H = H') : AWS P fr H o R = AWS P fr' H' o R := by rw [h, h']
@[congr] theorem ACallsS_congr {f : FuncId} {xs ys : List AV} {R : AV → Prop} (h : xs = ys) (h' : H = H') : ACallsS P f xs H R = ACallsS P f ys H' R := by rw [h, h']
theorem ACallsS.intro {f : FuncId} {xs : List AV} {R : AV → Prop} {v : AV} (h : ACalls P f xs H (fun v' H' => v' = v ∧ H' = H)) (h' : R v) : ACallsS P f xs H R := ⟨v, h, h'⟩
@[simp] theorem AWD_steady (ops : Array Oper) (d : Option Tmp) (op : Op) (t : TypeId) (p : String) (af : Array Edge) (os : List (Oper × Kind)) :
    AWD P ops (({ dst := d, op := op, type := t, pos := p, after := af, guard := none }, .s) :: os) pe fr H KF =
      AWS P fr H { dst := d, op := op, type := t, pos := p, after := af, guard := none } (PK P ops os pe fr d H KF { dst := d, op := op, type := t, pos := p, after := af, guard := none }) := propext Iff.rfl
@[simp] theorem AWD_quiet (ops : Array Oper) (d : Option Tmp) (op : Op) (t : TypeId) (p : String) (af : Array Edge) (os : List (Oper × Kind)) :
    AWD P ops (({ dst := d, op := op, type := t, pos := p, after := af, guard := none }, .q) :: os) pe fr H KF =
      AWS P fr H { dst := d, op := op, type := t, pos := p, after := af, guard := none } (SK P ops os pe fr d H KF) := propext Iff.rfl
@[simp] theorem Again_nil : Again P H [] = True := rfl
@[simp] theorem Again_cons (o : Oper) (v : AV) (l : List (Oper × Fr × AV)) : Again P H ((o, fr, v) :: l) = (AWS P fr H o (fun v' => v' = v) ∧ Again P H l) := by
  show (_ ∧ _) = _
  congr 1
  apply propext
  constructor
  · intro h; exact ⟨v, h, rfl⟩
  · rintro ⟨v', h, rfl⟩; exact h
theorem guard_gval (ops : Array Oper) (d : Option Tmp) (op : Op) (t : TypeId) (p : String) (af : Array Edge) (j : Nat) (want : Bool) :
    aguard ops fr { dst := d, op := op, type := t, pos := p, after := af, guard := some (j, want) } = gval ((ops[j]?).bind (·.dst)) want fr := rfl
@[simp] theorem AWD_guard_q (ops : Array Oper) (d : Option Tmp) (op : Op) (t : TypeId) (p : String) (af : Array Edge) (j : Nat) (want : Bool) (os : List (Oper × Kind)) :
    AWD P ops (({ dst := d, op := op, type := t, pos := p, after := af, guard := some (j, want) }, .q) :: os) pe fr H KF =
      bindO (gval ((ops[j]?).bind (·.dst)) want fr) (GuardQ P ops os pe fr H { dst := d, op := op, type := t, pos := p, after := af, guard := none } KF) := by
  simp only [AWD, guard_gval]
  cases gval ((ops[j]?).bind (·.dst)) want fr with
  | none => simp
  | some c =>
    rw [bindO_some]
    cases c
    · rw [GuardQ_f]
    · rw [GuardQ_t]; rfl
@[simp] theorem AWD_guard_b (ops : Array Oper) (d : Option Tmp) (op : Op) (t : TypeId) (p : String) (af : Array Edge) (j : Nat) (want : Bool) (os : List (Oper × Kind)) :
    AWD P ops (({ dst := d, op := op, type := t, pos := p, after := af, guard := some (j, want) }, .b) :: os) pe fr H KF =
      bindO (gval ((ops[j]?).bind (·.dst)) want fr) (GuardB P ops os pe fr H { dst := d, op := op, type := t, pos := p, after := af, guard := none } KF) := by
  simp only [AWD, guard_gval]
  cases gval ((ops[j]?).bind (·.dst)) want fr with
  | none => simp
  | some c =>
    rw [bindO_some]
    cases c
    · rw [GuardB_f]
    · rw [GuardB_t]; rfl
theorem AWS_of {o : Oper} {e : Option AV} (h : ∀ K : AV → AHeap → Prop, aop P fr H o K = bindO e (At K H)) (R : AV → Prop) : AWS P fr H o R = bindO e R := by
  unfold AWS
  simp only [h]
  unfold bindO
  apply propext
  constructor
  · rintro ⟨v, ⟨u, h1, h2, _⟩, h3⟩; exact ⟨u, h1, by rw [h2]; exact h3⟩
  · rintro ⟨v, h1, h2⟩; exact ⟨v, ⟨v, h1, by simp⟩, h2⟩
section
variable (d : Option Tmp) (ty : TypeId) (pos : String) (af : Array Edge) (g : Option (Nat × Bool)) (R : AV → Prop)
@[simp] theorem AWS_move (x : Operand) : AWS P fr H ⟨d, .move x, ty, pos, af, g⟩ R = R (ev fr x) := by
  rw [AWS_of (e := some (ev fr x)) (fun K => by rw [bindO_some]; rfl), bindO_some]
@[simp] theorem AWS_assign (x : Operand) : AWS P fr H ⟨d, .assign x, ty, pos, af, g⟩ R = R (ev fr x) := by
  rw [AWS_of (e := some (ev fr x)) (fun K => by rw [bindO_some]; rfl), bindO_some]
@[simp] theorem AWS_nilCheck (x : Operand) : AWS P fr H ⟨d, .nilCheck x, ty, pos, af, g⟩ R = bindO (nonNil (ev fr x)) R := AWS_of (fun _ => aop_nilCheck ..) R
@[simp] theorem AWS_pick (c x y : Operand) : AWS P fr H ⟨d, .pick c x y, ty, pos, af, g⟩ R = bindO (asBoolO (ev fr c)) (PickR (ev fr x) (ev fr y) R) := by
  rw [AWS_of (e := (asBoolO (ev fr c)).map fun b => if b then ev fr x else ev fr y) (fun K => by
    rw [aop_pick]
    cases asBoolO (ev fr c) with
    | none => simp
    | some b => simp [PickK_ap])]
  cases asBoolO (ev fr c) with
  | none => simp
  | some b => simp [PickR_ap]
@[simp] theorem AWS_build (t : TypeId) (ps : Array (Nat × Operand)) : AWS P fr H ⟨d, .build t ps, ty, pos, af, g⟩ R = bindO (aBuild P t (ps.toList.map fun p => (p.1, ev fr p.2))) R := AWS_of (fun _ => aop_build ..) R
@[simp] theorem AWS_buildSlice (t : TypeId) (len : Nat) (ps : Array (Nat × Operand)) : AWS P fr H ⟨d, .buildSlice t len ps, ty, pos, af, g⟩ R =
    bindO (aBuildSlice P t len (ps.toList.map fun p => (p.1, ev fr p.2))) (BsR len R) := by
  rw [AWS_of (e := (aBuildSlice P t len (ps.toList.map fun p => (p.1, ev fr p.2))).map fun r => .sliceI r.2 len (some len)) (fun K => by
    rw [aop_buildSlice]
    cases aBuildSlice P t len (ps.toList.map fun p => (p.1, ev fr p.2)) with
    | none => simp
    | some r => simp)]
  cases aBuildSlice P t len (ps.toList.map fun p => (p.1, ev fr p.2)) with
  | none => simp
  | some r => simp
@[simp] theorem AWS_load (t : TypeId) (p : Operand) : AWS P fr H ⟨d, .load t p, ty, pos, af, g⟩ R = bindO (aLoad P t (ev fr p) H) R := AWS_of (fun _ => aop_load ..) R
@[simp] theorem AWS_binOp (op : BinOp) (t u : TypeId) (x y : Operand) : AWS P fr H ⟨d, .binOp op t x y u, ty, pos, af, g⟩ R = bindO (aBin' P op t x y (ev fr x) (ev fr y)) R := AWS_of (fun _ => aop_binOp ..) R
@[simp] theorem AWS_unOp (op : UnOp) (t : TypeId) (x : Operand) : AWS P fr H ⟨d, .unOp op t x, ty, pos, af, g⟩ R = bindO (aUn op (ev fr x)) R := AWS_of (fun _ => aop_unOp ..) R
@[simp] theorem AWS_convert (s t : TypeId) (x : Operand) : AWS P fr H ⟨d, .convert s t x, ty, pos, af, g⟩ R = bindO (aConv P s t (ev fr x)) R := AWS_of (fun _ => aop_convert ..) R
@[simp] theorem AWS_makeFunc (fn : Fn) (xs ys : Array Operand) : AWS P fr H ⟨d, .makeFunc fn xs ys, ty, pos, af, g⟩ R = R (.func fn (xs.toList.map (ev fr)) (ys.toList.map (ev fr))) := by
  rw [AWS_of (e := some (.func fn (xs.toList.map (ev fr)) (ys.toList.map (ev fr)))) (fun K => by rw [bindO_some]; rfl), bindO_some]
@[simp] theorem AWS_slice (t : TypeId) (x : Operand) (lo hi mx : Option Operand) : AWS P fr H ⟨d, .slice t x lo hi mx, ty, pos, af, g⟩ R =
    bindO (aSlice P t (ev fr x) (lo.map (ev fr)) (hi.map (ev fr)) (mx.map (ev fr)) H) R := AWS_of (fun _ => aop_slice ..) R
@[simp] theorem AWS_fieldAddr (t : TypeId) (x : Operand) (f : Nat) : AWS P fr H ⟨d, .fieldAddr t x f, ty, pos, af, g⟩ R = bindO (aFieldAddr P t (ev fr x) f) R := AWS_of (fun _ => aop_fieldAddr ..) R
@[simp] theorem AWS_field (t : TypeId) (x : Operand) (f : Nat) : AWS P fr H ⟨d, .field t x f, ty, pos, af, g⟩ R = bindO (aField P t (ev fr x) f) R := AWS_of (fun _ => aop_field ..) R
@[simp] theorem AWS_indexAddr (t : TypeId) (x i : Operand) : AWS P fr H ⟨d, .indexAddr t x i, ty, pos, af, g⟩ R = bindO (aIndexAddr P t (ev fr x) (ev fr i)) R := AWS_of (fun _ => aop_indexAddr ..) R
@[simp] theorem AWS_index (t : TypeId) (x i : Operand) : AWS P fr H ⟨d, .index t x i, ty, pos, af, g⟩ R = bindO (aIndex P t (ev fr x) (ev fr i)) R := AWS_of (fun _ => aop_index ..) R
@[simp] theorem AWS_lookup (t : TypeId) (m k : Operand) (ok : Bool) : AWS P fr H ⟨d, .lookup t m k ok, ty, pos, af, g⟩ R = bindO (aLookup P t (ev fr m) (ev fr k) ok H) R := AWS_of (fun _ => aop_lookup ..) R
@[simp] theorem AWS_len (x : Operand) (ats : Array TypeId) : AWS P fr H ⟨d, .call ⟨.builtin .len, #[x], ats⟩, ty, pos, af, g⟩ R = bindO (aLen P ats (ev fr x) H) R := AWS_of (fun _ => aop_len ..) R
@[simp] theorem AWS_max (xs : Array Operand) (ats : Array TypeId) : AWS P fr H ⟨d, .call ⟨.builtin .max, xs, ats⟩, ty, pos, af, g⟩ R = bindO (aFold aMax2 (xs.toList.map (ev fr))) R := AWS_of (fun _ => aop_max ..) R
@[simp] theorem AWS_min (xs : Array Operand) (ats : Array TypeId) : AWS P fr H ⟨d, .call ⟨.builtin .min, xs, ats⟩, ty, pos, af, g⟩ R = bindO (aFold aMin2 (xs.toList.map (ev fr))) R := AWS_of (fun _ => aop_min ..) R
@[simp] theorem AWS_complex (xs : Array Operand) (ats : Array TypeId) : AWS P fr H ⟨d, .call ⟨.builtin .complex, xs, ats⟩, ty, pos, af, g⟩ R = bindO (aComplexOf (xs.toList.map (ev fr))) R := AWS_of (fun _ => aop_complex ..) R
@[simp] theorem AWS_real (xs : Array Operand) (ats : Array TypeId) : AWS P fr H ⟨d, .call ⟨.builtin .real, xs, ats⟩, ty, pos, af, g⟩ R = bindO (aReal (xs.toList.map (ev fr))) R := AWS_of (fun _ => aop_real ..) R
@[simp] theorem AWS_imag (xs : Array Operand) (ats : Array TypeId) : AWS P fr H ⟨d, .call ⟨.builtin .imag, xs, ats⟩, ty, pos, af, g⟩ R = bindO (aImag (xs.toList.map (ev fr))) R := AWS_of (fun _ => aop_imag ..) R
@[simp] theorem AWS_extract (x : Operand) (i : Nat) : AWS P fr H ⟨d, .extract x i, ty, pos, af, g⟩ R = bindO (asTuple (ev fr x)) (ExtR i R) := by
  have := AWS_of (P := P) (fr := fr) (H := H) (o := ⟨d, .extract x i, ty, pos, af, g⟩) (e := (asTuple (ev fr x)).bind (·[i]?)) (fun K => by
    rw [aop_extract]
    unfold bindO
    apply propext
    constructor
    · rintro ⟨vs, h1, v, h2, h3⟩; exact ⟨v, by rw [h1]; exact h2, h3⟩
    · rintro ⟨v, h1, h2⟩
      obtain ⟨vs, h3, h4⟩ := Option.bind_eq_some_iff.1 h1
      exact ⟨vs, h3, v, h4, h2⟩) R
  rw [this]
  unfold bindO
  apply propext
  constructor
  · rintro ⟨v, h1, h2⟩
    obtain ⟨vs, h3, h4⟩ := Option.bind_eq_some_iff.1 h1
    exact ⟨vs, h3, v, h4, h2⟩
  · rintro ⟨vs, h1, v, h2, h3⟩; exact ⟨v, by rw [h1]; exact h2, h3⟩
@[simp] theorem AWS_call (f : Operand) (args : Array Operand) (ats : Array TypeId) : AWS P fr H ⟨d, .call ⟨.value f, args, ats⟩, ty, pos, af, g⟩ R =
    bindO (asFunc (ev fr f)) (CallR P (args.toList.map (ev fr)) H R) := by
  unfold AWS
  simp only [aop_call]
  unfold bindO CallR CallK ACallsS
  apply propext
  constructor
  · rintro ⟨v, ⟨r, h1, h2⟩, h3⟩; exact ⟨r, h1, v, h2, h3⟩
  · rintro ⟨r, h1, v, h2, h3⟩; exact ⟨v, ⟨r, h1, h2⟩, h3⟩
end

/-! weaker ends -/
theorem AWL_mono {ops : Array Oper} {KF KF' : Fr → AHeap → Prop} (hk : ∀ fr H, KF fr H → KF' fr H) : ∀ (os : List Oper) (fr : Fr) (H : AHeap), AWL P ops os fr H KF → AWL P ops os fr H KF'
  | [], fr, H, h => hk _ _ h
  | o :: os, fr, H, h => by
    simp only [AWL] at h ⊢
    split at h
    · exact aop_mono (fun v H' => AWL_mono hk os _ _) h
    · exact AWL_mono hk os _ _ h
    · exact h.elim
theorem AWD_mono {ops : Array Oper} {KF KF' : Fr → AHeap → Prop} (hk : ∀ fr H, KF fr H → KF' fr H) : ∀ (os : List (Oper × Kind)) (pe : List (Oper × Fr × AV)) (fr : Fr) (H : AHeap), AWD P ops os pe fr H KF → AWD P ops os pe fr H KF'
  | [], _, fr, H, h => hk _ _ h
  | (o, k) :: os, pe, fr, H, h => by
    simp only [AWD] at h ⊢
    split at h
    · by_cases hb : k = .b
      · simp only [if_pos hb] at h ⊢
        exact aop_mono (fun v H' => AWD_mono hk os _ _ _) h
      · by_cases hm : k = .m
        · simp only [if_neg hb, if_pos hm] at h ⊢
          exact aop_mono (fun v H' h => ⟨h.1, AWD_mono hk os _ _ _ h.2⟩) h
        · by_cases ha : k = .a
          · simp only [if_neg hb, if_neg hm, if_pos ha] at h ⊢
            exact aop_mono (fun v H' h => AWD_mono hk os _ _ _ h) h
          simp only [if_neg hb, if_neg hm, if_neg ha] at h ⊢
          obtain ⟨v, h1, h2⟩ := h
          exact ⟨v, h1, AWD_mono hk os _ _ _ h2⟩
    · exact AWD_mono hk os _ _ _ h
    · exact h.elim
theorem ARounds_mono {b : Fr → AHeap → (Exit → Fr → AHeap → Prop) → Prop} (hb : ∀ fr H Q Q', (∀ e fr H, Q e fr H → Q' e fr H) → b fr H Q → b fr H Q') {Q Q' : Exit → Fr → AHeap → Prop} (hq : ∀ e fr H, Q e fr H → Q' e fr H) :
    ∀ (n : Nat) (fr : Fr) (H : AHeap), ARounds b n fr H Q → ARounds b n fr H Q'
  | 0, _, _, h => h.elim
  | n + 1, fr, H, h => hb fr H _ _ (fun e fr' H' h => by
    cases e with
    | normal => exact ARounds_mono hb hq n fr' H' h
    | _ => exact hq _ _ _ h) h
theorem AW_mono (c : Code) : ∀ (T : FT) (fr : Fr) (H : AHeap) (Q Q' : Exit → Fr → AHeap → Prop), (∀ e fr H, Q e fr H → Q' e fr H) → AW P c T fr H Q → AW P c T fr H Q' := by
  induction c with
  | skip => intro T fr H Q Q' hq h; exact hq _ _ _ h
  | region id ops draw =>
    intro T fr H Q Q' hq h
    cases draw with
    | false => exact AWL_mono (fun fr H => hq .normal (T.cut fr) H) _ _ _ h
    | true => exact AWD_mono (fun fr H => hq .normal (T.cut fr) H) _ _ _ _ h
  | seq x y ihx ihy =>
    intro T fr H Q Q' hq h
    refine ihx T.a fr H _ _ ?_ h
    intro e fr' H' h
    cases e with
    | normal => exact ihy T.b fr' H' Q Q' hq h
    | _ => exact hq _ _ _ h
  | cond c x y ihx ihy =>
    intro T fr H Q Q' hq h
    obtain ⟨b, h1, h2, h3⟩ := h
    exact ⟨b, h1, fun e => ihx T.a fr H Q Q' hq (h2 e), fun e => ihy T.b fr H Q Q' hq (h3 e)⟩
  | block id x ih =>
    intro T fr H Q Q' hq h
    refine ih T fr H _ _ ?_ h
    intro e fr' H' h
    cases e with
    | exit id' =>
      by_cases e : id' = id
      · simp only [if_pos e] at h ⊢; exact hq _ _ _ h
      · simp only [if_neg e] at h ⊢; exact hq _ _ _ h
    | _ => exact hq _ _ _ h
  | loop x ih =>
    intro T fr H Q Q' hq h
    obtain ⟨n, h⟩ := h
    exact ⟨n, ARounds_mono (ih T) hq n fr H h⟩
  | exit id => intro T fr H Q Q' hq h; exact hq _ _ _ h
  | label l => intro T fr H Q Q' hq h; exact hq _ _ _ h
  | goto l => intro T fr H Q Q' hq h; exact hq _ _ _ h
  | ret => intro T fr H Q Q' hq h; exact hq _ _ _ h
  | rangeFunc => intro T fr H Q Q' hq h; exact h.elim
  | scope => intro T fr H Q Q' hq h; exact h.elim
  | refuse => intro T fr H Q Q' hq h; exact h.elim

/-! loops -/
/-- The end of a round: the next one may begin, or the loop is left. -/
def Round (J : Fr → AHeap → Prop) (Q : Exit → Fr → AHeap → Prop) (e : Exit) (fr : Fr) (H : AHeap) : Prop :=
  match e with
  | .normal => J fr H
  | e => Q e fr H
@[simp] theorem Round_normal (J : Fr → AHeap → Prop) : Round J Q .normal fr H = J fr H := rfl
@[simp] theorem Round_exit (J : Fr → AHeap → Prop) (i : Nat) : Round J Q (.exit i) fr H = Q (.exit i) fr H := rfl
@[simp] theorem Round_ret (J : Fr → AHeap → Prop) : Round J Q .ret fr H = Q .ret fr H := rfl
@[simp] theorem Round_goto (J : Fr → AHeap → Prop) (l : Nat) : Round J Q (.goto l) fr H = Q (.goto l) fr H := rfl

theorem AW_for {x : Code} (N : Nat) (I : Nat → Fr → AHeap → Prop) (h0 : I 0 fr H)
    (hr : ∀ k fr H, k ≤ N → I k fr H → AW P x T fr H (Round (fun fr' H' => k < N ∧ I (k + 1) fr' H') Q)) : AW P (.loop x) T fr H Q := by
  have key : ∀ (m k : Nat) (fr : Fr) (H : AHeap), k ≤ N → N - k = m → I k fr H → ARounds (AW P x T) (m + 1) fr H Q := by
    intro m
    induction m with
    | zero =>
      intro k fr H hk hm hI
      refine AW_mono x T fr H _ _ ?_ (hr k fr H hk hI)
      intro e fr' H' h
      cases e with
      | normal => have := h.1; omega
      | _ => exact h
    | succ m ih =>
      intro k fr H hk hm hI
      refine AW_mono x T fr H _ _ ?_ (hr k fr H hk hI)
      intro e fr' H' h
      cases e with
      | normal => exact ih (k + 1) fr' H' (by have := h.1; omega) (by omega) h.2
      | _ => exact h
  exact ⟨N - 0 + 1, key (N - 0) 0 fr H (Nat.zero_le _) rfl h0⟩

theorem AW_while {x : Code} (I : Fr → AHeap → Prop) (μ : Fr → AHeap → Nat) (h0 : I fr H)
    (hr : ∀ fr H, I fr H → AW P x T fr H (Round (fun fr' H' => I fr' H' ∧ μ fr' H' < μ fr H) Q)) : AW P (.loop x) T fr H Q := by
  have key : ∀ (m : Nat) (fr : Fr) (H : AHeap), μ fr H ≤ m → I fr H → ARounds (AW P x T) (m + 1) fr H Q := by
    intro m
    induction m with
    | zero =>
      intro fr H hm hI
      refine AW_mono x T fr H _ _ ?_ (hr fr H hI)
      intro e fr' H' h
      cases e with
      | normal => have := h.2; omega
      | _ => exact h
    | succ m ih =>
      intro fr H hm hI
      refine AW_mono x T fr H _ _ ?_ (hr fr H hI)
      intro e fr' H' h
      cases e with
      | normal => exact ih fr' H' (by have := h.2; omega) h.1
      | _ => exact h
  exact ⟨μ fr H + 1, key (μ fr H) fr H (Nat.le_refl _) h0⟩

/-! operators -/
@[simp] theorem bin_add (t : TypeId) (x y : Operand) (k : IntKind) (a b : Int) : aBin' P .add t x y (.int k a) (.int k b) = some (.int k (k.wrap (a + b))) := by simp [aBin', aBin, aInt]
@[simp] theorem bin_sub (t : TypeId) (x y : Operand) (k : IntKind) (a b : Int) : aBin' P .sub t x y (.int k a) (.int k b) = some (.int k (k.wrap (a - b))) := by simp [aBin', aBin, aInt]
@[simp] theorem bin_mul (t : TypeId) (x y : Operand) (k : IntKind) (a b : Int) : aBin' P .mul t x y (.int k a) (.int k b) = some (.int k (k.wrap (a * b))) := by simp [aBin', aBin, aInt]
@[simp] theorem bin_quo (t : TypeId) (x y : Operand) (k : IntKind) (a b : Int) : aBin' P .quo t x y (.int k a) (.int k b) = if b = 0 then none else some (.int k (k.wrap (a.tdiv b))) := by
  show (if k = k then aInt _ k a b else none) = _
  rw [if_pos rfl]; rfl
@[simp] theorem bin_rem (t : TypeId) (x y : Operand) (k : IntKind) (a b : Int) : aBin' P .rem t x y (.int k a) (.int k b) = if b = 0 then none else some (.int k (a.tmod b)) := by
  show (if k = k then aInt _ k a b else none) = _
  rw [if_pos rfl]; rfl
@[simp] theorem bin_eql (t : TypeId) (x y : Operand) (k : IntKind) (a b : Int) : aBin' P .eql t x y (.int k a) (.int k b) = some (.bool (decide (a = b))) := by by_cases h : a = b <;> simp [aBin', aBin, aInt, h]
@[simp] theorem bin_neq (t : TypeId) (x y : Operand) (k : IntKind) (a b : Int) : aBin' P .neq t x y (.int k a) (.int k b) = some (.bool (!decide (a = b))) := by by_cases h : a = b <;> simp [aBin', aBin, aInt, h]
@[simp] theorem bin_lss (t : TypeId) (x y : Operand) (k : IntKind) (a b : Int) : aBin' P .lss t x y (.int k a) (.int k b) = some (.bool (decide (a < b))) := by simp [aBin', aBin, aInt]
@[simp] theorem bin_leq (t : TypeId) (x y : Operand) (k : IntKind) (a b : Int) : aBin' P .leq t x y (.int k a) (.int k b) = some (.bool (decide (a ≤ b))) := by simp [aBin', aBin, aInt]
@[simp] theorem bin_gtr (t : TypeId) (x y : Operand) (k : IntKind) (a b : Int) : aBin' P .gtr t x y (.int k a) (.int k b) = some (.bool (decide (b < a))) := by simp [aBin', aBin, aInt]
@[simp] theorem bin_geq (t : TypeId) (x y : Operand) (k : IntKind) (a b : Int) : aBin' P .geq t x y (.int k a) (.int k b) = some (.bool (decide (b ≤ a))) := by simp [aBin', aBin, aInt]
@[simp] theorem bin_and (t : TypeId) (x y : Operand) (k : IntKind) (a b : Int) : aBin' P .and t x y (.int k a) (.int k b) = some (.int k (bits .and k a b)) := by simp [aBin', aBin, aInt]
@[simp] theorem bin_or (t : TypeId) (x y : Operand) (k : IntKind) (a b : Int) : aBin' P .or t x y (.int k a) (.int k b) = some (.int k (bits .or k a b)) := by simp [aBin', aBin, aInt]
@[simp] theorem bin_xor (t : TypeId) (x y : Operand) (k : IntKind) (a b : Int) : aBin' P .xor t x y (.int k a) (.int k b) = some (.int k (bits .xor k a b)) := by simp [aBin', aBin, aInt]
@[simp] theorem bin_andNot (t : TypeId) (x y : Operand) (k : IntKind) (a b : Int) : aBin' P .andNot t x y (.int k a) (.int k b) = some (.int k (bits .andNot k a b)) := by simp [aBin', aBin, aInt]
@[simp] theorem bin_shl (t : TypeId) (x y : Operand) (k k' : IntKind) (a b : Int) : aBin' P .shl t x y (.int k a) (.int k' b) = if b < 0 then none else some (.int k (k.wrap (a * 2 ^ (min b.toNat k.bits)))) := by simp [aBin', aBin]
@[simp] theorem bin_shr (t : TypeId) (x y : Operand) (k k' : IntKind) (a b : Int) : aBin' P .shr t x y (.int k a) (.int k' b) = if b < 0 then none else some (.int k (a.fdiv (2 ^ (min b.toNat k.bits)))) := by simp [aBin', aBin]
@[simp] theorem binF_add (t : TypeId) (x y : Operand) (k : FloatKind) (a b : Nat) : aBin' P .add t x y (.float k a) (.float k b) = some (.float k (addF k a b)) := by simp [aBin', aBin, aFloat]
@[simp] theorem binF_sub (t : TypeId) (x y : Operand) (k : FloatKind) (a b : Nat) : aBin' P .sub t x y (.float k a) (.float k b) = some (.float k (subF k a b)) := by simp [aBin', aBin, aFloat]
@[simp] theorem binF_mul (t : TypeId) (x y : Operand) (k : FloatKind) (a b : Nat) : aBin' P .mul t x y (.float k a) (.float k b) = some (.float k (mulF k a b)) := by simp [aBin', aBin, aFloat]
@[simp] theorem binF_quo (t : TypeId) (x y : Operand) (k : FloatKind) (a b : Nat) : aBin' P .quo t x y (.float k a) (.float k b) = some (.float k (divF k a b)) := by simp [aBin', aBin, aFloat]
@[simp] theorem binF_eql (t : TypeId) (x y : Operand) (k : FloatKind) (a b : Nat) : aBin' P .eql t x y (.float k a) (.float k b) = some (.bool (eqF k a b)) := by simp [aBin', aBin, aFloat]
@[simp] theorem binF_neq (t : TypeId) (x y : Operand) (k : FloatKind) (a b : Nat) : aBin' P .neq t x y (.float k a) (.float k b) = some (.bool !(eqF k a b)) := by simp [aBin', aBin, aFloat]
@[simp] theorem binF_lss (t : TypeId) (x y : Operand) (k : FloatKind) (a b : Nat) : aBin' P .lss t x y (.float k a) (.float k b) = some (.bool (ltF k a b)) := by simp [aBin', aBin, aFloat]
@[simp] theorem binF_leq (t : TypeId) (x y : Operand) (k : FloatKind) (a b : Nat) : aBin' P .leq t x y (.float k a) (.float k b) = some (.bool (leF k a b)) := by simp [aBin', aBin, aFloat]
@[simp] theorem binF_gtr (t : TypeId) (x y : Operand) (k : FloatKind) (a b : Nat) : aBin' P .gtr t x y (.float k a) (.float k b) = some (.bool (gtF k a b)) := by simp [aBin', aBin, aFloat]
@[simp] theorem binF_geq (t : TypeId) (x y : Operand) (k : FloatKind) (a b : Nat) : aBin' P .geq t x y (.float k a) (.float k b) = some (.bool (geF k a b)) := by simp [aBin', aBin, aFloat]
@[simp] theorem binC_add (t : TypeId) (x y : Operand) (k : FloatKind) (a b c d : Nat) : aBin' P .add t x y (.complex k a b) (.complex k c d) = some (.complex k (addF k a c) (addF k b d)) := by simp [aBin', aBin, aComplex]
@[simp] theorem binC_sub (t : TypeId) (x y : Operand) (k : FloatKind) (a b c d : Nat) : aBin' P .sub t x y (.complex k a b) (.complex k c d) = some (.complex k (subF k a c) (subF k b d)) := by simp [aBin', aBin, aComplex]
@[simp] theorem binC_eql (t : TypeId) (x y : Operand) (k : FloatKind) (a b c d : Nat) : aBin' P .eql t x y (.complex k a b) (.complex k c d) = some (.bool (eqF k a c && eqF k b d)) := by simp [aBin', aBin, aComplex]
@[simp] theorem binC_neq (t : TypeId) (x y : Operand) (k : FloatKind) (a b c d : Nat) : aBin' P .neq t x y (.complex k a b) (.complex k c d) = some (.bool !(eqF k a c && eqF k b d)) := by simp [aBin', aBin, aComplex]
@[simp] theorem binS_add (t : TypeId) (x y : Operand) (u v : List UInt8) : aBin' P .add t x y (.string u) (.string v) = if u.length + v.length ≤ 9223372036854775807 then some (.string (u ++ v)) else none := by simp [aBin', aBin, aString]
@[simp] theorem binS_eql (t : TypeId) (x y : Operand) (u v : List UInt8) : aBin' P .eql t x y (.string u) (.string v) = some (.bool (u == v)) := by simp [aBin', aBin, aString]
@[simp] theorem binS_neq (t : TypeId) (x y : Operand) (u v : List UInt8) : aBin' P .neq t x y (.string u) (.string v) = some (.bool !(u == v)) := by simp [aBin', aBin, aString]
@[simp] theorem binB_eql (t : TypeId) (ht : isBoolT P t = true) (x y : Operand) (a b : Bool) : aBin' P .eql t x y (.bool a) (.bool b) = some (.bool (a == b)) := by simp [aBin', aBin, ht]
@[simp] theorem binN_eql (t : TypeId) (ht : isSliceT P t = true) (x y : Operand) : aBin' P .eql t x y .nilslice .nilslice = some (.bool true) := by simp [aBin', aBin, ht, isNilSlice]
@[simp] theorem binNI_eql (t : TypeId) (ht : isSliceT P t = true) (x y : Operand) (xs : List AV) (n : Nat) (c : Option Nat) : aBin' P .eql t x y (.sliceI xs n c) .nilslice = some (.bool false) := by simp [aBin', aBin, ht, isNilSlice]
@[simp] theorem binNR_eql (t : TypeId) (ht : isSliceT P t = true) (x y : Operand) (i o n e : Nat) (c : Option Nat) : aBin' P .eql t x y (.sliceR i o n e c) .nilslice = some (.bool false) := by simp [aBin', aBin, ht, isNilSlice]
@[simp] theorem binB_neq (t : TypeId) (ht : isBoolT P t = true) (x y : Operand) (a b : Bool) : aBin' P .neq t x y (.bool a) (.bool b) = some (.bool !(a == b)) := by simp [aBin', aBin, ht]
@[simp] theorem binN_neq (t : TypeId) (ht : isSliceT P t = true) (x y : Operand) : aBin' P .neq t x y .nilslice .nilslice = some (.bool false) := by simp [aBin', aBin, ht, isNilSlice]
@[simp] theorem binNI_neq (t : TypeId) (ht : isSliceT P t = true) (x y : Operand) (xs : List AV) (n : Nat) (c : Option Nat) : aBin' P .neq t x y (.sliceI xs n c) .nilslice = some (.bool true) := by simp [aBin', aBin, ht, isNilSlice]
@[simp] theorem binNR_neq (t : TypeId) (ht : isSliceT P t = true) (x y : Operand) (i o n e : Nat) (c : Option Nat) : aBin' P .neq t x y (.sliceR i o n e c) .nilslice = some (.bool true) := by simp [aBin', aBin, ht, isNilSlice]
@[simp] theorem un_neg (k : IntKind) (n : Int) : aUn .neg (.int k n) = some (.int k (k.wrap (0 - n))) := rfl
@[simp] theorem un_negF (k : FloatKind) (n : Nat) : aUn .neg (.float k n) = some (.float k (negF k n)) := rfl
@[simp] theorem un_negC (k : FloatKind) (n m : Nat) : aUn .neg (.complex k n m) = some (.complex k (negF k n) (negF k m)) := rfl
@[simp] theorem un_not (b : Bool) : aUn .not (.bool b) = some (.bool !b) := rfl

/-! conversions -/
def convI (u : Option TypeDesc) (n : Int) : Option AV :=
  match u with
  | some (.int k) => some (.int k (k.wrap n))
  | some (.float k) => some (.float k (ofIntF k n))
  | _ => none
def convF (u : Option TypeDesc) (s : FloatKind) (b : Nat) : Option AV :=
  match u with
  | some (.int k) => match (s.decode b).toInt .zero with
    | some n => if k.min ≤ n ∧ n ≤ k.max then some (.int k n) else none
    | none => none
  | some (.float k) => (floatToF s b k).map (.float k)
  | _ => none
@[simp] theorem conv_int {s t : TypeId} {k : IntKind} {n : Int} (hs : (P.underlying s).isSome = true) : aConv P s t (.int k n) = convI (P.underlying t) n := by
  unfold aConv convI
  rw [if_pos hs]
  generalize P.underlying t = u
  rcases u with _ | u
  · rfl
  · cases u <;> rfl
@[simp] theorem conv_float {s t : TypeId} {k : FloatKind} {n : Nat} (hs : (P.underlying s).isSome = true) : aConv P s t (.float k n) = convF (P.underlying t) k n := by
  unfold aConv convF
  rw [if_pos hs]
  generalize P.underlying t = u
  rcases u with _ | u
  · rfl
  · cases u <;> rfl
@[simp] theorem conv_complex {s t : TypeId} {k : FloatKind} {n m : Nat} (hs : (P.underlying s).isSome = true) (ht : P.underlying t = some (.complex k)) : aConv P s t (.complex k n m) = some (.complex k n m) := by
  unfold aConv
  rw [if_pos hs, ht]
  exact if_pos rfl
@[simp] theorem convI_int (k : IntKind) (n : Int) : convI (some (.int k)) n = some (.int k (k.wrap n)) := rfl
@[simp] theorem convI_float (k : FloatKind) (n : Int) : convI (some (.float k)) n = some (.float k (ofIntF k n)) := rfl
@[simp] theorem convF_float (k s : FloatKind) (b : Nat) : convF (some (.float k)) s b = (floatToF s b k).map (.float k) := rfl

/-! what is told ahead -/
@[simp] theorem FT_a_n (x y : FT) : (FT.n x y).a = x := rfl
@[simp] theorem FT_b_n (x y : FT) : (FT.n x y).b = y := rfl
@[simp] theorem FT_a_z : FT.z.a = .z := rfl
@[simp] theorem FT_b_z : FT.z.b = .z := rfl
@[simp] theorem FT_cut_z : FT.z.cut fr = fr := rfl
@[simp] theorem FT_list_r (ops : Array Oper) (ks : List Kind) (l : List Nat) : (FT.r ks l).list ops = ops.toList.zip ks := rfl
@[simp] theorem FT_list_p (ops : Array Oper) (pl : List (Nat × Kind)) (l : List Nat) : (FT.p pl l).list ops = opsOf ops pl := rfl
@[simp] theorem opsOf_nil (ops : Array Oper) : opsOf ops [] = [] := rfl
@[simp] theorem opsOf_cons (ops : Array Oper) (i : Nat) (k : Kind) (pl : List (Nat × Kind)) (o : Oper) (h : ops[i]? = some o) : opsOf ops ((i, k) :: pl) = (o, k) :: opsOf ops pl := by simp [opsOf, h]
def noFr : Fr := fun _ => .junk
def putAll (fr : Fr) : List Nat → Fr
  | [] => noFr
  | t :: l => (putAll fr l).put (some t) (fr t)
theorem putAll_eq (fr : Fr) (l : List Nat) : putAll fr l = keep l fr := by
  induction l with
  | nil => funext t; simp [putAll, noFr, keep]
  | cons a l ih =>
    funext t
    simp only [putAll, ih, put_some, keep, List.contains_cons]
    by_cases e : t = a
    · subst e; simp
    · simp [e]
@[simp] theorem FT_cut_r (fl : List Kind) (l : List Nat) : (FT.r fl l).cut fr = putAll fr l := (putAll_eq fr l).symm
@[simp] theorem FT_cut_p (fl : List (Nat × Kind)) (l : List Nat) : (FT.p fl l).cut fr = putAll fr l := (putAll_eq fr l).symm
@[simp] theorem putAll_nil : putAll fr [] = noFr := rfl
@[simp] theorem putAll_cons (t : Nat) (l : List Nat) : putAll fr (t :: l) = (putAll fr l).put (some t) (fr t) := rfl
end rules
end Go.Ab
