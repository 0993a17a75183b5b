/- Code: what has to be shown of it on abstract values and heaps, and that this suffices. -/
import Derived.Test.YtdfoobfofjbjiaaAbAny
set_option linter.unusedSimpArgs false
set_option linter.unusedVariables false
namespace Go.Ab

/-- The rounds of a loop. -/
def ARounds (body : Fr → AHeap → (Exit → Fr → AHeap → Prop) → Prop) : Nat → Fr → AHeap → (Exit → Fr → AHeap → Prop) → Prop
  | 0, _, _, _ => False
  | n + 1, fr, H, Q => body fr H fun e fr' H' => match e with
    | .normal => ARounds body n fr' H' Q
    | e => Q e fr' H'

/-- What is told of a piece of code ahead: which operations of its regions are barriers, and what its frames need to keep. -/
inductive FT where
  | z
  | r (ks : List Kind) (live : List Nat)
  | p (pl : List (Nat × Kind)) (live : List Nat)
  | n (a b : FT)
def FT.a : FT → FT
  | .n x _ => x
  | _ => .z
def FT.b : FT → FT
  | .n _ x => x
  | _ => .z
def FT.list (ops : Array Oper) : FT → List (Oper × Kind)
  | .r ks _ => ops.toList.zip ks
  | .p pl _ => opsOf ops pl
  | _ => []
def FT.order : FT → List (Nat × Kind)
  | .r ks _ => (List.range ks.length).zip ks
  | .p pl _ => pl
  | _ => []
def FT.ok (ops : Array Oper) (T : FT) : Bool := planOK ops T.order && match T with
  | .r ks _ => ks.length == ops.size
  | .p .. => true
  | _ => ops.size == 0
theorem zip_opsOf (os : List Oper) : ∀ (ks : List Kind) (pre : List Oper), ks.length = os.length → opsOf (pre ++ os).toArray (((List.range' pre.length ks.length)).zip ks) = os.zip ks := by
  induction os with
  | nil => intro ks pre h; simp at h; subst h; simp [opsOf]
  | cons o os ih =>
    intro ks pre h
    cases ks with
    | nil => simp at h
    | cons k ks =>
      have := ih ks (pre ++ [o]) (by simpa using h)
      simp only [List.length_append, List.length_cons, List.length_nil, List.append_assoc, List.cons_append, List.nil_append] at this
      simp only [List.length_cons, List.range'_succ, List.zip_cons_cons]
      unfold opsOf at this ⊢
      rw [List.filterMap_cons, ← this]
      have e : (pre ++ o :: os).toArray[pre.length]? = some o := by
        rw [List.getElem?_toArray, List.getElem?_append_right (Nat.le_refl _), Nat.sub_self]; rfl
      simp only [e, Option.map_some, Nat.zero_add]
theorem FT.list_eq {ops : Array Oper} {T : FT} (h : T.ok ops = true) : T.list ops = opsOf ops T.order ∧ planOK ops T.order = true := by
  simp only [FT.ok, Bool.and_eq_true] at h
  refine ⟨?_, h.1⟩
  cases T with
  | z => rfl
  | n a b => rfl
  | p pl l => rfl
  | r ks l =>
    have h2 := h.2
    simp only [beq_iff_eq] at h2
    have := zip_opsOf ops.toList ks [] (by simpa using h2)
    simp only [List.nil_append, List.length_nil, Array.toArray_toList] at this
    simp only [FT.list, FT.order, List.range_eq_range']
    exact this.symm
/-- A frame of which only some slots are kept. -/
def keep (l : List Nat) (fr : Fr) : Fr := fun t => if l.contains t then fr t else .junk
def FT.cut : FT → Fr → Fr
  | .r _ l, fr | .p _ l, fr => keep l fr
  | _, fr => fr

/-- What has to be shown so that a piece of code ends in Q. -/
def AW (P : Program) : Code → FT → Fr → AHeap → (Exit → Fr → AHeap → Prop) → Prop
  | .skip, _, fr, H, Q => Q .normal fr H
  | .region _ ops false, T, fr, H, Q => AWL P ops ops.toList fr H fun fr' H' => Q .normal (T.cut fr') H'
  | .region _ ops true, T, fr, H, Q => AWD P ops (T.list ops) [] fr H fun fr' H' => Q .normal (T.cut fr') H'
  | .seq x y, T, fr, H, Q => AW P x T.a fr H fun e fr' H' => match e with
    | .normal => AW P y T.b fr' H' Q
    | e => Q e fr' H'
  | .cond c x y, T, fr, H, Q => ∃ b, ev fr c = .bool b ∧ (b = true → AW P x T.a fr H Q) ∧ (b = false → AW P y T.b fr H Q)
  | .block id x, T, fr, H, Q => AW P x T fr H fun e fr' H' => match e with
    | .exit id' => if id' = id then Q .normal fr' H' else Q (.exit id') fr' H'
    | e => Q e fr' H'
  | .loop x, T, fr, H, Q => ∃ n, ARounds (AW P x T) n fr H Q
  | .exit id, _, fr, H, Q => Q (.exit id) fr H
  | .label _, _, fr, H, Q => Q .normal fr H
  | .goto l, _, fr, H, Q => Q (.goto l) fr H
  | .ret, _, fr, H, Q => Q .ret fr H
  | _, _, _, _, _ => False

/-- What is told of the regions that draw their order is so. -/
def flagsIn : Code → FT → Bool
  | .region _ ops true, T => T.ok ops
  | .seq x y, T | .cond _ x y, T => flagsIn x T.a && flagsIn y T.b
  | .block _ x, T | .loop x, T => flagsIn x T
  | _, _ => true

/-- No slot is written that the frame has not. -/
def slotsIn (n : Nat) : Code → Bool
  | .region _ ops _ => ops.toList.all fun o => dstOK n o.dst
  | .seq x y | .cond _ x y => slotsIn n x && slotsIn n y
  | .block _ x | .loop x => slotsIn n x
  | _ => true

def PostE (M : Imm) (ρ : Locs) (w : World) (n : Nat) (Q' : Exit → Act → World → Prop) (Q : Exit → Fr → AHeap → Prop) : Prop := ∀ e, Post M ρ w n Q' e (Q e)
theorem PostE.ext {M M' : Imm} {ρ ρ' : Locs} {w w' : World} {n : Nat} {Q' : Exit → Act → World → Prop} {Q : Exit → Fr → AHeap → Prop} (h : PostE M ρ w n Q' Q) (he : Ext M ρ w M' ρ' w') : PostE M' ρ' w' n Q' Q :=
  fun e => (h e).ext he

theorem RelF.keep {M : Imm} {ρ : Locs} {fr : Fr} {a : Act} (h : RelF M ρ fr a) (l : List Nat) : RelF M ρ (Ab.keep l fr) a := ⟨h.1, fun t => by
  unfold Ab.keep
  split
  · exact h.2 t
  · exact .junk _⟩
theorem RelF.cut {M : Imm} {ρ : Locs} {fr : Fr} {a : Act} (h : RelF M ρ fr a) (T : FT) : RelF M ρ (T.cut fr) a := by
  cases T with
  | r fl l => exact h.keep l
  | p fl l => exact h.keep l
  | _ => exact h
theorem Post.cut {M : Imm} {ρ : Locs} {w : World} {n : Nat} {Q : Exit → Act → World → Prop} {e : Exit} {K : Fr → AHeap → Prop} (h : Post M ρ w n Q e K) (T : FT) : Post M ρ w n Q e (fun fr H => K (T.cut fr) H) :=
  fun fr' H' M' ρ' a' w' h1 h2 h3 h4 h5 => h (T.cut fr') H' M' ρ' a' w' h1 h2 (h3.cut T) h4 h5

theorem AW_sound {P : Program} (hm : P.follows .mixedOrders = true) (c : Code) : ∀ (T : FT) (M : Imm) (ρ : Locs) (H : AHeap) (w : World) (fr : Fr) (a : Act) (Q : Exit → Fr → AHeap → Prop) (Q' : Exit → Act → World → Prop),
    flagsIn c T = true → slotsIn a.tmps.size c = true → St M ρ H w → RelF M ρ fr a → AW P c T fr H Q → PostE M ρ w a.tmps.size Q' Q → c.wp P Q' a w := by
  induction c with
  | skip => intro T M ρ H w fr a Q Q' _ _ hs hf h hp; exact wp_skip (hp .normal _ _ _ _ _ _ (.refl ..) hs hf rfl h)
  | region id ops draw =>
    intro T M ρ H w fr a Q Q' hg hd hs hf h hp
    have hd' : ∀ o ∈ ops.toList, dstOK a.tmps.size o.dst = true := List.all_eq_true.1 hd
    cases draw with
    | false => exact AWL_region hd' hs hf h ((hp .normal).cut T)
    | true =>
      obtain ⟨h1, h2⟩ := FT.list_eq (T := T) hg
      have h' : AWD P ops (T.list ops) [] fr H fun fr' H' => Q .normal (T.cut fr') H' := h
      rw [h1] at h'
      exact AWD_region hm h2 hd' hs hf h' ((hp .normal).cut T)
  | seq x y ihx ihy =>
    intro T M ρ H w fr a Q Q' hg hd hs hf h hp
    simp only [slotsIn, Bool.and_eq_true] at hd
    simp only [flagsIn, Bool.and_eq_true] at hg
    refine wp_seq (ihx T.a M ρ H w fr a _ _ hg.1 hd.1 hs hf h ?_)
    intro e fr' H' M' ρ' a' w' he hs' hf' hn hk
    cases e with
    | normal => exact ihy T.b M' ρ' H' w' fr' a' Q Q' hg.2 (by rw [hn]; exact hd.2) hs' hf' hk (by rw [hn]; exact hp.ext he)
    | exit id => exact hp (.exit id) _ _ _ _ _ _ he hs' hf' hn hk
    | goto l => exact hp (.goto l) _ _ _ _ _ _ he hs' hf' hn hk
    | ret => exact hp .ret _ _ _ _ _ _ he hs' hf' hn hk
    | panic ch => exact hp (.panic ch) _ _ _ _ _ _ he hs' hf' hn hk
    | outgrown => exact hp .outgrown _ _ _ _ _ _ he hs' hf' hn hk
  | cond c x y ihx ihy =>
    intro T M ρ H w fr a Q Q' hg hd hs hf h hp
    simp only [slotsIn, Bool.and_eq_true] at hd
    simp only [flagsIn, Bool.and_eq_true] at hg
    obtain ⟨b, hb, h1, h2⟩ := h
    have hc := hf.ev c
    rw [hb] at hc
    exact wp_cond_split hc.bool_inv (fun e => ihx T.a M ρ H w fr a Q Q' hg.1 hd.1 hs hf (h1 e) hp) (fun e => ihy T.b M ρ H w fr a Q Q' hg.2 hd.2 hs hf (h2 e) hp)
  | block id x ih =>
    intro T M ρ H w fr a Q Q' hg hd hs hf h hp
    refine wp_block (ih T M ρ H w fr a _ _ hg hd hs hf h ?_)
    intro e fr' H' M' ρ' a' w' he hs' hf' hn hk
    cases e with
    | exit id' =>
      simp only [Exit.inBlock]
      split
      · rename_i e
        simp only [if_pos e] at hk
        exact hp .normal _ _ _ _ _ _ he hs' hf' hn hk
      · rename_i e
        simp only [if_neg e] at hk
        exact hp (.exit id') _ _ _ _ _ _ he hs' hf' hn hk
    | normal => exact hp .normal _ _ _ _ _ _ he hs' hf' hn hk
    | goto l => exact hp (.goto l) _ _ _ _ _ _ he hs' hf' hn hk
    | ret => exact hp .ret _ _ _ _ _ _ he hs' hf' hn hk
    | panic ch => exact hp (.panic ch) _ _ _ _ _ _ he hs' hf' hn hk
    | outgrown => exact hp .outgrown _ _ _ _ _ _ he hs' hf' hn hk
  | loop x ih =>
    intro T M ρ H w fr a Q Q' hg hd hs hf h hp
    obtain ⟨n, h⟩ := h
    refine wp_loop_rounds n ?_
    have key : ∀ (n : Nat) (M : Imm) (ρ : Locs) (H : AHeap) (w : World) (fr : Fr) (a : Act), slotsIn a.tmps.size x = true → St M ρ H w → RelF M ρ fr a → ARounds (AW P x T) n fr H Q → PostE M ρ w a.tmps.size Q' Q →
        Code.rounds P x Q' n a w := by
      intro n
      induction n with
      | zero => intro M ρ H w fr a _ _ _ h _; exact h.elim
      | succ n ihn =>
        intro M ρ H w fr a hd hs hf h hp
        rw [rounds_succ]
        refine ih T M ρ H w fr a _ _ hg hd hs hf h ?_
        intro e fr' H' M' ρ' a' w' he hs' hf' hn hk
        cases e with
        | normal => exact ihn M' ρ' H' w' fr' a' (by rw [hn]; exact hd) hs' hf' hk (by rw [hn]; exact hp.ext he)
        | exit id => exact hp (.exit id) _ _ _ _ _ _ he hs' hf' hn hk
        | goto l => exact hp (.goto l) _ _ _ _ _ _ he hs' hf' hn hk
        | ret => exact hp .ret _ _ _ _ _ _ he hs' hf' hn hk
        | panic ch => exact hp (.panic ch) _ _ _ _ _ _ he hs' hf' hn hk
        | outgrown => exact hp .outgrown _ _ _ _ _ _ he hs' hf' hn hk
    exact key n M ρ H w fr a hd hs hf h hp
  | exit id => intro T M ρ H w fr a Q Q' _ _ hs hf h hp; exact wp_exit (hp (.exit id) _ _ _ _ _ _ (.refl ..) hs hf rfl h)
  | label l => intro T M ρ H w fr a Q Q' _ _ hs hf h hp; exact wp_label (hp .normal _ _ _ _ _ _ (.refl ..) hs hf rfl h)
  | goto l => intro T M ρ H w fr a Q Q' _ _ hs hf h hp; exact wp_goto (hp (.goto l) _ _ _ _ _ _ (.refl ..) hs hf rfl h)
  | ret => intro T M ρ H w fr a Q Q' _ _ hs hf h hp; exact wp_ret (hp .ret _ _ _ _ _ _ (.refl ..) hs hf rfl h)
  | rangeFunc => intro T M ρ H w fr a Q Q' _ _ hs hf h hp; exact h.elim
  | scope => intro T M ρ H w fr a Q Q' _ _ hs hf h hp; exact h.elim
  | refuse => intro T M ρ H w fr a Q Q' _ _ hs hf h hp; exact h.elim

/-! functions -/
def initFr (args : List AV) : Fr := fun i => args.getD i skipped

def aResult (P : Program) (fr : Fr) (H : AHeap) : ResultVar → Option AV
  | .tmp t => some (fr t)
  | .cell a t => aLoad P t (fr a) H
def aResults (P : Program) (fn : Func) (fr : Fr) (H : AHeap) : Option AV :=
  match fn.results.toList.mapM (aResult P fr H) with
  | some [v] => some v
  | some vs => some (.tuple vs)
  | none => none

/-- The results of a function whose body ends in a frame. -/
def AEnd (P : Program) (fn : Func) (K : AV → AHeap → Prop) (e : Exit) (fr : Fr) (H : AHeap) : Prop :=
  match e with
  | .normal | .ret => ∃ v, aResults P fn fr H = some v ∧ K v H
  | _ => False

def resOf (tmps : Array Value) : ResultVar → Sem Value
  | .tmp t => pure (tmps.getD t undef)
  | .cell a t => do loadVar t (← asAddr (tmps.getD a undef))
theorem results_eq (fn : Func) (tmps : Array Value) : results fn tmps = (do let vs ← fn.results.mapM (resOf tmps); pure (if h : vs.size = 1 then vs[0] else .tuple vs)) := by
  unfold results
  congr 1

theorem run_results_list {P : Program} {M : Imm} {ρ : Locs} {H : AHeap} {w : World} {fr : Fr} {a : Act} (hs : St M ρ H w) (hf : RelF M ρ fr a) : ∀ (l : List ResultVar) (vs : List AV), l.mapM (aResult P fr H) = some vs →
    ∃ us : List Value, (l.mapM (resOf a.tmps)).run P w = Result.ok us w ∧ RelL M ρ vs us.toArray
  | [], vs, h => by
    simp only [List.mapM_nil] at h ⊢
    cases h
    exact ⟨[], rfl, RelL.nil ..⟩
  | x :: l, vs, h => by
    simp only [List.mapM_cons] at h ⊢
    cases hx : aResult P fr H x with
    | none => simp [hx] at h
    | some v =>
      cases hl : l.mapM (aResult P fr H) with
      | none => simp [hx, hl] at h
      | some vs' =>
        simp [hx, hl] at h; subst h
        obtain ⟨us, h1, h2⟩ := run_results_list hs hf l vs' hl
        have hx' : ∃ u, (resOf a.tmps x).run P w = Result.ok u w ∧ Rel M ρ v u := by
          cases x with
          | tmp t =>
            simp only [aResult, Option.some.injEq] at hx; subst hx
            exact ⟨_, rfl, hf.2 t⟩
          | cell x t =>
            obtain ⟨b, u, e1, e2, e3⟩ := run_loadVar hs hx (hf.2 x)
            exact ⟨u, by simp only [resOf, Sem.run_bind, e1, asAddr, Sem.run_pure, Result.andThen_ok]; exact e2, e3⟩
        obtain ⟨u, e1, e2⟩ := hx'
        refine ⟨u :: us, ?_, ?_⟩
        · rw [Sem.run_bind, e1]
          simp only [Result.andThen_ok, Sem.run_bind]
          rw [h1]; rfl
        · have := (RelL.one e2).append h2
          simpa using this

theorem aResults_run {P : Program} {M : Imm} {ρ : Locs} {H : AHeap} {w : World} {fr : Fr} {a : Act} {fn : Func} {v : AV} (hs : St M ρ H w) (hf : RelF M ρ fr a) (h : aResults P fn fr H = some v) :
    ∃ u, (results fn a.tmps).run P w = .ok u w ∧ Rel M ρ v u := by
  have hrun : ∀ us : List Value, (fn.results.toList.mapM (resOf a.tmps)).run P w = Result.ok us w →
      (results fn a.tmps).run P w = .ok (if h : us.toArray.size = 1 then us.toArray[0] else .tuple us.toArray) w := by
    intro us hus
    rw [results_eq, Sem.run_bind, Array.mapM_eq_mapM_toList, Sem.run_map, hus]
    rfl
  unfold aResults at h
  split at h
  · rename_i x hx
    cases h
    obtain ⟨us, h1, h2⟩ := run_results_list hs hf _ _ hx
    obtain ⟨u, e, hr⟩ := h2.single
    have e' : us = [u] := by simpa using congrArg Array.toList e
    subst e'
    exact ⟨u, by rw [hrun _ h1]; rfl, hr⟩
  · rename_i vs hne hx
    cases h
    obtain ⟨us, h1, h2⟩ := run_results_list hs hf _ _ hx
    refine ⟨.tuple us.toArray, ?_, .tuple _ _ h2.1 h2.2⟩
    rw [hrun _ h1, dif_neg]
    intro hsz
    have := h2.1
    rw [hsz] at this
    obtain ⟨x, rfl⟩ := List.length_eq_one_iff.1 this.symm
    exact hne x rfl
  · cases h

theorem initFr_rel {M : Imm} {ρ : Locs} {args : List AV} {cargs : Array Value} (h : RelL M ρ args cargs) (n : Nat) : RelF M ρ (initFr args) { tmps := cargs ++ Array.replicate n undef, defers := [] } := by
  refine ⟨rfl, fun t => ?_⟩
  simp only [initFr, Array.getD_eq_getD_getElem?, List.getD_eq_getElem?_getD]
  by_cases ht : t < args.length
  · have ht' : t < cargs.size := by rw [h.1]; exact ht
    rw [List.getElem?_eq_getElem ht, Array.getElem?_append_left ht', Array.getElem?_eq_getElem ht']
    exact h.2 t ht ht'
  · rw [List.getElem?_eq_none (by omega), Array.getElem?_append_right (by rw [h.1]; omega), Array.getElem?_replicate]
    split <;> exact rel_skipped ..

theorem ACalls_of_AW {P : Program} {f : FuncId} {fn : Func} {c : Code} {T : FT} {args : List AV} {H : AHeap} {K : AV → AHeap → Prop} (hm : P.follows .mixedOrders = true) (hf : P.funcs[f]? = some fn) (hb : fn.body = some c)
    (hname : (fn.name == "runtime.NumGoroutine") = false) (hlen : args.length ≤ fn.ntmps) (hslots : slotsIn fn.ntmps c = true) (hfl : flagsIn c T = true) (h : AW P c T (initFr args) H (AEnd P fn K)) : ACalls P f args H K := by
  intro M ρ w cargs hs hr
  have hcall : (callFunc f cargs).run P w = .ok (.enter f cargs) w := by
    have hname' : ¬ fn.name = "runtime.NumGoroutine" := by simpa using hname
    simp [callFunc, hf, hname', hb]
  unfold Invokes
  rw [hcall]
  have hsz : cargs.size = args.length := hr.1
  refine calls_of_wp hf hb (AW_sound hm c T M ρ H w (initFr args) _ (AEnd P fn K) _ hfl ?_ hs (initFr_rel hr _) h ?_)
  · simp only [Array.size_append, Array.size_replicate]
    rw [show cargs.size + (fn.ntmps - cargs.size) = fn.ntmps from by omega]; exact hslots
  · intro e fr' H' M' ρ' a' w' he hs' hf' hn hk
    have done : (∃ v, aResults P fn fr' H' = some v ∧ K v H') → a'.defers = [] ∧ ∃ v, (results fn a'.tmps).run P w' = .ok v w' ∧ ∃ u, Ending.returned v = .returned u ∧
        ∃ v M' ρ' H', Ext M ρ w M' ρ' w' ∧ St M' ρ' H' w' ∧ Rel M' ρ' v u ∧ K v H' := by
      rintro ⟨v, h1, h2⟩
      obtain ⟨u, h3, h4⟩ := aResults_run (P := P) hs' hf' h1
      exact ⟨hf'.1, u, h3, u, rfl, v, M', ρ', H', he, hs', h4, h2⟩
    cases e with
    | normal => exact done hk
    | ret => exact done hk
    | exit id => exact hk.elim
    | goto l => exact hk.elim
    | panic ch => exact hk.elim
    | outgrown => exact hk.elim
end Go.Ab
