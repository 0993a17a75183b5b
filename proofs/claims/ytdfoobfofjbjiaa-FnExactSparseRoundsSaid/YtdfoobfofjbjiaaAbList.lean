/- Results that are given up, and lists that grow. -/
import Derived.Test.YtdfoobfofjbjiaaAbLib
set_option linter.unusedSimpArgs false
set_option linter.unusedVariables false
namespace Go.Ab

/-! giving up what is owned -/
/-- A value, after a block is not owned any more: slices of it may be seen as values. -/
inductive Frz (id : Nat) (xs : List AV) : AV → AV → Prop
  | refl (v : AV) : Frz id xs v v
  | slice (off len es : Nat) (ck : Option Nat) (h : off + len * es ≤ xs.length) : Frz id xs (.sliceR id off len es ck) (.sliceI ((xs.drop off).take (len * es)) len none)
  | cap (ys : List AV) (len : Nat) (ck : Option Nat) : Frz id xs (.sliceI ys len ck) (.sliceI ys len none)
  | ptr (off : Nat) : Frz id xs (.ptrR id off) (.ptrI xs off)
  | agg (as bs : List AV) (hl : as.length = bs.length) (h : ∀ j (h1 : j < as.length) (h2 : j < bs.length), Frz id xs as[j] bs[j]) : Frz id xs (.agg as) (.agg bs)
  | tuple (as bs : List AV) (hl : as.length = bs.length) (h : ∀ j (h1 : j < as.length) (h2 : j < bs.length), Frz id xs as[j] bs[j]) : Frz id xs (.tuple as) (.tuple bs)

theorem Frz.rel {M M' : Imm} {ρ : Locs} {id : Nat} {l : Loc} {xs : List AV} {cs : Array Value} {t : TypeId} {fz : Nat × Nat} (hM : Sub M M') (hρ : ρ id = some l) (hc : M' l.block = some (.cells cs t fz))
    (hs : cs.size = l.size) (hl : l.base + xs.length ≤ cs.size) (hr : ∀ j (h1 : j < xs.length) (h2 : l.base + j < cs.size), Rel M' ρ xs[j] cs[l.base + j]) {v v' : AV} (h : Frz id xs v v') : ∀ {c : Value}, Rel M ρ v c → Rel M' ρ v' c := by
  induction h with
  | refl v => intro c h; exact h.mono hM (.refl _)
  | slice off len es ck hb =>
    intro c h
    cases h with
    | sliceR _ _ _ _ cc _ l' a hcc hk hρ' ha hrr hn =>
      rw [hρ] at hρ'; cases hρ'
      by_cases h0 : cc = 0
      · have : len = 0 := by omega
        subst this
        simp only [Nat.zero_mul, List.take_zero]
        exact .sliceN _ _ _ _ hcc (fun n hn => by cases hn)
      · rw [ha.resolve_left h0]
        refine .sliceI _ _ _ _ _ _ _ _ _ hcc (fun n hn => by cases hn) hc (by simp; omega) (fun j h1 h2 => ?_)
        simp only [List.length_take, List.length_drop] at h1
        have := hr (off + j) (by omega) (by omega)
        simp only [List.getElem_take, List.getElem_drop]
        have e : l.base + off + j = l.base + (off + j) := by omega
        simpa only [e] using this
  | cap ys len ck =>
    intro c h
    have h := h.mono hM (.refl ρ)
    cases h with
    | sliceN _ c a _ hc hk => exact .sliceN _ _ _ _ hc (fun n hn => by cases hn)
    | sliceI _ _ c b base _ cs t fz hc hk hM hlen hr => exact .sliceI _ _ _ _ _ _ _ _ _ hc (fun n hn => by cases hn) hM hlen hr
  | ptr off =>
    intro c h
    cases h with
    | ptrR _ _ l' hρ' =>
      rw [hρ] at hρ'; cases hρ'
      exact .ptrI _ _ _ _ _ _ _ hc hl hr
  | agg as bs hl' _ ih =>
    intro c h
    cases h with
    | agg _ ds hsz hh => exact .agg _ _ (hsz.trans hl') (fun j h1 h2 => ih j (by omega) h1 (hh j (by omega) h2))
  | tuple as bs hl' _ ih =>
    intro c h
    cases h with
    | tuple _ ds hsz hh => exact .tuple _ _ (hsz.trans hl') (fun j h1 h2 => ih j (by omega) h1 (hh j (by omega) h2))

/-- A heap after a block is not owned any more. -/
def FrzH (id : Nat) (xs : List AV) (H H' : AHeap) : Prop := ∀ j b', H' j = some b' → j ≠ id ∧ ∃ b, H j = some b ∧
  (b = b' ∨ ∃ ys zs, b = .cells ys ∧ b' = .cells zs ∧ ys.length = zs.length ∧ ∀ i (h1 : i < ys.length) (h2 : i < zs.length), Frz id xs ys[i] zs[i])
theorem FrzH.drop (id : Nat) (xs : List AV) (H : AHeap) : FrzH id xs H (H.set id none) := fun j b' h => by
  by_cases e : j = id
  · subst e; simp at h
  · rw [AHeap.set_ne _ _ e] at h; exact ⟨e, b', h, .inl rfl⟩
theorem FrzH.le {id : Nat} {xs : List AV} {H H' H'' : AHeap} (h : FrzH id xs H H') (hle : AHeap.le H'' H') : FrzH id xs H H'' := fun j b' hj => h j b' (hle j b' hj)
theorem FrzH.low {id : Nat} {xs : List AV} {B H : AHeap} (hB : B id = none) (hle : AHeap.le B H) : FrzH id xs H B := fun j b' hj => 
  ⟨(by intro e; subst e; rw [hB] at hj; cases hj), b', hle j b' hj, .inl rfl⟩

theorem St.frz {M : Imm} {ρ : Locs} {H H' : AHeap} {w : World} (h : St M ρ H w) {id : Nat} {xs : List AV} (hH : H id = some (.cells xs)) (hf : FrzH id xs H H') :
    ∃ M', St M' ρ H' w ∧ Ext M ρ w M' ρ w ∧ ∀ v v' c, Frz id xs v v' → Rel M ρ v c → Rel M' ρ v' c := by
  obtain ⟨l, o, hρ, _, _, _⟩ := h.own id _ hH
  obtain ⟨cs, t, fz, hs, he, hsz, hl, hr⟩ := h.freeze hH hρ
  have hfr : ∀ v v' c, Frz id xs v v' → Rel M ρ v c → Rel (setImm M l.block (.cells cs t fz)) ρ v' c := fun v v' c k hv =>
    k.rel he.imm hρ (setImm_same ..) hsz hl (fun j h1 h2 => (hr j h1 h2).mono he.imm (.refl _)) hv
  have hfr' : ∀ v v' c, Frz id xs v v' → Rel (setImm M l.block (.cells cs t fz)) ρ v c → Rel (setImm M l.block (.cells cs t fz)) ρ v' c := fun v v' c k hv =>
    k.rel (.refl _) hρ (setImm_same ..) hsz hl (fun j h1 h2 => (hr j h1 h2).mono he.imm (.refl _)) hv
  refine ⟨_, ⟨hs.imm, fun i b' hi => ?_, fun i j l1 l2 hi hj => hs.inj i j l1 l2 ?_ ?_, hs.fin⟩, he, hfr⟩
  · obtain ⟨hne, b, hb, hc⟩ := hf i b' hi
    obtain ⟨l2, x, h1, h2, h3, h4⟩ := hs.own i b (by rw [AHeap.set_ne _ _ hne]; exact hb)
    refine ⟨l2, x, h1, h2, h3, ?_⟩
    rcases hc with rfl | ⟨ys, zs, rfl, rfl, hlen, hyz⟩
    · exact h4
    · obtain ⟨ds, t', fz', g1, g2, g3, g4, g5⟩ := h4
      exact ⟨ds, t', fz', g1, g2, g3, by omega, fun j k1 k2 => hfr' _ _ _ (hyz j (by omega) k1) (g5 j (by omega) k2)⟩
  · cases hi' : H' i with
    | none => exact absurd hi' hi
    | some b' => obtain ⟨hne, b, hb, _⟩ := hf i b' hi'; rw [AHeap.set_ne _ _ hne, hb]; simp
  · cases hj' : H' j with
    | none => exact absurd hj' hj
    | some b' => obtain ⟨hne, b, hb, _⟩ := hf j b' hj'; rw [AHeap.set_ne _ _ hne, hb]; simp

/-- The end of a function: what is not needed any more is forgotten, and what is returned is given up. -/
inductive Fin (K : AV → AHeap → Prop) : AV → AHeap → Prop
  | done {v : AV} {H H' : AHeap} (hle : AHeap.le H H') (h : K v H) : Fin K v H'
  | frz {v v' : AV} {H H' : AHeap} {id : Nat} {xs : List AV} (hH : H id = some (.cells xs)) (hf : FrzH id xs H H') (hv : Frz id xs v v') (h : Fin K v' H') : Fin K v H
  | cap {v v' : AV} {H : AHeap} (hv : ∀ id, Frz id [] v v') (h : Fin K v' H) : Fin K v H

theorem Frz.rel0 {M : Imm} {ρ : Locs} {id : Nat} {v v' : AV} (h : Frz id [] v v') : ∀ {c : Value}, (∀ l, ρ id ≠ some l) → Rel M ρ v c → Rel M ρ v' c := by
  induction h with
  | refl v => intro c _ h; exact h
  | slice off len es ck hb =>
    intro c hn h
    cases h with
    | sliceR _ _ _ _ cc _ l' a hcc hk hρ' ha hrr hn' => exact absurd hρ' (hn _)
  | cap ys len ck =>
    intro c _ h
    cases h with
    | sliceN _ c a _ hc hk => exact .sliceN _ _ _ _ hc (fun n hn => by cases hn)
    | sliceI _ _ c b base _ cs t fz hc hk hM hlen hr => exact .sliceI _ _ _ _ _ _ _ _ _ hc (fun n hn => by cases hn) hM hlen hr
  | ptr off =>
    intro c hn h
    cases h with
    | ptrR _ _ l' hρ' => exact absurd hρ' (hn _)
  | agg as bs hl' _ ih =>
    intro c hn h
    cases h with
    | agg _ ds hsz hh => exact .agg _ _ (hsz.trans hl') (fun j h1 h2 => ih j (by omega) h1 hn (hh j (by omega) h2))
  | tuple as bs hl' _ ih =>
    intro c hn h
    cases h with
    | tuple _ ds hsz hh => exact .tuple _ _ (hsz.trans hl') (fun j h1 h2 => ih j (by omega) h1 hn (hh j (by omega) h2))

theorem Fin.out {K : AV → AHeap → Prop} {v : AV} {H : AHeap} (h : Fin K v H) : ∀ {M : Imm} {ρ : Locs} {w : World} {c : Value}, St M ρ H w → Rel M ρ v c → ∃ v' M' H', Ext M ρ w M' ρ w ∧ St M' ρ H' w ∧ Rel M' ρ v' c ∧ K v' H' := by
  induction h with
  | done hle h => intro M ρ w c hs hr; exact ⟨_, M, _, .refl .., hs.drop hle, hr, h⟩
  | frz hH hf hv _ ih =>
    intro M ρ w c hs hr
    obtain ⟨M', h1, h2, h3⟩ := hs.frz hH hf
    obtain ⟨v', M'', H'', h4, h5, h6, h7⟩ := ih h1 (h3 _ _ _ hv hr)
    exact ⟨v', M'', H'', h2.trans h4, h5, h6, h7⟩
  | cap hv _ ih =>
    intro M ρ w c hs hr
    obtain ⟨id, hid, _⟩ := hs.fresh
    exact ih hs ((hv id).rel0 (fun l e => by rw [hid] at e; cases e) hr)

theorem ACalls.fin {P : Program} {f : FuncId} {args : List AV} {H : AHeap} {K : AV → AHeap → Prop} (h : ACalls P f args H (Fin K)) : ACalls P f args H K :=
  fun M ρ w cargs hs hr => (h M ρ w cargs hs hr).mono fun _ _ ⟨_, _, _, _, a, b, c, d⟩ => by
    obtain ⟨v', M'', H'', h4, h5, h6, h7⟩ := d.out b c
    exact ⟨v', M'', _, H'', a.trans h4, h5, h6, h7⟩
theorem fin_in {P : Program} {f : FuncId} {fn : Func} (T : FT) {args : List AV} {H : AHeap} {K : AV → AHeap → Prop} (hm : P.follows .mixedOrders = true) (hf : P.funcs[f]? = some fn)
    (hk : (fn.body.isSome && !(fn.name == "runtime.NumGoroutine") && decide (args.length ≤ fn.ntmps) && slotsIn fn.ntmps (fn.body.getD .skip) && flagsIn (fn.body.getD .skip) T) = true)
    (h : AW P (fn.body.getD .skip) T (initFr args) H (AEndR P fn.results (Fin K))) : ACalls P f args H K := (call_in T hm hf hk h).fin
theorem fin_eq {H H' : AHeap} {v r : AV} (hv : v = r) (h : AHeap.le H H') : Fin (fun v H' => v = r ∧ H' = H) v H' := .done h ⟨hv, rfl⟩

/-! lists that are values -/
/-- A list as a slice that is not written any more. -/
def lst {α : Type} (f : α → AV) (xs : List α) : AV := .sliceI (xs.map f) xs.length none
/-- The same, but without elements it is nil. -/
def lstN {α : Type} (f : α → AV) (xs : List α) : AV := if xs.length = 0 then .nilslice else lst f xs
section
variable {P : Program} {H : AHeap} {α : Type} {f : α → AV} {xs : List α}
theorem Sl.lst (xs : List α) : Sl H f (lst f xs) xs := Sl.imm xs none
theorem Sl.lstN (xs : List α) : Sl H f (lstN f xs) xs := by
  unfold Go.Ab.lstN
  split
  · rename_i h; rw [List.length_eq_zero_iff.1 h]; exact Sl.nil
  · exact Sl.lst xs
@[simp] theorem cells_lst : (lst f xs).cells = some [lst f xs] := rfl
@[simp] theorem one_lst : (lst f xs).one = true := rfl
@[simp] theorem cells_lstN : (lstN f xs).cells = some [lstN f xs] := by unfold lstN; split <;> rfl
@[simp] theorem one_lstN : (lstN f xs).one = true := by unfold lstN; split <;> rfl
@[simp] theorem len_lst {t : TypeId} (ht : isSliceT P t = true) : aLen P #[t] (lst f xs) H = some (.int .i64 (xs.length : Nat)) := (Sl.lst xs).len ht
@[simp] theorem len_lstN {t : TypeId} (ht : isSliceT P t = true) : aLen P #[t] (lstN f xs) H = some (.int .i64 (xs.length : Nat)) := (Sl.lstN xs).len ht
@[simp] theorem elems_lst : elemsOf H 1 (lst f xs) = some (xs.map f, xs.length) := (Sl.lst xs).1
@[simp] theorem elems_lstN : elemsOf H 1 (lstN f xs) = some (xs.map f, xs.length) := (Sl.lstN xs).1
end

/-! lists that grow -/
/-- An empty slice to which may be appended. -/
def emptyS : AV → Bool
  | .nilslice | .sliceI [] 0 (some 0) => true
  | _ => false
theorem emptyS_cases {e : AV} (h : emptyS e = true) : e = .nilslice ∨ e = .sliceI [] 0 (some 0) := by
  unfold emptyS at h
  split at h
  · exact .inl rfl
  · exact .inr rfl
  · cases h

/-- A list that is made by append, over a heap: nothing as yet, or a block of its own. -/
def Grow {α : Type} (B : AHeap) (e : AV) (f : α → AV) (xs : List α) (v : AV) (H : AHeap) : Prop :=
  (xs = [] ∧ v = e ∧ H = B) ∨ (xs ≠ [] ∧ ∃ id, B id = none ∧ v = .sliceR id 0 xs.length 1 none ∧ H = B.set id (some (.cells (xs.map f))))

section
variable {P : Program} {B H : AHeap} {α : Type} {f : α → AV} {xs : List α} {v e : AV}
theorem Grow.start (B : AHeap) (e : AV) (f : α → AV) : Grow B e f [] e B := .inl ⟨rfl, rfl, rfl⟩
theorem Grow.sl (he : emptyS e = true) (h : Grow B e f xs v H) : Sl H f v xs := by
  rcases h with ⟨rfl, rfl, rfl⟩ | ⟨_, id, _, rfl, rfl⟩
  · rcases emptyS_cases he with rfl | rfl
    · exact Sl.nil
    · exact ⟨rfl, rfl⟩
  · exact Sl.own (by simp)
theorem Grow.le (h : Grow B e f xs v H) : B.le H := by
  rcases h with ⟨_, _, rfl⟩ | ⟨_, id, hid, _, rfl⟩
  · exact AHeap.le_refl _
  · exact AHeap.le_set _ (AHeap.le_refl _) hid
theorem Grow.one (he : emptyS e = true) (h : Grow B e f xs v H) : v.cells = some [v] ∧ v.one = true := (h.sl he).cells
theorem AHeap.set_comm (H : AHeap) {i j : Nat} (b c : Option Blk) (h : i ≠ j) : (H.set i b).set j c = (H.set j c).set i b := by
  funext k; simp only [AHeap.set]
  by_cases h1 : k = i <;> by_cases h2 : k = j <;> simp_all
theorem Grow.store (h : Grow B e f xs v H) {j : Nat} {b b' : Blk} (hj : B j = some b) : Grow (B.set j (some b')) e f xs v (H.set j (some b')) := by
  rcases h with ⟨h1, h2, rfl⟩ | ⟨h0, id, hid, h2, rfl⟩
  · exact .inl ⟨h1, h2, rfl⟩
  · have hne : id ≠ j := by rintro rfl; rw [hid] at hj; cases hj
    exact .inr ⟨h0, id, by rw [AHeap.set_ne _ _ hne]; exact hid, h2, AHeap.set_comm _ _ _ hne⟩

/-- Another block below is changed. -/
theorem Grow.swap (h : Grow B e f xs v H) {H' : AHeap} {j : Nat} (hH : H'.set j none = H.set j none) (hj : B j ≠ none) : Grow (B.set j (H' j)) e f xs v H' := by
  have back : H' = (H'.set j none).set j (H' j) := by
    funext i; simp only [AHeap.set]
    by_cases e : i = j
    · subst e; simp
    · simp [e]
  rcases h with ⟨h1, h2, rfl⟩ | ⟨h0, id, hid, h2, rfl⟩
  · exact .inl ⟨h1, h2, by rw [hH, AHeap.set_set] at back; exact back⟩
  · have hne : id ≠ j := by rintro rfl; exact hj hid
    refine .inr ⟨h0, id, by rw [AHeap.set_ne _ _ hne]; exact hid, h2, ?_⟩
    rw [hH, AHeap.set_set] at back
    exact back.trans (AHeap.set_comm _ _ _ hne)

theorem Grow.append (he : emptyS e = true) (h : Grow B e f xs v H) {ats : Array TypeId} {b n : Nat} {x : AV} {ys : List α} (ht : tAppend P ats = some (1, b)) (hx : elemsOf H 1 x = some (ys.map f, n)) (hn : n = ys.length) (h0 : ys ≠ [])
    (h1 : allOne (ys.map f) = true) (hb : (2 * (xs.length + ys.length) + 192) * (b + 1) ≤ 281474976710656) {K : AV → AHeap → Prop} (hK : ∀ v' H', Grow B e f (xs ++ ys) v' H' → K v' H') : aAppend P ats v x H K := by
  subst hn
  have hpos : ys.length ≠ 0 := by simpa using h0
  refine ⟨1, b, _, _, ht, hx, ?_⟩
  rw [if_neg hpos]
  rcases h with ⟨rfl, rfl, rfl⟩ | ⟨hne, id, hid, rfl, rfl⟩
  · rcases emptyS_cases he with rfl | rfl
    · simp at hb
      exact ⟨by omega, fun id hid => hK _ _ (.inr ⟨by simpa using h0, id, hid, by simp, by simp⟩)⟩
    · simp at hb
      refine ⟨by omega, by rw [Nat.zero_add]; omega, rfl, fun id hid => hK _ _ (.inr ⟨by simpa using h0, id, hid, by simp, by simp⟩)⟩
  · refine ⟨xs.map f, by simp, rfl, hb, ?_⟩
    rw [if_neg (by simp; omega)]
    refine ⟨by simp, h1, fun id' hid' => hK _ _ (.inr ⟨by simp [h0], id', ?_, by simp, ?_⟩)⟩
    · by_cases e : id' = id
      · subst e; simp at hid'
      · simpa [AHeap.set_ne _ _ e] using hid'
    · rw [AHeap.set_set, AHeap.set_none _ hid]; simp

/-- What has grown is given up. -/
theorem Grow.fin {A : AHeap} (h : Grow B e f xs v H) (hle : A.le B) {K : AV → AHeap → Prop} {g : AV → AV} (hg : ∀ id ys a b, Frz id ys a b → Frz id ys (g a) (g b)) {e' : AV} (hee : ∀ id, Frz id [] e e')
    (hK : K (g (if xs.length = 0 then e' else lst f xs)) A) : Fin K (g v) H := by
  rcases h with ⟨rfl, rfl, rfl⟩ | ⟨hne, id, hid, rfl, rfl⟩
  · exact .cap (fun id => hg _ _ _ _ (hee id)) (.done hle (by simpa using hK))
  · have hl : xs.length ≠ 0 := by simpa using hne
    rw [if_neg hl] at hK
    have hA : A id = none := by
      cases hA : A id with
      | none => rfl
      | some b => exact absurd (hle _ _ hA) (by rw [hid]; simp)
    refine .frz (AHeap.set_same _ _ _) (FrzH.low hA (AHeap.le_trans hle (AHeap.le_set _ (AHeap.le_refl _) hid))) (hg _ _ _ _ ?_) (.done (AHeap.le_refl _) hK)
    have := Frz.slice (id := id) (xs := xs.map f) 0 xs.length 1 none (by simp)
    simpa [lst, List.take_of_length_le] using this
def FrzL (id : Nat) (xs : List AV) : List AV → List AV → Prop
  | [], [] => True
  | a :: as, b :: bs => Frz id xs a b ∧ FrzL id xs as bs
  | _, _ => False
theorem FrzL.spec {id : Nat} {xs : List AV} : ∀ (as bs : List AV), FrzL id xs as bs → as.length = bs.length ∧ ∀ j (h1 : j < as.length) (h2 : j < bs.length), Frz id xs as[j] bs[j]
  | [], [], _ => ⟨rfl, fun j h1 => (by simp at h1)⟩
  | a :: as, b :: bs, h => by
    obtain ⟨h1, h2⟩ := FrzL.spec as bs h.2
    refine ⟨by simp [h1], fun j h3 h4 => ?_⟩
    cases j with
    | zero => exact h.1
    | succ j => exact h2 j (by simpa using h3) (by simpa using h4)
  | [], _ :: _, h => h.elim
  | _ :: _, [], h => h.elim
theorem Frz.aggL {id : Nat} {xs as bs : List AV} (h : FrzL id xs as bs) : Frz id xs (.agg as) (.agg bs) := .agg _ _ (FrzL.spec _ _ h).1 (FrzL.spec _ _ h).2
theorem Frz.tupleL {id : Nat} {xs as bs : List AV} (h : FrzL id xs as bs) : Frz id xs (.tuple as) (.tuple bs) := .tuple _ _ (FrzL.spec _ _ h).1 (FrzL.spec _ _ h).2
theorem Frz.keep (a : AV) : ∀ id ys (x y : AV), Frz id ys x y → Frz id ys a a := fun id ys _ _ _ => .refl a
theorem frz_empty (id : Nat) : Frz id [] (.sliceI [] 0 (some 0)) (lst f ([] : List α)) := .cap ..
end
end Go.Ab
