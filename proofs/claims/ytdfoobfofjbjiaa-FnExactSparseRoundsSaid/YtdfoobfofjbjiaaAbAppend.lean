/- append and copy on abstract values and heaps, and that the model agrees. -/
import Derived.Test.YtdfoobfofjbjiaaAbMake
set_option linter.unusedSimpArgs false
set_option linter.unusedVariables false
namespace Go.Ab

section ops
variable {P : Program} {M : Imm} {ρ : Locs} {H : AHeap} {w : World}

/-- The cells of the elements of a slice or a string, and how many elements these are. -/
def elemsOf (H : AHeap) (es : Nat) : AV → Option (List AV × Nat)
  | .nilslice => some ([], 0)
  | .sliceI xs len _ => if xs.length = len * es then some (xs, len) else none
  | .sliceR id off len es' _ => match H id with
    | some (.cells ys) => if es' = es ∧ off + len * es ≤ ys.length then some ((ys.drop off).take (len * es), len) else none
    | _ => none
  | .string s => if es = 1 then some (s.map fun b => .int .u8 b.toNat, s.length) else none
  | _ => none

theorem elemsOf_run (hs : St M ρ H w) {x : AV} {x' : Value} {es n : Nat} {xs : List AV} (hx : Rel M ρ x x') (h : elemsOf H es x = some (xs, n)) :
    (Builtin.lenOf x').run P w = .ok n w ∧ xs.length = n * es ∧ ∃ cs, (∀ w' : World, w'.heap = w.heap → (Builtin.firstCells es n x').run P w' = .ok cs w') ∧ RelL M ρ xs cs := by
  unfold elemsOf at h
  split at h
  · cases h; cases hx
    exact ⟨rfl, by simp, #[], fun _ _ => rfl, .nil ..⟩
  · split at h
    · rename_i ys m _ hl
      obtain ⟨e1, e2⟩ : ys = xs ∧ m = n := by simpa using h
      subst e1 e2
      cases hx with
      | sliceN _ c a _ hc hk =>
        refine ⟨rfl, hl, #[], fun w' _ => ?_, .nil ..⟩
        have : m * es = 0 := by simpa using hl.symm
        simp [Builtin.firstCells, this, loadCells, loadCellsFrom]
      | sliceI _ _ c b base _ cs t fz hc hk hM hlen hr =>
        obtain ⟨ds, h1, h2⟩ := loadCells_spec (P := P) (M := M) (ρ := ρ) (w := w) (b := b) (base := base) (off := 0) (n := m * es) (xs := ys) (fun j x hj => by
          obtain ⟨hlt, rfl⟩ := List.getElem?_eq_some_iff.1 hj
          have hj2 : base + j < cs.size := by omega
          exact ⟨cs[base + j], by rw [cell_of_heap (hs.imm _ _ hM)]; exact Array.getElem?_eq_getElem hj2, hr j hlt hj2⟩) (by omega)
        refine ⟨rfl, hl, ds, fun w' hw' => by simpa [Builtin.firstCells] using h1 w' hw', ?_⟩
        rw [← hl] at h2
        simpa using h2
    · cases h
  · split at h
    · rename_i id off len es' _ _ ys hid
      split at h
      · rename_i hh
        obtain ⟨e, hb⟩ := hh; subst e
        obtain ⟨e1, e2⟩ : (ys.drop off).take (len * es') = xs ∧ len = n := by simpa using h
        subst e1 e2
        cases hx with
        | sliceR _ _ _ _ c _ l a hc hk hρ ha hr hn =>
          obtain ⟨l', o, h1, h2, h3, h4⟩ := hs.own _ _ hid
          rw [hρ] at h1; cases h1
          obtain ⟨cs, t, fz, rfl, _, hsz, hl, hrr⟩ := h4
          refine ⟨rfl, by simp; omega, ?_⟩
          by_cases hc0 : c = 0
          · have : len = 0 := by omega
            subst this
            exact ⟨#[], fun w' _ => by simp [Builtin.firstCells, loadCells, loadCellsFrom], by simpa using RelL.nil M ρ⟩
          · rw [ha.resolve_left hc0]
            obtain ⟨ds, g1, g2⟩ := loadCells_spec (P := P) (M := M) (ρ := ρ) (w := w) (b := l.block) (base := l.base) (off := off) (n := len * es') (xs := ys) (fun j x hj => by
              obtain ⟨hlt, rfl⟩ := List.getElem?_eq_some_iff.1 hj
              have hj2 : l.base + j < cs.size := by omega
              exact ⟨cs[l.base + j], by rw [cell_of_heap h3]; exact Array.getElem?_eq_getElem hj2, hrr j hlt hj2⟩) hb
            exact ⟨ds, fun w' hw' => by simpa [Builtin.firstCells] using g1 w' hw', g2⟩
      · cases h
    · cases h
  · split at h
    · rename_i s e; cases h; subst e
      have := hx.string_inv; subst this
      have hsz : (⟨s.toArray⟩ : ByteArray).size = s.length := by simp [ByteArray.size]
      refine ⟨by simp [Builtin.lenOf, hsz], by simp, (s.map fun b => Value.int .u8 b.toNat).toArray, fun w' _ => ?_, by simp, fun j h1 h2 => ?_⟩
      · simp only [Builtin.firstCells, Sem.run_pure]
        rw [extract_toArray s 0 s.length (by omega) (Nat.le_refl _)]
        simp
      · simp only [List.getElem_map, List.getElem_toArray]
        exact .int _ _
    · cases h
  · cases h

/-- Cells of a row that nothing else reads are written, one after another. -/
theorem storeCells_row {b o : Nat} {t : TypeId} {fz : Nat × Nat} (ws : List Value) : ∀ (i : Nat) (w : World) (cs : Array Value), w.heap[b]? = some (.cells cs t fz) → o + i + ws.length ≤ cs.size →
    (fz.2 = 0 ∨ cs.size ≤ fz.1) → (∀ v ∈ ws, v.oneCell' = true) →
    ∃ cs' w', (storeCells ⟨b, o, none⟩ ws i).run P w = .ok () w' ∧ w'.heap = w.heap.setIfInBounds b (.cells cs' t fz) ∧ w'.os = w.os ∧ w'.tape = w.tape ∧ w'.output = w.output ∧ cs'.size = cs.size ∧
      (∀ j, j < o + i ∨ o + i + ws.length ≤ j → cs'[j]? = cs[j]?) ∧ (∀ j, j < ws.length → cs'[o + i + j]? = ws[j]?) := by
  induction ws with
  | nil =>
    intro i w cs hw _ _ _
    refine ⟨cs, w, by simp [storeCells], ?_, rfl, rfl, rfl, rfl, fun _ _ => rfl, fun j h => by simp at h⟩
    apply Array.ext_getElem?
    intro k
    rw [Array.getElem?_setIfInBounds]
    split
    · rename_i e; subst e
      rw [if_pos (Array.getElem?_eq_some_iff.1 hw).1, hw]
    · rfl
  | cons v ws ih =>
    intro i w cs hw hb hfz hone
    simp only [List.length_cons] at hb
    have hin : o + i < cs.size := by omega
    have hblt := (Array.getElem?_eq_some_iff.1 hw).1
    have hcell : w.cell? ⟨b, o + i, none⟩ = some cs[o + i] := by rw [cell_of_heap hw]; exact Array.getElem?_eq_getElem hin
    have hfroz : w.frozen? ⟨b, o + i, none⟩ = false := by
      simp only [World.frozen?, hw]
      rcases hfz with hfz | hfz <;> simp <;> omega
    have hst : (store (Addr.add ⟨b, o, none⟩ i) v).run P w = .ok () (w.setCell ⟨b, o + i, none⟩ v) := by
      rw [Addr.add_none, run_store P w _ v _ (hone v (by simp)), hcell]
      simp [hfroz]
    have hheap : (w.setCell ⟨b, o + i, none⟩ v).heap = w.heap.setIfInBounds b (.cells (cs.setIfInBounds (o + i) v) t fz) := by
      apply Array.ext_getElem?
      intro k
      simp only [World.setCell, Array.getElem?_modify, Array.getElem?_setIfInBounds]
      by_cases e : b = k
      · subst e
        rw [if_pos rfl, if_pos rfl, if_pos hblt, hw]; rfl
      · simp [e]
    have hw' : (w.setCell ⟨b, o + i, none⟩ v).heap[b]? = some (.cells (cs.setIfInBounds (o + i) v) t fz) := by
      rw [hheap]; exact Array.getElem?_setIfInBounds_self_of_lt hblt
    obtain ⟨cs', w', h1, h2, h3, h4, h5, h6, h7, h8⟩ := ih (i + 1) _ _ hw' (by simp; omega) (by simpa using hfz) (fun u hu => hone u (by simp [hu]))
    refine ⟨cs', w', by simp only [storeCells, Sem.run_bind, hst, Result.andThen_ok]; exact h1, ?_, h3, h4, h5, by rw [h6]; simp, fun j hj => ?_, fun j hj => ?_⟩
    · rw [h2, hheap]
      apply Array.ext_getElem?
      intro k
      simp only [Array.getElem?_setIfInBounds]
      by_cases e : b = k
      · subst e; simp
      · simp [e]
    · simp only [List.length_cons] at hj
      rw [h7 j (by omega), Array.getElem?_setIfInBounds_ne (by omega)]
    · cases j with
      | zero =>
        rw [h7 (o + i + 0) (by omega)]
        simp only [Nat.add_zero, List.getElem?_cons_zero]
        exact Array.getElem?_setIfInBounds_self_of_lt hin
      | succ j =>
        simp only [List.length_cons] at hj
        have := h8 j (by omega)
        rw [show o + i + (j + 1) = o + (i + 1) + j from by omega, this]
        simp

theorem RelL.oneCells {xs : List AV} {cs : Array Value} (h : RelL M ρ xs cs) (ho : allOne xs = true) : ∀ v ∈ cs.toList, v.oneCell' = true := by
  intro v hv
  obtain ⟨j, hj, rfl⟩ := List.getElem_of_mem hv
  have h1 : j < xs.length := by rw [← h.1]; simpa using hj
  have := h.2 j h1 (by simpa using hj)
  simp only [Array.getElem_toList]
  exact this.oneCell (by
    have := List.all_eq_true.1 ho xs[j] (List.getElem_mem h1)
    exact this)

/-- An owned block is handed on under another id. -/
theorem St.move (h : St M ρ H w) {id id' : Nat} {l : Loc} {blk blk' : Blk} (hH : H id = some blk) (hρ : ρ id = some l) (hH' : H id' = none) (hρ' : ρ id' = none) (o : Obj) (base : Nat)
    (hb : BlkOK M ρ ⟨l.block, base, l.size⟩ blk' o) {w' : World} (hw : w'.heap = w.heap.setIfInBounds l.block o) (h1 : w'.os = w.os) (h2 : w'.tape = w.tape) (h3 : w'.output = w.output) :
    St M (setLoc ρ id' ⟨l.block, base, l.size⟩) ((H.set id none).set id' (some blk')) w' ∧ Ext M ρ w M (setLoc ρ id' ⟨l.block, base, l.size⟩) w' := by
  have hlt := h.lt hH hρ
  have hM : M l.block = none := by obtain ⟨l', _, a, b, _⟩ := h.own id blk hH; rw [hρ] at a; cases a; exact b
  have hsub : Sub ρ (setLoc ρ id' ⟨l.block, base, l.size⟩) := Sub.setLoc _ hρ'
  have hne : id' ≠ id := by intro e; subst e; rw [hH] at hH'; cases hH'
  have old : ∀ i, ((H.set id none).set id' (some blk')) i ≠ none → i ≠ id' → i ≠ id ∧ H i ≠ none := by
    intro i hi hn
    rw [AHeap.set_ne _ _ hn] at hi
    by_cases e : i = id
    · subst e; rw [AHeap.set_same] at hi; exact absurd rfl hi
    · exact ⟨e, by rwa [AHeap.set_ne _ _ e] at hi⟩
  refine ⟨⟨fun b x hx => ?_, fun i b hi => ?_, fun i j l1 l2 hi hj g1 g2 e => ?_, setLoc_fin h.fin⟩, ⟨.refl _, hsub, h1, h2, h3, by rw [hw]; simp⟩⟩
  · rw [hw, Array.getElem?_setIfInBounds_ne (by intro e; rw [← e, hM] at hx; cases hx)]; exact h.imm _ _ hx
  · by_cases e : i = id'
    · subst e
      rw [AHeap.set_same] at hi; cases hi
      exact ⟨_, o, setLoc_same .., hM, by rw [hw, Array.getElem?_setIfInBounds_self_of_lt hlt], hb.mono (.refl _) hsub⟩
    · obtain ⟨e2, _⟩ := old i (by rw [hi]; simp) e
      rw [AHeap.set_ne _ _ e, AHeap.set_ne _ _ e2] at hi
      obtain ⟨l', x, a, b', c, d⟩ := h.own i b hi
      refine ⟨l', x, hsub _ _ a, b', ?_, d.mono (.refl _) hsub⟩
      rw [hw, Array.getElem?_setIfInBounds_ne ?_]; exact c
      intro e'
      exact e2 (h.inj i id l' l (by rw [hi]; simp) (by rw [hH]; simp) a hρ e'.symm)
  · by_cases a1 : i = id' <;> by_cases a2 : j = id'
    · rw [a1, a2]
    · subst a1
      rw [setLoc_same] at g1; cases g1
      obtain ⟨b1, b2⟩ := old j hj a2
      simp only [setLoc, if_neg a2] at g2
      exact absurd (h.inj j id l2 l b2 (by rw [hH]; simp) g2 hρ e.symm) b1
    · subst a2
      rw [setLoc_same] at g2; cases g2
      obtain ⟨b1, b2⟩ := old i hi a1
      simp only [setLoc, if_neg a1] at g1
      exact absurd (h.inj i id l1 l b2 (by rw [hH]; simp) g1 hρ e) b1
    · simp only [setLoc, if_neg a1] at g1
      simp only [setLoc, if_neg a2] at g2
      exact h.inj i j l1 l2 (old i hi a1).2 (old j hj a2).2 g1 g2 e

def tAppend (P : Program) (ats : Array TypeId) : Option (Nat × Nat) :=
  match ats[0]?, ats[1]? with
  | some t, some u => match tElem P t with
    | some e => match tSize P e, tBytes P e, zeroCells P e with
      | some (n + 1), some b, some zs => if zs.length = n + 1 then (match P.underlying u with
        | some (.int _) | none => none
        | some _ => some (n + 1, b)) else none
      | _, _, _ => none
    | none => none
  | _, _ => none

def aAppend (P : Program) (ats : Array TypeId) (s x : AV) (H : AHeap) (K : AV → AHeap → Prop) : Prop :=
  ∃ es b ys n, tAppend P ats = some (es, b) ∧ elemsOf H es x = some (ys, n) ∧
    if n = 0 then (isNilSlice s).isSome = true ∧ K s H else
    match s with
    | .nilslice => (2 * n + 192) * (b + 1) ≤ 281474976710656 ∧ ∀ id, H id = none → K (.sliceR id 0 n es none) (H.set id (some (.cells ys)))
    | .sliceI xs len (some c) => c < len + n ∧ (2 * (len + n) + 192) * (b + 1) ≤ 281474976710656 ∧ xs.length = len * es ∧
        ∀ id, H id = none → K (.sliceR id 0 (len + n) es none) (H.set id (some (.cells (xs ++ ys))))
    | .sliceR id off len es' ck => ∃ xs, H id = some (.cells xs) ∧ es' = es ∧ (2 * (len + n) + 192) * (b + 1) ≤ 281474976710656 ∧
        match ck with
        | some c =>
          if len + n ≤ c then off + (len + n) * es ≤ xs.length ∧ allOne ys = true ∧ K (.sliceR id off (len + n) es ck) (H.set id (some (.cells (putAt xs (off + len * es) ys))))
          else off + len * es ≤ xs.length ∧ ∀ id', H id' = none → K (.sliceR id' 0 (len + n) es none) (H.set id' (some (.cells ((xs.drop off).take (len * es) ++ ys))))
        | none =>
          if off + (len + n) * es ≤ xs.length then allOne ys = true ∧ K (.sliceR id off (len + n) es none) (H.set id (some (.cells (putAt xs (off + len * es) ys))))
          else off + len * es = xs.length ∧ allOne ys = true ∧
            ∀ id', H id' = none → K (.sliceR id' 0 (len + n) es none) ((H.set id none).set id' (some (.cells (xs.drop off ++ ys))))
    | _ => False

theorem growBy_le (need : Nat) : ∀ (r c : Nat), c ≤ 2 * need + 192 → Builtin.growBy need r c ≤ 2 * need + 192
  | 0, c, h => h
  | r + 1, c, h => by
    unfold Builtin.growBy
    split
    · exact h
    · exact growBy_le need r _ (by omega)
theorem nextslicecap_le (need c : Nat) (h : c < need) : Builtin.nextslicecap need c ≤ 2 * need + 192 := by
  unfold Builtin.nextslicecap
  split
  · omega
  · split
    · omega
    · exact growBy_le need 4 c (by omega)

theorem tAppend_spec {ats : Array TypeId} {es b : Nat} (h : tAppend P ats = some (es, b)) :
    ∃ t u e zs d, ats[0]? = some t ∧ ats[1]? = some u ∧ P.underlying t = some (.slice e) ∧ tSize P e = some es ∧ tBytes P e = some b ∧ zeroCells P e = some zs ∧ zs.length = es ∧ P.underlying u = some d ∧
      (∀ k, d ≠ .int k) ∧ es ≠ 0 := by
  unfold tAppend at h
  split at h
  case h_2 => cases h
  rename_i t u h0 h1
  split at h
  case h_2 => cases h
  rename_i e he
  split at h
  case h_2 => cases h
  rename_i n b' zs hn hb hz
  split at h
  case isFalse => cases h
  rename_i hl
  split at h
  · cases h
  · cases h
  · rename_i d hd hu; cases h
    exact ⟨t, u, e, zs, d, h0, h1, tElem_spec he, hn, hb, hz, hl, hu, fun k e => hd k e, by omega⟩

/-- What append does, step by step: in place, or in a new row. -/
theorem append_run {ats : Array TypeId} {ty : TypeId} {es b : Nat} {base : Option Addr} {sLen sCap n : Nat} {x' : Value} {new : Array Value} (h : tAppend P ats = some (es, b))
    (hx : (Builtin.lenOf x').run P w = .ok n w) (hn : ∀ w' : World, w'.heap = w.heap → (Builtin.firstCells es n x').run P w' = .ok new w') :
    (sLen + n ≤ sCap → (Builtin.append_ ats ty #[.slice base sLen sCap, x']).run P w = (match base with
      | some a => (storeCells (a.add (sLen * es)) new.toList).run P w
      | none => .ok () w).andThen fun _ w' => .ok (.slice base (sLen + n) sCap) w') ∧
    (∀ old, (∀ w' : World, w'.heap = w.heap → (Builtin.firstCells es sLen (.slice base sLen sCap)).run P w' = .ok old w') → ¬ sLen + n ≤ sCap → (2 * (sLen + n) + 192) * (b + 1) ≤ 281474976710656 → ∃ e k cap rest, sLen + n ≤ cap ∧ rest.size = (cap - (sLen + n)) * es ∧ (Builtin.append_ ats ty #[.slice base sLen sCap, x']).run P w =
      .ok (.slice (some ⟨w.heap.size, 0, none⟩) (sLen + n) cap) (({ w with drawn := k }).alloc (.cells (old ++ new ++ rest) e))) := by
  obtain ⟨t, u, e, zs, d, h0, h1, ht, hsz, hby, hz, hzl, hu, hd, hes⟩ := tAppend_spec h
  obtain ⟨z, hz1, hz2⟩ := zeroCells_spec (M := fun _ => none) (ρ := fun _ => none) hz
  have hm : (match d with | .int _ => true | _ => false) = false := by cases d <;> first | rfl | (exact absurd rfl (hd _))
  constructor
  · intro hle
    simp [Builtin.append_, h0, h1, run_underlying ht, run_sizeOf hsz, run_underlying hu, hx, hle, hn]
    cases base <;> simp
  · intro old ho hle hb
    obtain ⟨i, hi, hib⟩ := run_typeInfo hby
    have hneed : ¬ (9223372036854775807 < ((sLen : Int) + n)) := by
      have : (2 * (sLen + n) + 192) * 1 ≤ (2 * (sLen + n) + 192) * (b + 1) := Nat.mul_le_mul_left _ (by omega)
      omega
    have hcap : ¬ Builtin.nextslicecap (sLen + n) sCap * i.bytes > 281474976710656 := by
      have h1 := nextslicecap_le (sLen + n) sCap (by omega)
      have h2 : Builtin.nextslicecap (sLen + n) sCap * i.bytes ≤ (2 * (sLen + n) + 192) * i.bytes := Nat.mul_le_mul_right _ h1
      have h3 : (2 * (sLen + n) + 192) * b ≤ (2 * (sLen + n) + 192) * (b + 1) := Nat.mul_le_mul_left _ (by omega)
      rw [hib] at h2 ⊢; omega
    have hcap' : ¬ 281474976710656 < Builtin.nextslicecap (sLen + n) sCap * i.bytes := hcap
    have e1 := hn w.drew rfl
    have e2 := ho w.drew rfl
    refine ⟨e, w.drawn + 1, sLen + n + w.tape w.drawn (.appendCap (sLen + n) sCap e) % (2 ^ 63 - (sLen + n)),
      Builtin.zeroCells z.cells (w.tape w.drawn (.appendCap (sLen + n) sCap e) % (2 ^ 63 - (sLen + n))), by omega, ?_, ?_⟩
    · have : z.cells.size = es := by rw [hz2.1, hzl]
      simp [Builtin.zeroCells, this]
    · simp [Builtin.append_, h0, h1, run_underlying ht, run_sizeOf hsz, run_underlying hu, hx, hle, hi, hcap', hneed, Question.forced, Question.cut, e1, e2, run_zeroValue hz1, newRow]

theorem St.heap {w' : World} (h : St M ρ H w) (hw : w'.heap = w.heap) : St M ρ H w' :=
  ⟨fun b o hb => by rw [hw]; exact h.imm b o hb, fun id blk hb => by rw [hw]; exact h.own id blk hb, h.inj, h.fin⟩

theorem RelL.blk_prefix {xs : List AV} {cs rest : Array Value} {b : Nat} {t : TypeId} (h : RelL M ρ xs cs) : BlkOK M ρ ⟨b, 0, (cs ++ rest).size⟩ (.cells xs) (.cells (cs ++ rest) t) := by
  refine ⟨_, t, (0, 0), rfl, .inl rfl, rfl, by simp [h.1], fun j h1 h2 => ?_⟩
  have hj : j < cs.size := by rw [h.1]; exact h1
  have := h.2 j h1 hj
  simp only [Nat.zero_add]
  rw [Array.getElem_append_left hj]; exact this

/-- A new row behind an append: what was there and what was added. -/
theorem grown_does (hs : St M ρ H w) {xs : List AV} {cs rest : Array Value} (h : RelL M ρ xs cs) (e : TypeId) (k need es cap : Nat) (hx : xs.length = need * es) (hc : need ≤ cap) (hr : rest.size = (cap - need) * es) {H₀ : AHeap} (hle : H₀.le H) {id : Nat}
    (hρ : ρ id = none) (hH : H id = none) {s : Sem Value} (hrun : s.run P w = .ok (.slice (some ⟨w.heap.size, 0, none⟩) need cap) (({ w with drawn := k }).alloc (.cells (cs ++ rest) e))) :
    Does P M ρ w s (.sliceR id 0 need es none) (H₀.set id (some (.cells xs))) := by
  have hs' : St M ρ H₀ { w with drawn := k } := (hs.drop hle).drew k
  have hH0 : H₀ id = none := by
    cases e : H₀ id with
    | none => rfl
    | some b => rw [hle _ _ e] at hH; cases hH
  obtain ⟨h1, h2⟩ := hs'.alloc hρ hH0 (.cells (cs ++ rest) e) (.cells xs) _ h.blk_prefix
  have hsz : need * es + (cap - need) * es = cap * es := by rw [← Nat.add_mul]; congr 1; omega
  have hcs := h.1
  refine ⟨_, _, M, _, hrun, (Ext.drew k).trans h2, h1, .sliceR id 0 need es cap none _ _ hc (fun n hn => by cases hn) (setLoc_same ..) (.inr rfl) ?_ (fun _ => ?_)⟩
  · simp; omega
  · simp; omega

theorem aAppend_does {ats : Array TypeId} {ty : TypeId} {s x : AV} {s' x' : Value} {K : AV → AHeap → Prop} (hs : St M ρ H w) (h : aAppend P ats s x H K) (hsr : Rel M ρ s s') (hxr : Rel M ρ x x') :
    ∃ v H', K v H' ∧ Does P M ρ w (Builtin.append_ ats ty #[s', x']) v H' := by
  obtain ⟨es, b, ys, n, ht, hel, h⟩ := h
  obtain ⟨hlen, hyl, new, hnew, hrel⟩ := elemsOf_run (P := P) hs hxr hel
  obtain ⟨_, _, _, _, _, _, _, _, _, _, _, _, _, _, hes⟩ := tAppend_spec ht
  obtain ⟨id, hidρ, hidH⟩ := hs.fresh
  split at h
  · rename_i hn0
    subst hn0
    obtain ⟨hsl, hk⟩ := h
    have hyl' : ys = [] := List.eq_nil_of_length_eq_zero (by rw [hyl]; simp)
    subst hyl'
    have hne : new = #[] := Array.eq_empty_of_size_eq_zero (by rw [hrel.1]; rfl)
    subst hne
    have key : ∀ base sLen sCap, sLen ≤ sCap → (Builtin.append_ ats ty #[.slice base sLen sCap, x']).run P w = .ok (.slice base sLen sCap) w := by
      intro base sLen sCap hle
      obtain ⟨t, u, e, zs, d, h0, h1, hu0, hsz, hby, hz, hzl, hu, hd, _⟩ := tAppend_spec ht
      have hnew' := hnew w rfl
      simp [Builtin.append_, h0, h1, run_underlying hu0, run_sizeOf hsz, run_underlying hu, hlen, hle, hnew']
      cases base <;> simp [storeCells]
    have hs' : ∃ base sLen sCap, s' = .slice base sLen sCap ∧ sLen ≤ sCap := by
      cases hsr <;> simp [isNilSlice] at hsl <;> exact ⟨_, _, _, rfl, by first | assumption | exact Nat.le_refl _⟩
    obtain ⟨base, sLen, sCap, rfl, hle⟩ := hs'
    exact ⟨_, _, hk, _, w, M, ρ, key _ _ _ hle, .refl .., hs, hsr⟩
  · rename_i hn0
    split at h
    · cases hsr
      obtain ⟨hb, hk⟩ := h
      obtain ⟨_, h2⟩ := append_run (ty := ty) (base := none) (sLen := 0) (sCap := 0) ht hlen hnew
      obtain ⟨e, k, cap, rest, g1, g2, g3⟩ := h2 #[] (fun _ _ => rfl) (by omega) (by simpa using hb)
      refine ⟨_, _, hk id hidH, grown_does hs hrel e k n es cap hyl (by omega) (by simpa using g2) (AHeap.le_refl _) hidρ hidH ?_⟩
      rw [g3]; simp
    · rename_i xs len c
      obtain ⟨hc, hb, hxl, hk⟩ := h
      obtain ⟨_, _, old, hold, hrelo⟩ := elemsOf_run (P := P) (es := es) (n := len) (xs := xs) hs hsr (by simp [elemsOf, hxl])
      cases hsr with
      | sliceN _ c' a _ hc' hk' =>
        obtain ⟨_, h2⟩ := append_run (ty := ty) ht hlen hnew
        have hcc := hk' c rfl
        obtain ⟨e, k, cap, rest, g1, g2, g3⟩ := h2 old hold (by omega) hb
        exact ⟨_, _, hk id hidH, grown_does hs (hrelo.append hrel) e k (len + n) es cap (by simp [hyl, Nat.add_mul]; simpa using hxl.symm) g1 g2 (AHeap.le_refl _) hidρ hidH g3⟩
      | sliceI _ _ c' b' base _ cs t fz hc' hk' hM hl hr =>
        obtain ⟨_, h2⟩ := append_run (ty := ty) ht hlen hnew
        have hcc := hk' c rfl
        obtain ⟨e, k, cap, rest, g1, g2, g3⟩ := h2 old hold (by omega) hb
        exact ⟨_, _, hk id hidH, grown_does hs (hrelo.append hrel) e k (len + n) es cap (by simp [hyl, Nat.add_mul, hxl]) g1 g2 (AHeap.le_refl _) hidρ hidH g3⟩
    · rename_i id₀ off len es' ck
      obtain ⟨xs, hid, he, hb, h⟩ := h
      subst he
      cases hsr with
      | sliceR _ _ _ _ c _ l a hc hk hρ ha hr hn =>
        obtain ⟨l', o, h1, h2, h3, h4⟩ := hs.own _ _ hid
        rw [hρ] at h1; cases h1
        obtain ⟨cs, t, fz, rfl, hfz, hsz, hxl, hxr⟩ := h4
        have inplace : len + n ≤ c → off + (len + n) * es' ≤ xs.length → allOne ys = true → (∀ m, ck = some m → c = m) →
            Does P M ρ w (Builtin.append_ ats ty #[.slice (some a) len c, x']) (.sliceR id₀ off (len + n) es' ck) (H.set id₀ (some (.cells (putAt xs (off + len * es') ys)))) := by
          intro hle hle2 hone hck
          have hc0 : c ≠ 0 := by omega
          have ha' := ha.resolve_left hc0
          subst ha'
          have hmul : (len + n) * es' = len * es' + n * es' := Nat.add_mul ..
          obtain ⟨w', g1, g2, g3⟩ := storeCells_spec (P := P) ys new.toList xs 0 H w l (off + len * es') hs hid hρ (by omega) (by simp [hrel.1]) hone (fun j x v hx hv => by
            obtain ⟨u, hu, hru⟩ := hrel.get hx
            simp at hv; rw [hv] at hu; cases hu; exact hru)
          obtain ⟨q1, _⟩ := append_run (ty := ty) (base := some ⟨l.block, l.base + off, none⟩) (sLen := len) (sCap := c) ht hlen hnew
          refine ⟨_, w', M, ρ, ?_, g2, by simpa using g3, .sliceR id₀ off (len + n) es' c ck l _ hle hck hρ (.inr rfl) hr hn⟩
          rw [q1 hle]
          simp only [Addr.add_none, Nat.add_assoc]
          rw [g1]; rfl
        have fresh : ¬ len + n ≤ c → off + len * es' ≤ xs.length → ∀ H₀ : AHeap, H₀.le H →
            Does P M ρ w (Builtin.append_ ats ty #[.slice (some a) len c, x']) (.sliceR id 0 (len + n) es' none) (H₀.set id (some (.cells ((xs.drop off).take (len * es') ++ ys)))) := by
          intro hgt hle2 H₀ hH0
          obtain ⟨_, _, old, hold, hrelo⟩ := elemsOf_run (P := P) (es := es') (n := len) (xs := (xs.drop off).take (len * es')) hs (.sliceR id₀ off len es' c ck l a hc hk hρ ha hr hn) (by simp [elemsOf, hid, hle2])
          obtain ⟨_, q2⟩ := append_run (ty := ty) ht hlen hnew
          obtain ⟨e, k, cap, rest, g1, g2, g3⟩ := q2 old hold hgt hb
          exact grown_does hs (hrelo.append hrel) e k (len + n) es' cap (by simp [hyl, Nat.add_mul]; omega) g1 g2 hH0 hidρ hidH g3
        cases ck with
        | some c₀ =>
          have hcc := hk c₀ rfl
          subst hcc
          simp only at h
          split at h
          · rename_i hle
            exact ⟨_, _, h.2.2, inplace hle h.1 h.2.1 (fun m hm => by cases hm; rfl)⟩
          · rename_i hgt
            exact ⟨_, _, h.2 id hidH, fresh hgt h.1 H (AHeap.le_refl _)⟩
        | none =>
          have hn' := hn rfl
          simp only at h
          split at h
          · rename_i hle
            have hle' : len + n ≤ c := by
              have : (len + n) * es' ≤ c * es' := by omega
              exact Nat.le_of_mul_le_mul_right this (by omega)
            exact ⟨_, _, h.2, inplace hle' hle h.1 (fun m hm => by cases hm)⟩
          · rename_i hgt
            obtain ⟨hend, hone, hkk⟩ := h
            refine ⟨_, _, hkk id hidH, ?_⟩
            have hdrop : (xs.drop off).take (len * es') = xs.drop off := List.take_of_length_le (by simp; omega)
            by_cases hle : len + n ≤ c
            · have hc0 : c ≠ 0 := by omega
              have ha' := ha.resolve_left hc0
              subst ha'
              have hmul : (len + n) * es' = len * es' + n * es' := Nat.add_mul ..
              have hmul2 : (len + n) * es' ≤ c * es' := Nat.mul_le_mul_right _ hle
              have hsn : new.toList.length = n * es' := by simp [hrel.1, hyl]
              obtain ⟨cs', w', g1, g2, g3, g4, g5, g6, g7, g8⟩ := storeCells_row (P := P) (b := l.block) (o := l.base + off + len * es') new.toList 0 w cs h3 (by omega) hfz (hrel.oneCells hone)
              obtain ⟨q1, _⟩ := append_run (ty := ty) (base := some ⟨l.block, l.base + off, none⟩) (sLen := len) (sCap := c) ht hlen hnew
              have hblk : BlkOK M ρ ⟨l.block, l.base + off, l.size⟩ (.cells (xs.drop off ++ ys)) (.cells cs' t fz) := by
                refine ⟨cs', t, fz, rfl, by rw [g6]; exact hfz, by rw [g6]; exact hsz, by simp [hyl]; omega, fun j j1 j2 => ?_⟩
                simp at j1
                by_cases hj : j < xs.length - off
                · rw [List.getElem_append_left (by simpa using hj), List.getElem_drop]
                  have e1 := g7 (l.base + off + j) (.inl (by omega))
                  have j3 : l.base + (off + j) < cs.size := by omega
                  have j2' : l.base + off + j < cs'.size := j2
                  have e3 : cs[l.base + off + j]? = some cs[l.base + (off + j)] := by rw [Nat.add_assoc]; exact Array.getElem?_eq_getElem j3
                  have e2 : cs'[l.base + off + j] = cs[l.base + (off + j)] := Option.some.inj ((Array.getElem?_eq_getElem j2').symm.trans (e1.trans e3))
                  show Rel M ρ _ cs'[l.base + off + j]
                  rw [e2]
                  exact hxr (off + j) (by omega) j3
                · rw [List.getElem_append_right (by simpa using hj)]
                  simp only [List.length_drop]
                  have hjn : j - (xs.length - off) < n * es' := by omega
                  have e1 := g8 (j - (xs.length - off)) (by omega)
                  rw [show l.base + off + len * es' + 0 + (j - (xs.length - off)) = l.base + off + j from by omega] at e1
                  have j2' : l.base + off + j < cs'.size := j2
                  have j4 : j - (xs.length - off) < new.size := by simpa using (by omega : j - (xs.length - off) < new.toList.length)
                  have e3 : new.toList[j - (xs.length - off)]? = some new[j - (xs.length - off)] := by simp [j4]
                  have e2 : cs'[l.base + off + j] = new[j - (xs.length - off)] := Option.some.inj ((Array.getElem?_eq_getElem j2').symm.trans (e1.trans e3))
                  show Rel M ρ _ cs'[l.base + off + j]
                  rw [e2]
                  exact hrel.2 _ _ _
              obtain ⟨m1, m2⟩ := hs.move hid hρ hidH hidρ _ (l.base + off) hblk g2 g3 g4 g5
              refine ⟨_, w', M, _, ?_, m2, m1, .sliceR id 0 (len + n) es' c none ⟨l.block, l.base + off, l.size⟩ _ hle (fun m hm => by cases hm) (setLoc_same ..) (.inr rfl) (by simpa using hr) (fun _ => by simpa using hn')⟩
              rw [q1 hle]
              simp only [Addr.add_none]
              rw [g1]; rfl
            · have := fresh hle (by omega) (H.set id₀ none) (fun i b hi => by
                by_cases e : i = id₀
                · subst e; rw [AHeap.set_same] at hi; cases hi
                · rwa [AHeap.set_ne _ _ e] at hi)
              rw [hdrop] at this
              exact this
    · exact h.elim
end ops
end Go.Ab
