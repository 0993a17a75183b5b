/- Maps that the code owns, whose keys are integers, strings or pairs of integers: making, looking up and storing. -/
import Derived.Test.YtdfoobfofjbjiaaAbCopy
import Derived.Laws.StructEq
set_option linter.unusedSimpArgs false
set_option linter.unusedVariables false
namespace Go.Ab

def i64T (P : Program) (t : TypeId) : Bool := (match tAgg P t with | some false => true | _ => false) && match P.underlying t with | some (.int .i64) => true | _ => false
def intT (P : Program) (t : TypeId) : Bool := match P.underlying t with | some (.int _) => true | _ => false
/-- A struct of two integers. -/
def pairT (P : Program) (t : TypeId) : Bool :=
  !P.stoodInHeld t && match P.underlying t with
  | some (.struct fs) => match fs.toList with
    | [f, g] => f.name != "_" && g.name != "_" && f.offset == 0 && g.offset == 1 && i64T P f.type && i64T P g.type
    | _ => false
  | _ => false

def keyEq (P : Program) (t : TypeId) : AV → AV → Option Bool
  | .agg [.int .i64 a, .int .i64 b], .agg [.int .i64 c, .int .i64 d] => if pairT P t then some (a == c && b == d) else none
  | .int k a, .int k' b => if k = k' ∧ intT P t = true then some (a == b) else none
  | .string a, .string b => if isStringT P t then some (a == b) else none
  | _, _ => none
def keyOK (P : Program) (t : TypeId) : AV → Bool
  | .agg [.int .i64 _, .int .i64 _] => pairT P t
  | .int _ _ => intT P t
  | .string _ => isStringT P t
  | _ => false
def aFind (P : Program) (t : TypeId) (k : AV) : List (AV × AV) → Nat → Option (Option (Nat × AV))
  | [], _ => some none
  | e :: es, i => match keyEq P t k e.1 with
    | some true => some (some (i, e.2))
    | some false => aFind P t k es (i + 1)
    | none => none

section
variable {P : Program} {M : Imm} {ρ : Locs} {H : AHeap} {w : World}

theorem i64T_spec {t : TypeId} (h : i64T P t = true) : tAgg P t = some false ∧ P.underlying t = some (.int .i64) := by
  unfold i64T at h
  simp only [Bool.and_eq_true] at h
  obtain ⟨h1, h2⟩ := h
  constructor
  · split at h1
    · assumption
    · cases h1
  · split at h2
    · assumption
    · cases h2
theorem intT_spec {t : TypeId} (h : intT P t = true) : ∃ k, P.underlying t = some (.int k) := by
  unfold intT at h; split at h
  · exact ⟨_, by assumption⟩
  · cases h
theorem pairT_spec {t : TypeId} (h : pairT P t = true) : ∃ fs f g, P.underlying t = some (.struct fs) ∧ fs.toList = [f, g] ∧ P.stoodInHeld t = false ∧ f.name ≠ "_" ∧ g.name ≠ "_" ∧ f.offset = 0 ∧ g.offset = 1 ∧ i64T P f.type = true ∧ i64T P g.type = true := by
  unfold pairT at h
  simp only [Bool.and_eq_true, Bool.not_eq_true'] at h
  obtain ⟨h0, h⟩ := h
  split at h
  case h_2 => cases h
  rename_i fs hu
  split at h
  case h_2 => cases h
  rename_i f g hl
  simp only [Bool.and_eq_true, bne_iff_ne, beq_iff_eq] at h
  obtain ⟨⟨⟨⟨⟨h1, h2⟩, h3⟩, h4⟩, h5⟩, h6⟩ := h
  exact ⟨fs, f, g, hu, hl, h0, h1, h2, h3, h4, h5, h6⟩

theorem Rel.pair_inv {a b : Int} {v : Value} (h : Rel M ρ (.agg [.int .i64 a, .int .i64 b]) v) : v = .agg #[.int .i64 a, .int .i64 b] := by
  obtain ⟨cs, rfl, hs, hr⟩ := h.agg_inv
  have h2 : cs.size = 2 := hs
  have e0 := (hr 0 (by simp) (by omega)).int_inv
  have e1 := (hr 1 (by simp) (by omega)).int_inv
  congr 1
  apply Array.ext
  · simpa using h2
  · intro i h3 h4
    simp at h4
    rcases i with _ | _ | i
    · simpa using e0
    · simpa using e1
    · omega

theorem run_part_i64 {t : TypeId} (h : i64T P t = true) (cs : Array Value) (off : Nat) (v : Value) (hv : cs[off]? = some v) : (part t cs off).run P w = .ok v w := by
  simp [part, run_isAgg (i64T_spec h).1, hv]

theorem run_equalIn_pair {t : TypeId} (d : Nat) (h : pairT P t = true) (a b x y : Int) : (Op.equalIn (d + 2) t (.agg #[.int .i64 a, .int .i64 b]) (.agg #[.int .i64 x, .int .i64 y])).run P w = .ok (a == x && b == y) w := by
  obtain ⟨fs, f, g, hu, hl, h0, h1, h2, h3, h4, h5, h6⟩ := pairT_spec h
  have hf : P.fieldsOf t = fs := by unfold Program.fieldsOf; rw [hu]
  rw [run_equalIn_struct w (d + 1) t _ _ (by rw [hf]; exact hu) h0, hf, hl]
  have e1 : ∀ (x y : Int), (Op.equalIn (d + 1) f.type (.int .i64 x) (.int .i64 y)).run P w = .ok (x == y) w := fun x y => run_equalIn_int w d _ .i64 .i64 x y (i64T_spec h5).2
  have e2 : ∀ (x y : Int), (Op.equalIn (d + 1) g.type (.int .i64 x) (.int .i64 y)).run P w = .ok (x == y) w := fun x y => run_equalIn_int w d _ .i64 .i64 x y (i64T_spec h6).2
  simp only [Op.eqFields, h3, h4]
  have p1 : ∀ a b : Int, (part f.type #[.int .i64 a, .int .i64 b] 0).run P w = .ok (.int .i64 a) w := fun a b => run_part_i64 h5 _ _ _ (by simp)
  have p2 : ∀ a b : Int, (part g.type #[.int .i64 a, .int .i64 b] 1).run P w = .ok (.int .i64 b) w := fun a b => run_part_i64 h6 _ _ _ (by simp)
  simp only [ne_eq, h1, h2, not_false_eq_true, if_true, Sem.run_bind, p1, p2, Result.andThen_ok, e1, e2, Sem.run_ite, Sem.run_pure]
  cases a == x <;> cases b == y <;> simp

theorem run_equal_key {t : TypeId} {k k' : AV} {u u' : Value} {b : Bool} (h : keyEq P t k k' = some b) (hk : Rel M ρ k u) (hk' : Rel M ρ k' u') : (Op.equal t u u').run P w = .ok b w := by
  unfold keyEq at h
  split at h
  · split at h
    · rename_i a b' c d hp
      cases h
      rw [hk.pair_inv, hk'.pair_inv]
      exact run_equalIn_pair 9998 hp a b' c d
    · cases h
  · split at h
    · rename_i hc; cases h
      obtain ⟨rfl, hi⟩ := hc
      obtain ⟨k0, hu⟩ := intT_spec hi
      rw [hk.int_inv, hk'.int_inv]
      exact run_equalIn_int w 9999 _ _ _ _ _ hu
    · cases h
  · split at h
    · rename_i a b hc; cases h
      rw [hk.string_inv, hk'.string_inv]
      have := run_equalIn_string (P := P) w 9999 t ⟨a.toArray⟩ ⟨b.toArray⟩ (isStringT_spec hc)
      simp only [ByteArray.toList_mk] at this
      exact this
    · cases h
  · cases h

theorem run_check_pair {t : TypeId} (e : Bool) (d : Nat) (h : pairT P t = true) (a b : Int) : (Instr.checkKey e (d + 2) t (.agg #[.int .i64 a, .int .i64 b])).run P w = .ok () w := by
  obtain ⟨fs, f, g, hu, hl, h0, h1, h2, h3, h4, h5, h6⟩ := pairT_spec h
  rw [Instr.checkKey]
  simp only [Sem.run_bind, run_underlying hu, Result.andThen_ok]
  rw [← Array.forIn_toList, hl]
  have e1 : ∀ (x : Int) (w' : World), (Instr.checkKey e (d + 1) f.type (.int .i64 x)).run P w' = .ok () w' := fun x w' => by
    rw [Instr.checkKey]; simp [run_underlying (i64T_spec h5).2]
  have e2 : ∀ (x : Int) (w' : World), (Instr.checkKey e (d + 1) g.type (.int .i64 x)).run P w' = .ok () w' := fun x w' => by
    rw [Instr.checkKey]; simp [run_underlying (i64T_spec h6).2]
  simp [h1, h2, h3, h4, run_part_i64 (w := w) h5 #[.int .i64 a, .int .i64 b] 0 _ rfl, run_part_i64 (w := w) h6 #[.int .i64 a, .int .i64 b] 1 _ rfl, e1, e2]
theorem run_check_int {t : TypeId} (e : Bool) (d : Nat) {k : IntKind} (h : intT P t = true) (a : Int) : (Instr.checkKey e (d + 1) t (.int k a)).run P w = .ok () w := by
  obtain ⟨k0, hu⟩ := intT_spec h
  rw [Instr.checkKey]; simp [run_underlying hu]
theorem run_check_string {t : TypeId} (e : Bool) (d : Nat) (h : isStringT P t = true) (a : ByteArray) : (Instr.checkKey e (d + 1) t (.string a)).run P w = .ok () w := by
  rw [Instr.checkKey]; simp [run_underlying (isStringT_spec h)]
theorem run_checkKey {t : TypeId} {k : AV} {u : Value} (e : Bool) (h : keyOK P t k = true) (hk : Rel M ρ k u) : (Instr.checkKey e 10000 t u).run P w = .ok () w := by
  unfold keyOK at h
  split at h
  · rw [hk.pair_inv]; exact run_check_pair e 9998 h _ _
  · rw [hk.int_inv]; exact run_check_int e 9999 h _
  · rw [hk.string_inv]; exact run_check_string e 9999 h _
  · cases h

/-- Entries of a map, against those of the model. -/
def RelE (M : Imm) (ρ : Locs) (es : List (AV × AV)) (ms : List MapEntry) : Prop :=
  ms.length = es.length ∧ ∀ j (h1 : j < es.length) (h2 : j < ms.length), Rel M ρ es[j].1 ms[j].key ∧ Rel M ρ es[j].2 ms[j].val
theorem RelE.cons_inv {e : AV × AV} {es : List (AV × AV)} {ms : List MapEntry} (h : RelE M ρ (e :: es) ms) : ∃ m ms', ms = m :: ms' ∧ Rel M ρ e.1 m.key ∧ Rel M ρ e.2 m.val ∧ RelE M ρ es ms' := by
  cases ms with
  | nil => have := h.1; simp at this
  | cons m ms' =>
    have h0 := h.2 0 (by simp) (by simp)
    exact ⟨m, ms', rfl, h0.1, h0.2, by have := h.1; simpa using this, fun j h1 h2 => by
      have := h.2 (j + 1) (by simpa using h1) (by simpa using h2)
      simpa using this⟩
def RelFd (M : Imm) (ρ : Locs) : Option (Nat × AV) → Option (Nat × Value) → Prop
  | none, none => True
  | some (i, v), some (j, u) => i = j ∧ Rel M ρ v u
  | _, _ => False

theorem findAsking_run {t : TypeId} {k : AV} {u : Value} (hk : Rel M ρ k u) : ∀ (es : List (AV × AV)) (ms : List MapEntry) (i : Nat) (r : Option (Nat × AV)), RelE M ρ es ms → aFind P t k es i = some r →
    ∃ r', (Instr.findAsking t u ms i).run P w = .ok r' w ∧ RelFd M ρ r r'
  | [], ms, i, r, hr, h => by
    have : ms = [] := by have := hr.1; simpa using this
    subst this
    cases h
    exact ⟨none, rfl, trivial⟩
  | e :: es, ms, i, r, hr, h => by
    obtain ⟨m, ms', rfl, h1, h2, h3⟩ := hr.cons_inv
    simp only [aFind] at h
    split at h
    · rename_i he; cases h
      exact ⟨some (i, m.val), by simp [Instr.findAsking, run_equal_key he hk h1], rfl, h2⟩
    · rename_i he
      obtain ⟨r', h4, h5⟩ := findAsking_run hk es ms' (i + 1) r h3 h
      exact ⟨r', by simp [Instr.findAsking, run_equal_key he hk h1, h4], h5⟩
    · cases h

theorem sameNow_key {t : TypeId} {d : TypeDesc} {k k' : AV} {u u' : Value} {b c : Bool} (ht : P.underlying t = some d) (h : keyEq P t k k' = some b) (hk : Rel M ρ k u) (hk' : Rel M ρ k' u') (hs : Instr.sameNow d u u' = some c) : c = b := by
  unfold keyEq at h
  split at h
  · split at h
    · cases h
      rw [hk.pair_inv, hk'.pair_inv] at hs
      cases d <;> simp [Instr.sameNow] at hs
    · cases h
  · split at h
    · rename_i hc; cases h
      rw [hk.int_inv, hk'.int_inv] at hs
      obtain ⟨rfl, _⟩ := hc
      cases d <;> simp [Instr.sameNow] at hs
      exact hs.symm
    · cases h
  · split at h
    · rename_i hc; cases h
      rw [hk.string_inv, hk'.string_inv] at hs
      cases d <;> simp [Instr.sameNow] at hs
      rename_i a b
      rw [← hs]
      rw [beq_toListBytes]
      simp
    · cases h
  · cases h

theorem findNow_run {t : TypeId} {d : TypeDesc} (ht : P.underlying t = some d) {k : AV} {u : Value} (hk : Rel M ρ k u) : ∀ (es : List (AV × AV)) (ms : List MapEntry) (i : Nat) (r : Option (Nat × AV)) (r' : Option (Nat × Value)), RelE M ρ es ms → aFind P t k es i = some r →
    Instr.findNow d u ms i = some r' → RelFd M ρ r r'
  | [], ms, i, r, r', hr, h, h' => by
    have : ms = [] := by have := hr.1; simpa using this
    subst this
    cases h; cases h'
    trivial
  | e :: es, ms, i, r, r', hr, h, h' => by
    obtain ⟨m, ms', rfl, h1, h2, h3⟩ := hr.cons_inv
    simp only [aFind] at h
    simp only [Instr.findNow] at h'
    split at h
    · rename_i he; cases h
      split at h'
      · cases h'; exact ⟨rfl, h2⟩
      · rename_i hs; have := sameNow_key ht he hk h1 hs; cases this
      · cases h'
    · rename_i he
      split at h'
      · rename_i hs; have := sameNow_key ht he hk h1 hs; cases this
      · exact findNow_run ht hk es ms' (i + 1) r r' h3 h h'
      · cases h'
    · cases h

theorem keyOK_under {t : TypeId} {k : AV} (h : keyOK P t k = true) : ∃ d, P.underlying t = some d := by
  unfold keyOK at h
  split at h
  · obtain ⟨fs, f, g, hu, _⟩ := pairT_spec h; exact ⟨_, hu⟩
  · obtain ⟨k, hu⟩ := intT_spec h; exact ⟨_, hu⟩
  · exact ⟨_, isStringT_spec h⟩
  · cases h

theorem findKey_run {t : TypeId} {k : AV} {u : Value} (hk : Rel M ρ k u) (ho : keyOK P t k = true) {es : List (AV × AV)} {ms : List MapEntry} {r : Option (Nat × AV)} (hr : RelE M ρ es ms) (h : aFind P t k es 0 = some r) :
    ∃ r', (Instr.findKey t u ms).run P w = .ok r' w ∧ RelFd M ρ r r' := by
  obtain ⟨d, hu⟩ := keyOK_under ho
  cases hn : Instr.findNow d u ms 0 with
  | some r' => exact ⟨r', by simp [Instr.findKey, run_underlying hu, hn], findNow_run hu hk es ms 0 r r' hr h hn⟩
  | none =>
    obtain ⟨r', h1, h2⟩ := findAsking_run (w := w) hk es ms 0 r hr h
    exact ⟨r', by simp [Instr.findKey, run_underlying hu, hn, h1], h2⟩

/-! the operations -/
def tMap (P : Program) (t : TypeId) : Option (TypeId × TypeId) := match P.underlying t with | some (.map k e) => some (k, e) | _ => none
theorem tMap_spec {t k e : TypeId} (h : tMap P t = some (k, e)) : P.underlying t = some (.map k e) := by
  unfold tMap at h; split at h
  · cases h; assumption
  · cases h
def mapEs (H : AHeap) : AV → Option (List (AV × AV))
  | .nilmap => some []
  | .map id => match H id with
    | some (.map es) => some es
    | _ => none
  | _ => none
def outLookup (ok : Bool) (z : AV) : Option (Nat × AV) → AV
  | some (_, v) => if ok then .tuple [v, .bool true] else v
  | none => if ok then .tuple [z, .bool false] else z
def aLookup (P : Program) (t : TypeId) (m k : AV) (ok : Bool) (H : AHeap) : Option AV :=
  (tMap P t).bind fun te => (mapEs H m).bind fun es => (tZero P te.2).bind fun z => if keyOK P te.1 k then (aFind P te.1 k es 0).map (outLookup ok (AV.ofV z)) else none

theorem RelL.two {x y : AV} {u v : Value} (hx : Rel M ρ x u) (hy : Rel M ρ y v) : RelL M ρ [x, y] #[u, v] := (RelL.one hx).append (RelL.one hy)

theorem mapEs_spec (hs : St M ρ H w) {m : AV} {m' : Value} {es : List (AV × AV)} (h : mapEs H m = some es) (hm : Rel M ρ m m') :
    ∃ ms : Array MapEntry, RelE M ρ es ms.toList ∧ ((m' = .map none ∧ ms = #[]) ∨ ∃ b c, m' = .map (some b) ∧ w.heap[b]? = some (.map ms c)) := by
  unfold mapEs at h
  split at h
  · cases h; cases hm
    exact ⟨#[], ⟨rfl, fun j h1 => by simp at h1⟩, .inl ⟨rfl, rfl⟩⟩
  · rename_i id
    split at h
    · rename_i es' hH; cases h
      obtain ⟨l, o, h1, h2, h3, h4⟩ := hs.own _ _ hH
      obtain ⟨entries, clock, rfl, g1, g2, g3, g4⟩ := h4
      cases hm with
      | map _ l' hρ =>
        rw [h1] at hρ; cases hρ
        exact ⟨entries, ⟨by simpa using g1, fun j a b => by simpa using g4 j a (by simpa using b)⟩, .inr ⟨_, _, rfl, h3⟩⟩
    · cases h
  · cases h

theorem run_getObj {b : Nat} {ms : Array MapEntry} {c : Nat} (h : w.heap[b]? = some (.map ms c)) : (getObj b).run P w = .ok (.map ms c) w := by
  simp [getObj, Sem.run, h]

theorem aLookup_gives (hs : St M ρ H w) {t : TypeId} {m k v : AV} {m' k' : Value} {ok : Bool} (h : aLookup P t m k ok H = some v) (hm : Rel M ρ m m') (hk : Rel M ρ k k') : Gives P M ρ w (Instr.lookup t m' k' ok) v := by
  unfold aLookup at h
  obtain ⟨⟨kt, et⟩, ht, h⟩ := Option.bind_eq_some_iff.1 h
  obtain ⟨es, he, h⟩ := Option.bind_eq_some_iff.1 h
  obtain ⟨z, hz, h⟩ := Option.bind_eq_some_iff.1 h
  split at h
  case isFalse => cases h
  rename_i ho
  obtain ⟨r, hf, rfl⟩ := Option.map_eq_some_iff.1 h
  obtain ⟨ms, hr, hc⟩ := mapEs_spec hs he hm
  obtain ⟨r', h1, h2⟩ := findKey_run (w := w) hk ho hr hf
  have hu := tMap_spec ht
  have hzr := Rel.ofV (M := M) (ρ := ρ) z
  have hck : ∀ e, (Instr.checkKey e 10000 kt k').run P w = .ok () w := fun e => run_checkKey e ho hk
  have fin : ∀ u, ((r' = none ∧ u = if ok then .tuple #[z, .bool false] else z) ∨ (∃ y, r' = some y ∧ u = if ok then .tuple #[y.2, .bool true] else y.2)) → (Instr.lookup t m' k' ok).run P w = .ok u w := by
    rintro u (⟨rfl, rfl⟩ | ⟨y, rfl, rfl⟩)
    · rcases hc with ⟨rfl, rfl⟩ | ⟨b, c, rfl, hb⟩
      · simp only [Array.toList_empty] at h1
        simp [Instr.lookup, run_underlying hu, hck, h1, run_zeroValue hz]
      · simp [Instr.lookup, run_underlying hu, run_getObj hb, hck, h1, run_zeroValue hz]
    · rcases hc with ⟨rfl, rfl⟩ | ⟨b, c, rfl, hb⟩
      · simp only [Array.toList_empty] at h1
        simp [Instr.lookup, run_underlying hu, hck, h1]
      · simp [Instr.lookup, run_underlying hu, run_getObj hb, hck, h1]
  cases r with
  | none =>
    cases r' with
    | some x => exact h2.elim
    | none =>
      refine ⟨_, w.drawn, fin _ (.inl ⟨rfl, rfl⟩), ?_⟩
      simp only [outLookup]
      split
      · have := RelL.two hzr (.bool false); exact .tuple _ _ this.1 this.2
      · exact hzr
  | some x =>
    cases r' with
    | none => exact h2.elim
    | some y =>
      refine ⟨_, w.drawn, fin _ (.inr ⟨y, rfl, rfl⟩), ?_⟩
      simp only [outLookup]
      split
      · have := RelL.two h2.2 (.bool true); exact .tuple _ _ this.1 this.2
      · exact h2.2

theorem makeMap_does (hs : St M ρ H w) {t : TypeId} {id : Nat} (hρ : ρ id = none) (hH : H id = none) : Does P M ρ w (Instr.makeMap t none) (.map id) (H.set id (some (.map []))) := by
  obtain ⟨g1, g2⟩ := hs.alloc hρ hH (.map #[] 0) (.map []) 0 ⟨#[], 0, rfl, rfl, fun j h => by simp at h, fun i j h => by simp at h, fun j h => by simp at h⟩
  refine ⟨.map (some w.heap.size), w.alloc (.map #[] 0), _, _, ?_, g2, g1, .map _ _ (setLoc_same ..)⟩
  simp [Instr.makeMap]

def setEs (es : List (AV × AV)) (k v : AV) : Option (Nat × AV) → List (AV × AV)
  | some (i, _) => es.modify i fun e => (e.1, v)
  | none => es ++ [(k, v)]
def aMapUpdate (P : Program) (t : TypeId) (m k v : AV) (H : AHeap) : Option AHeap :=
  match m with
  | .map id => (tMap P t).bind fun te => (mapEs H (.map id)).bind fun es => if keyOK P te.1 k then (aFind P te.1 k es 0).map fun r => H.set id (some (.map (setEs es k v r))) else none
  | _ => none

theorem aFind_key {t : TypeId} {k : AV} : ∀ (es : List (AV × AV)) (i j : Nat) (v : AV), aFind P t k es i = some (some (j, v)) → i ≤ j ∧ ∃ h : j - i < es.length, keyEq P t k es[j - i].1 = some true
  | [], i, j, v, h => by simp [aFind] at h
  | e :: es, i, j, v, h => by
    simp only [aFind] at h
    split at h
    · rename_i he; cases h
      exact ⟨Nat.le_refl _, by simp, by simpa using he⟩
    · obtain ⟨h1, h2, h3⟩ := aFind_key es (i + 1) j v h
      refine ⟨by omega, by simp; omega, ?_⟩
      have e1 : j - i = (j - (i + 1)) + 1 := by omega
      simp only [e1, List.getElem_cons_succ]
      exact h3
    · cases h

theorem keyEq_true {t : TypeId} {k k' : AV} {u u' : Value} (h : keyEq P t k k' = some true) (hk : Rel M ρ k u) (hk' : Rel M ρ k' u') : u' = u ∧ Instr.sameBits 10000 u' u = true := by
  unfold keyEq at h
  split at h
  · split at h
    · rename_i a b c d hp
      have e : a = c ∧ b = d := by simpa using h
      rw [hk.pair_inv, hk'.pair_inv]
      obtain ⟨rfl, rfl⟩ := e
      exact ⟨rfl, by simp [Instr.sameBits]⟩
    · cases h
  · split at h
    · rename_i hc
      obtain ⟨rfl, _⟩ := hc
      have e := h
      simp at e; subst e
      rw [hk.int_inv, hk'.int_inv]
      exact ⟨rfl, by simp [Instr.sameBits]⟩
    · cases h
  · split at h
    · have e := h
      simp at e; subst e
      rw [hk.string_inv, hk'.string_inv]
      refine ⟨rfl, ?_⟩
      show ((_ : ByteArray) == _) = true
      rw [beq_toListBytes]; exact beq_self_eq_true _
    · cases h
  · cases h

theorem aMapUpdate_does (hs : St M ρ H w) {t : TypeId} {m k v : AV} {m' k' v' : Value} {H' : AHeap} (h : aMapUpdate P t m k v H = some H') (hm : Rel M ρ m m') (hk : Rel M ρ k k') (hv : Rel M ρ v v') :
    ∃ w', (Instr.mapUpdate t m' k' v').run P w = .ok () w' ∧ Ext M ρ w M ρ w' ∧ St M ρ H' w' := by
  unfold aMapUpdate at h
  split at h
  case h_2 => cases h
  rename_i id
  obtain ⟨⟨kt, et⟩, ht, h⟩ := Option.bind_eq_some_iff.1 h
  obtain ⟨es, he, h⟩ := Option.bind_eq_some_iff.1 h
  split at h
  case isFalse => cases h
  rename_i ho
  obtain ⟨r, hf, rfl⟩ := Option.map_eq_some_iff.1 h
  have hu := tMap_spec ht
  have hH : H id = some (.map es) := by
    simp only [mapEs] at he
    split at he
    · cases he; assumption
    · cases he
  obtain ⟨l, o, h1, h2, h3, h4⟩ := hs.own _ _ hH
  obtain ⟨ms, clock, rfl, g1, g2, g3, g4⟩ := h4
  have hr : RelE M ρ es ms.toList := ⟨by simpa using g1, fun j a b => by simpa using g4 j a (by simpa using b)⟩
  obtain ⟨r', q1, q2⟩ := findKey_run (w := w) hk ho hr hf
  have em : m' = .map (some l.block) := by
    cases hm with
    | map _ l' hρ => rw [h1] at hρ; cases hρ; rfl
  subst em
  cases r with
  | none =>
    cases r' with
    | some x => exact q2.elim
    | none =>
      have hb : BlkOK M ρ l (.map (setEs es k v none)) (.map (ms.push { key := k', val := v', born := clock }) (clock + 1)) := by
        refine ⟨_, _, rfl, by simp [setEs, g1], fun j hj => ?_, fun i j hi hj e => ?_, fun j a b => ?_⟩
        · simp only [Array.getElem_push]
          split
          · have := g2 j (by assumption); omega
          · simp
        · simp only [Array.size_push] at hi hj
          simp only [Array.getElem_push] at e
          split at e <;> split at e
          · exact g3 i j (by assumption) (by assumption) e
          · have := g2 i (by assumption); simp at e; omega
          · have := g2 j (by assumption); simp at e; omega
          · omega
        · simp only [setEs, List.length_append, List.length_cons, List.length_nil] at a
          simp only [setEs, Array.getElem_push, List.getElem_append]
          by_cases e : j < es.length
          · rw [dif_pos e, dif_pos (by omega)]
            exact g4 j e (by omega)
          · rw [dif_neg e, dif_neg (by omega)]
            have : j = es.length := by omega
            subst this
            simpa using ⟨hk, hv⟩
      obtain ⟨s1, s2⟩ := hs.write hH h1 _ hb (w' := { w with heap := w.heap.setIfInBounds l.block (.map (ms.push { key := k', val := v', born := clock }) (clock + 1)) }) rfl rfl rfl rfl
      refine ⟨_, ?_, s2, s1⟩
      have hlt := hs.lt hH h1
      simp only [Instr.mapUpdate, Sem.run_bind, run_underlying hu, Result.andThen_ok, run_getObj h3, run_checkKey (w := w) false ho hk, q1]
      simp [setObj, Sem.run, h3]
  | some x =>
    cases r' with
    | none => exact q2.elim
    | some y =>
      obtain ⟨i, v0⟩ := x
      obtain ⟨i', u0⟩ := y
      obtain ⟨rfl, hv0⟩ := q2
      obtain ⟨_, hlt, hkey⟩ := aFind_key es 0 i v0 hf
      simp only [Nat.sub_zero] at hlt hkey
      have hlt' : i < ms.size := by omega
      obtain ⟨e1, e2⟩ := keyEq_true hkey hk (g4 i hlt hlt').1
      have hb : BlkOK M ρ l (.map (setEs es k v (some (i, v0)))) (.map (ms.modify i fun e => { e with key := k', val := v' }) clock) := by
        refine ⟨_, _, rfl, by simp [setEs, g1], fun j hj => ?_, fun a b ha hb e => ?_, fun j a b => ?_⟩
        · simp only [Array.size_modify] at hj
          simp only [Array.getElem_modify]
          split <;> exact g2 j hj
        · simp only [Array.size_modify] at ha hb
          refine g3 a b ha hb ?_
          simp only [Array.getElem_modify] at e
          split at e <;> split at e <;> exact e
        · simp only [setEs, List.length_modify] at a
          simp only [Array.size_modify] at b
          simp only [setEs, Array.getElem_modify, List.getElem_modify]
          by_cases e : i = j
          · subst e
            simp only [if_true]
            exact ⟨by rw [← e1]; exact (g4 i a b).1, hv⟩
          · simp only [if_neg e]
            exact g4 j a b
      obtain ⟨s1, s2⟩ := hs.write hH h1 _ hb (w' := { w with heap := w.heap.setIfInBounds l.block (.map (ms.modify i fun e => { e with key := k', val := v' }) clock) }) rfl rfl rfl rfl
      refine ⟨_, ?_, s2, s1⟩
      have e3 : ((ms[i]?).map (·.key)).getD k' = ms[i].key := by simp [Array.getElem?_eq_getElem hlt']
      simp only [Instr.mapUpdate, Sem.run_bind, run_underlying hu, Result.andThen_ok, run_getObj h3, run_checkKey (w := w) false ho hk, q1, e3]
      simp [Instr.keyThatStays, e2, setObj, Sem.run, h3]
end
end Go.Ab
