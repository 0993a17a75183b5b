/- New memory, append and copy on abstract values and heaps, and that the model agrees. -/
import Derived.Test.YtdfoobfofjbjiaaAbSlice
set_option linter.unusedSimpArgs false
set_option linter.unusedVariables false
namespace Go.Ab

section ops
variable {P : Program} {M : Imm} {ρ : Locs} {H : AHeap} {w : World}

theorem RelL.blk {xs : List AV} {cs : Array Value} {b : Nat} {t : TypeId} (h : RelL M ρ xs cs) : BlkOK M ρ ⟨b, 0, cs.size⟩ (.cells xs) (.cells cs t) := by
  refine ⟨cs, t, (0, 0), rfl, .inl rfl, rfl, by simp [h.1], fun j h1 h2 => ?_⟩
  have := h.2 j h1 (by simpa using h2)
  simpa using this

/-- A new row of cells that the code owns. -/
theorem newRow_does (hs : St M ρ H w) {xs : List AV} {cs : Array Value} (h : RelL M ρ xs cs) (e : TypeId) {id : Nat} (hρ : ρ id = none) (hH : H id = none) :
    ∃ w' ρ', (newRow e cs).run P w = .ok ⟨w.heap.size, 0, none⟩ w' ∧ Ext M ρ w M ρ' w' ∧ St M ρ' (H.set id (some (.cells xs))) w' ∧ ρ' id = some ⟨w.heap.size, 0, cs.size⟩ := by
  obtain ⟨h1, h2⟩ := hs.alloc hρ hH (.cells cs e) (.cells xs) cs.size h.blk
  exact ⟨w.alloc (.cells cs e), _, rfl, h2, h1, setLoc_same ..⟩

theorem newVar_does (hs : St M ρ H w) {v : AV} {v' : Value} {xs : List AV} (h : Rel M ρ v v') (hc : v.cells = some xs) (e : TypeId) {id : Nat} (hρ : ρ id = none) (hH : H id = none) :
    Does P M ρ w (Instr.box e v') (.ptrR id 0) (H.set id (some (.cells xs))) := by
  obtain ⟨w', ρ', h1, h2, h3, h4⟩ := newRow_does (P := P) hs (h.cells hc) e hρ hH
  exact ⟨_, w', M, ρ', by simp [Instr.box, newVar, h1], h2, h3, .ptrR id 0 _ h4⟩

/-- The cells of a type's zero value. -/
def zeroCells (P : Program) (t : TypeId) : Option (List AV) := (tZero P t).map fun z => z.cells.toList.map AV.ofS
theorem zeroCells_spec {t : TypeId} {zs : List AV} (h : zeroCells P t = some zs) : ∃ z, tZero P t = some z ∧ RelL M ρ zs z.cells := by
  unfold zeroCells at h
  obtain ⟨z, h1, rfl⟩ := Option.map_eq_some_iff.1 h
  exact ⟨z, h1, RelL.ofS _⟩

theorem alloc_does (hs : St M ρ H w) {t : TypeId} {zs : List AV} (h : zeroCells P t = some zs) {id : Nat} (hρ : ρ id = none) (hH : H id = none) (old : Value) :
    Does P M ρ w (Instr.alloc t true old) (.ptrR id 0) (H.set id (some (.cells zs))) := by
  obtain ⟨z, hz, hr⟩ := zeroCells_spec (M := M) (ρ := ρ) h
  obtain ⟨w', ρ', h1, h2, h3, h4⟩ := newRow_does (P := P) hs hr t hρ hH
  exact ⟨_, w', M, ρ', by simp [Instr.alloc, run_zeroValue hz, newVar, h1], h2, h3, .ptrR id 0 _ h4⟩

/-! rows of zeros -/
def zeroRow (zs : List AV) (n : Nat) : List AV := (List.range n).map fun i => zs.getD (i % zs.length) .junk
@[simp] theorem zeroRow_length (zs : List AV) (n : Nat) : (zeroRow zs n).length = n := by simp [zeroRow]
theorem zeroRow_one (z : AV) (n : Nat) : zeroRow [z] n = List.replicate n z := by
  unfold zeroRow
  apply List.ext_getElem
  · simp
  · intro i h1 h2
    simp only [List.length_cons, List.length_nil, List.getElem_map, List.getElem_replicate]
    rw [Nat.mod_one]; rfl
theorem zeroRow_rel {zs : List AV} {z : Array Value} (h : RelL M ρ zs z) (n : Nat) (hz : n = 0 ∨ 0 < zs.length) : RelL M ρ (zeroRow zs n) ((Array.range n).map (z[· % z.size]!)) := by
  refine ⟨by simp [zeroRow], fun j h1 h2 => ?_⟩
  simp [zeroRow] at h1
  have hpos : 0 < zs.length := by omega
  have hlt : j % zs.length < zs.length := Nat.mod_lt _ hpos
  have hlt' : j % z.size < z.size := by rw [h.1]; exact hlt
  simp only [zeroRow, List.getElem_map, List.getElem_range, Array.getElem_map, Array.getElem_range]
  rw [getElem!_pos z _ hlt']
  simp only [List.getD, List.getElem?_eq_getElem hlt, Option.getD_some]
  have e : j % z.size = j % zs.length := by rw [h.1]
  have := h.2 _ hlt (by rw [h.1]; exact hlt)
  simpa only [e] using this

/-! composite literals -/
def aFill (place : Nat → Option (Nat × Nat)) (cells : List AV) : List (Nat × AV) → Option (List AV)
  | [] => some cells
  | (i, v) :: rest =>
    match place i, v.cells with
    | some (off, size), some vs => if vs.length = size ∧ off + vs.length ≤ cells.length then aFill place (putAt cells off vs) rest else none
    | _, _ => none

theorem putFold_spec (vs : List AV) : ∀ (ws : List Value) (i : Nat) (xs : List AV) (cs : Array Value) (off : Nat), RelL M ρ xs cs → vs.length = ws.length → off + i + vs.length ≤ xs.length →
    (∀ (j : Nat) (x : AV) (v : Value), vs[j]? = some x → ws[j]? = some v → Rel M ρ x v) →
    RelL M ρ (putAt xs (off + i) vs) ((ws.zipIdx i).foldl (fun cs p => cs.setIfInBounds (off + p.2) p.1) cs) := by
  induction vs with
  | nil =>
    intro ws i xs cs off h hl hb hr
    have : ws = [] := by cases ws <;> simp_all
    subst this
    exact h
  | cons x vs ih =>
    intro ws i xs cs off h hl hb hr
    cases ws with
    | nil => simp at hl
    | cons v ws =>
      simp only [List.length_cons] at hb hl
      simp only [putAt, List.zipIdx_cons, List.foldl_cons]
      rw [Nat.add_assoc]
      refine ih ws (i + 1) _ _ off ⟨by simp [h.1], fun j h1 h2 => ?_⟩ (by omega) (by simp; omega) (fun j y u hy hu => hr (j + 1) y u (by simpa using hy) (by simpa using hu))
      have h2' : j < cs.size := by simpa using h2
      by_cases e : off + i = j
      · subst e
        have h5 : (cs.setIfInBounds (off + i) v)[off + i]? = some v := Array.getElem?_setIfInBounds_self_of_lt h2'
        rw [Array.getElem?_eq_getElem h2] at h5
        rw [Option.some.inj h5, List.getElem_set_self]; exact hr 0 x v rfl rfl
      · have h5 : (cs.setIfInBounds (off + i) v)[j]? = some cs[j] := by
          rw [Array.getElem?_setIfInBounds_ne e]; exact Array.getElem?_eq_getElem h2'
        rw [Array.getElem?_eq_getElem h2] at h5
        rw [Option.some.inj h5, List.getElem_set_ne e]
        exact h.2 j (by simpa using h1) h2'

theorem aFill_spec (place : Nat → Option (Nat × Nat)) (ps : List (Nat × AV)) : ∀ (ps' : List (Nat × Value)) (xs ys : List AV) (cs : Array Value), aFill place xs ps = some ys → RelL M ρ xs cs → ps.length = ps'.length →
    (∀ (j : Nat) (p : Nat × AV) (q : Nat × Value), ps[j]? = some p → ps'[j]? = some q → p.1 = q.1 ∧ Rel M ρ p.2 q.2) → ∃ ds, Instr.fill place cs ps' = some ds ∧ RelL M ρ ys ds := by
  induction ps with
  | nil =>
    intro ps' xs ys cs h hr hl hp
    have : ps' = [] := by cases ps' <;> simp_all
    subst this
    simp only [aFill, Option.some.injEq] at h; subst h
    exact ⟨cs, rfl, hr⟩
  | cons p ps ih =>
    intro ps' xs ys cs h hr hl hp
    cases ps' with
    | nil => simp at hl
    | cons q ps' =>
      obtain ⟨i, v⟩ := p
      obtain ⟨i', v'⟩ := q
      obtain ⟨e, hv⟩ := hp 0 _ _ rfl rfl
      simp only at e hv; subst e
      simp only [aFill] at h
      split at h
      · rename_i off size vs h1 h2
        split at h
        · rename_i hh
          have hc := hv.cells h2
          obtain ⟨ds, g1, g2⟩ := ih ps' _ ys _ h (putFold_spec vs v'.cells.toList 0 xs cs off hr (by simp [hc.1]) (by omega) (fun j x u hx hu => by
            obtain ⟨u', hu', hr⟩ := hc.get hx
            simp at hu; rw [hu] at hu'; cases hu'; exact hr)) (by simpa using hl) (fun j a b ha hb => hp (j + 1) a b (by simpa using ha) (by simpa using hb))
          refine ⟨ds, ?_, g2⟩
          simp only [Instr.fill, h1]
          rw [if_neg (by have := hc.1; have := hr.1; simp; omega)]
          rw [← Array.foldl_toList, Array.toList_zipIdx]
          exact g1
        · cases h
      · cases h

def aBuildSlice (P : Program) (t : TypeId) (len : Nat) (parts : List (Nat × AV)) : Option (Nat × List AV) :=
  match tElem P t with
  | some e => match tSize P e, zeroCells P e with
    | some (es + 1), some zs => if len * (es + 1) ≤ 16777216 ∧ 0 < zs.length then (aFill (fun i => some (i * (es + 1), es + 1)) (zeroRow zs (len * (es + 1))) parts).map fun xs => (es + 1, xs) else none
    | _, _ => none
  | none => none

theorem aBuildSlice_run {t : TypeId} {len es : Nat} {parts : List (Nat × AV)} {parts' : Array (Nat × Value)} {xs : List AV} (h : aBuildSlice P t len parts = some (es, xs))
    (hl : parts.length = parts'.size) (hp : ∀ (j : Nat) (p : Nat × AV) (q : Nat × Value), parts[j]? = some p → parts'[j]? = some q → p.1 = q.1 ∧ Rel M ρ p.2 q.2) :
    ∃ e cs, RelL M ρ xs cs ∧ cs.size = len * es ∧ ∀ w : World, (Instr.buildSlice t len parts').run P w = .ok (.slice (some ⟨w.heap.size, 0, none⟩) len len) (w.alloc (.cells cs e)) := by
  unfold aBuildSlice at h
  split at h
  case h_2 => cases h
  rename_i e he
  split at h
  case h_2 => cases h
  rename_i n zs hn hz
  split at h
  case isFalse => cases h
  rename_i hh
  obtain ⟨xs', h1, h2⟩ := Option.map_eq_some_iff.1 h
  cases h2
  obtain ⟨z, hz1, hz2⟩ := zeroCells_spec (M := M) (ρ := ρ) hz
  have hu := tElem_spec he
  have hlen : ¬ len * (n + 1) > 2 ^ 24 := by omega
  by_cases h0 : len * (n + 1) = 0
  · rw [h0] at h1
    obtain ⟨ds, g1, g2⟩ := aFill_spec (M := M) (ρ := ρ) _ parts parts'.toList (zeroRow zs 0) xs #[] h1 (by simpa [zeroRow] using RelL.nil M ρ) (by simpa using hl) (fun j p q a b => hp j p q a (by simpa using b))
    refine ⟨e, ds, g2, ?_, fun w => ?_⟩
    · rw [h0]
      have : ∀ (ps : List (Nat × AV)) (ys zs : List AV), aFill (fun i => some (i * (n + 1), n + 1)) ys ps = some zs → zs.length = ys.length := by
        intro ps
        induction ps with
        | nil => intro ys zs h; simp [aFill] at h; rw [h]
        | cons p ps ih =>
          intro ys zs h
          simp only [aFill] at h
          split at h
          · split at h
            · rw [ih _ _ h]; simp
            · cases h
          · cases h
      rw [g2.1, this _ _ _ h1]; simp
    · have hz0 : ∀ f : Nat → Value, Array.map f (Array.range 0) = #[] := fun f => Array.ext' (by simp)
      simp only [Instr.buildSlice, Sem.run_bind, run_underlying hu, Result.andThen_ok, run_sizeOf hn, h0, hz0]
      simp [g1, newRow]
  · have hrow := zeroRow_rel hz2 (len * (n + 1)) (.inr hh.2)
    obtain ⟨ds, g1, g2⟩ := aFill_spec (M := M) (ρ := ρ) _ parts parts'.toList _ xs _ h1 hrow (by simpa using hl) (fun j p q a b => hp j p q a (by simpa using b))
    refine ⟨e, ds, g2, ?_, fun w => ?_⟩
    · have : ∀ (ps : List (Nat × AV)) (ys zs : List AV), aFill (fun i => some (i * (n + 1), n + 1)) ys ps = some zs → zs.length = ys.length := by
        intro ps
        induction ps with
        | nil => intro ys zs h; simp [aFill] at h; rw [h]
        | cons p ps ih =>
          intro ys zs h
          simp only [aFill] at h
          split at h
          · split at h
            · rw [ih _ _ h]; simp
            · cases h
          · cases h
      rw [g2.1, this _ _ _ h1]; simp
    · simp [Instr.buildSlice, run_underlying hu, run_sizeOf hn, hlen, h0, run_zeroValue hz1, g1, newRow]

theorem wrap64_small {n : Int} (h0 : 0 ≤ n) (h : n ≤ 281474976710656) : IntKind.i64.wrap n = n := by
  simp only [IntKind.wrap, IntKind.signed, IntKind.bits]
  simp
  omega

def aMakeSlice (P : Program) (t : TypeId) (len cap : AV) : Option (Nat × Nat × Nat × List AV) :=
  match len, cap with
  | .int _ l, .int _ c => match tElem P t with
    | some e => match tSize P e, zeroCells P e, tBytes P e with
      | some (es + 1), some zs, some b => if 0 ≤ l ∧ l ≤ c ∧ c.toNat * (b + 1) ≤ 140737488355328 ∧ 0 < zs.length then some (es + 1, l.toNat, c.toNat, zeroRow zs (c.toNat * (es + 1))) else none
      | _, _, _ => none
    | none => none
  | _, _ => none

theorem run_typeInfo {t : TypeId} {b : Nat} (h : tBytes P t = some b) : ∃ i, (∀ w : World, (typeInfo t).run P w = .ok i w) ∧ i.bytes = b := by
  unfold tBytes at h
  cases hi : P.info? t with
  | none => simp [hi] at h
  | some i => simp [hi] at h; exact ⟨i, fun w => by simp [typeInfo, hi], h⟩

theorem aMakeSlice_run {t : TypeId} {len cap : AV} {len' cap' : Value} {es l c : Nat} {xs : List AV} (h : aMakeSlice P t len cap = some (es, l, c, xs)) (hl : Rel M ρ len len') (hc : Rel M ρ cap cap') :
    ∃ e cs, RelL M ρ xs cs ∧ cs.size = c * es ∧ l ≤ c ∧ (Instr.makeSlice t len' cap').run P w = .ok (.slice (some ⟨w.heap.size, 0, none⟩) l c) (w.alloc (.cells cs e)) := by
  unfold aMakeSlice at h
  split at h
  case h_2 => cases h
  rename_i k l₀ k' c₀
  have e1 := hl.int_inv; subst e1
  have e2 := hc.int_inv; subst e2
  split at h
  case h_2 => cases h
  rename_i e he
  split at h
  case h_2 => cases h
  rename_i n zs b hn hz hb
  split at h
  case isFalse => cases h
  rename_i hh
  cases h
  obtain ⟨z, hz1, hz2⟩ := zeroCells_spec (M := M) (ρ := ρ) hz
  have hu := tElem_spec he
  obtain ⟨i, hi, hib⟩ := run_typeInfo hb
  have hcb : c₀ ≤ 140737488355328 := by
    have : c₀.toNat * 1 ≤ c₀.toNat * (b + 1) := Nat.mul_le_mul_left _ (by omega)
    omega
  have w1 : IntKind.i64.wrap l₀ = l₀ := wrap64_small hh.1 (by omega)
  have w2 : IntKind.i64.wrap c₀ = c₀ := wrap64_small (by omega) (by omega)
  have hbc : (b : Int) * c₀ ≤ 140737488355328 := by
    have h3 : c₀.toNat * b ≤ c₀.toNat * (b + 1) := Nat.mul_le_mul_left _ (by omega)
    have h4 : c₀.toNat * b ≤ 140737488355328 := by omega
    have h5 : (b : Int) * c₀ = ((c₀.toNat * b : Nat) : Int) := by
      rw [Int.natCast_mul, Int.toNat_of_nonneg (by omega), Int.mul_comm]
    rw [h5]; omega
  have hrow := zeroRow_rel hz2 (c₀.toNat * (n + 1)) (.inr hh.2.2.2)
  refine ⟨e, _, hrow, by simp, by omega, ?_⟩
  have t1 : ¬ (c₀ < 0 ∨ (i.bytes : Int) * c₀ > 2 ^ 48) := by rw [hib]; omega
  have t2 : ¬ l₀ < 0 := by omega
  have t3 : ¬ c₀ < l₀ := by omega
  simp only [Instr.makeSlice, Sem.run_bind, run_underlying hu, Result.andThen_ok, asInt, asIntOf, Sem.run_pure, hi, w1, w2]
  have t4 : ((decide (c₀ < 0) || decide ((i.bytes : Int) * c₀ > 2 ^ 48)) || decide (l₀ < 0) || decide (l₀ > c₀)) = false := by
    simp only [Bool.or_eq_false_iff, decide_eq_false_iff_not]
    exact ⟨⟨⟨by omega, by rw [hib]; omega⟩, t2⟩, by omega⟩
  rw [if_neg (by rw [t4]; simp)]
  by_cases h0 : c₀.toNat * (n + 1) = 0
  · have hz0 : ∀ f : Nat → Value, Array.map f (Array.range 0) = #[] := fun f => Array.ext' (by simp)
    rw [h0, hz0]
    have hr0 : Array.range 0 = #[] := Array.ext' (by simp)
    simp [run_sizeOf hn, h0, newRow, hr0]
  · simp [run_sizeOf hn, h0, run_zeroValue hz1, newRow]
end ops
end Go.Ab
