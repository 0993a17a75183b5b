/- Arguments that came in: what the row reads, as abstract values; and the end of a law that leaves its arguments as they are. -/
import Derived.Test.YtdfoobfofjbjiaaAbClose
import Derived.Test.YtdfoobfofjbjiaaAbExt
import Derived.ProofKit
set_option linter.unusedSimpArgs false
set_option linter.unusedVariables false
namespace Go.Ab
open Go.RowKit Go.ChangeShapes Go.WideShapes

abbrev M0 (W : World) : Imm := fun b => W.heap[b]?
abbrev R0 : Locs := fun _ => none

section
variable {H : Type} {enc : TypeId × Value → H} {P : Program} {W : World} {base : Nat} {spare : Nat → Bool} {held : Bool} {fuel : Nat} {t : TypeId} {cs : List Value} {x : DataW H × List MemPlace}

theorem trod_float_av {k : FloatKind} (ht : P.underlying t = some (.float k)) (h : DataW.trod enc P W base spare held fuel t cs = some x) : ∃ b, cs = [.float k b] := by
  cases fuel with
  | zero => simp [DataW.trod] at h
  | succ n =>
    unfold DataW.trod at h
    rw [ht] at h
    split at h <;> simp_all

theorem okWide_float {r : Reach} {v : Value} {k : FloatKind} (ht : P.underlying t = some (.float k)) (h : Value.okWide P W r base t v) : ∃ n, v = .float k n := by
  simp only [Value.okWide, ht, Cell.okWide] at h
  cases v <;> simp_all [Cell.ok]

theorem trod_slice_av {α : Type} [Inhabited α] (f : α → AV) {e : TypeId} (ht : P.underlying t = some (.slice e)) (hc : P.cellsOf e = 1)
    (hf : ∀ n u y, DataW.trod enc P W base spare held n e [u] = some y → ∃ a, Rel (M0 W) R0 (f a) u) (h : DataW.trod enc P W base spare held fuel t cs = some x) :
    ∃ (v : Value) (X : AV) (xs : List α), cs = [v] ∧ Rel (M0 W) R0 X v ∧ Sl noHeap f X xs ∧ xs.length ≤ 9223372036854775807 := by
  rcases DataW.trod_slice ht h with ⟨rfl, _⟩ | ⟨a, len, cap, elems, rest, n, _, rfl, _, hb, hl, hm, hlen, hel, _, _⟩
  · exact ⟨_, .nilslice, [], rfl, .nilslice, Sl.nil, by simp⟩
  · have each : ∀ i, i < len → ∃ b : α, ∃ u, W.cell? (a.add i) = some u ∧ Rel (M0 W) R0 (f b) u := by
      intro i hi
      have := hel i hi
      rw [List.getElem?_eq_getElem (by omega), hc, Nat.mul_one, Option.bind_eq_some_iff] at this
      obtain ⟨cs', h1, h2⟩ := this
      obtain ⟨_, h3, h4⟩ := World.cells?_some h1
      obtain ⟨u, rfl⟩ : ∃ u, cs' = [u] := by
        cases cs' with
        | nil => simp at h3
        | cons u l => cases l with
          | nil => exact ⟨u, rfl⟩
          | cons _ _ => simp at h3
      obtain ⟨b, hb⟩ := hf n u _ h2
      refine ⟨b, u, ?_, hb⟩
      have := h4 0 (by omega)
      simpa [Addr.add] using this
    let g : Nat → α := fun i => if hi : i < len then (each i hi).choose else default
    refine ⟨_, .sliceI ((mk len g).map f) len none, mk len g, rfl, ?_, ?_, ?_⟩
    · rcases Nat.eq_zero_or_pos len with h0 | hpos
      · subst h0
        exact .sliceN _ _ _ _ hl (fun n hn => by cases hn)
      · have spec : ∀ i (hi : i < len), ∃ u, W.cell? (a.add i) = some u ∧ Rel (M0 W) R0 (f (g i)) u := by
          intro i hi
          have := (each i hi).choose_spec
          simp only [g, dif_pos hi]; exact this
        obtain ⟨u0, h0, _⟩ := spec 0 hpos
        have e0 : a.add 0 = a := by cases a; rfl
        rw [e0] at h0
        have hsp := World.cell?_spot h0
        obtain ⟨b, o, sp⟩ := a
        simp only at hsp; subst hsp
        simp only [World.cell?] at h0
        split at h0
        · rename_i ds t' fz hbk
          have hcell : ∀ i (hi : i < len), ∃ u, ds[o + i]? = some u ∧ Rel (M0 W) R0 (f (g i)) u := by
            intro i hi
            obtain ⟨u, h1, h2⟩ := spec i hi
            rw [Addr.add_none, cell_of_heap hbk] at h1
            exact ⟨u, h1, h2⟩
          refine .sliceI _ _ _ b o _ ds t' fz hl (fun n hn => by cases hn) hbk ?_ (fun j h1 h2 => ?_)
          · obtain ⟨u, h1, _⟩ := hcell (len - 1) (by omega)
            have := (Array.getElem?_eq_some_iff.1 h1).1
            simp; omega
          · simp at h1
            obtain ⟨u, h3, h4⟩ := hcell j h1
            rw [(Array.getElem?_eq_some_iff.1 h3).2]
            simpa using h4
        · cases h0
    · have := Sl.imm (H := noHeap) (f := f) (mk len g) none
      simpa using this
    · simp
      have : maxLen = 9223372036854775807 := by decide
      omega
theorem trod_floats_av {e : TypeId} (ht : P.underlying t = some (.slice e)) (he : P.underlying e = some (.float .f32)) (hc : P.cellsOf e = 1) (h : DataW.trod enc P W base spare held fuel t cs = some x) :
    ∃ (v : Value) (X : AV) (xs : List Nat), cs = [v] ∧ Rel (M0 W) R0 X v ∧ Sl noHeap f32 X xs ∧ xs.length ≤ 9223372036854775807 :=
  trod_slice_av f32 ht hc (fun n u y hu => by
    obtain ⟨b, hb⟩ := trod_float_av he hu
    cases hb
    exact ⟨canon .f32 b, .float _ _ _ rfl⟩) h
theorem trod_ints_av {e : TypeId} {k : IntKind} (ht : P.underlying t = some (.slice e)) (he : P.underlying e = some (.int k)) (hc : P.cellsOf e = 1) (h : DataW.trod enc P W base spare held fuel t cs = some x) :
    ∃ (v : Value) (X : AV) (xs : List Int), cs = [v] ∧ Rel (M0 W) R0 X v ∧ Sl noHeap (AV.int k) X xs ∧ xs.length ≤ 9223372036854775807 :=
  trod_slice_av (AV.int k) ht hc (fun n u y hu => by
    obtain ⟨m, hm, _⟩ := DataW.trod_int he hu
    cases hm
    exact ⟨m, .int _ _⟩) h

/-- A field of a struct that came in. -/
theorem trod_field {fs : Array Field} (ht : P.underlying t = some (.struct fs)) (h : DataW.trod enc P W base spare held fuel t cs = some x) (i : Nat) {f : Field} (hf : fs[i]? = some f) :
    ∃ n y, DataW.trod enc P W base spare held n f.type ((cs.drop f.offset).take (P.cellsOf f.type)) = some y := by
  obtain ⟨xs, n, _, _, _, hlen, hx⟩ := DataW.trod_struct ht h
  have hi : i < fs.size := (Array.getElem?_eq_some_iff.1 hf).1
  exact ⟨n, xs[i]'(by omega), by rw [hx i f hf, List.getElem?_eq_getElem (by omega)]⟩
end

/-! the end -/
theorem trodAll_below {H : Type} {enc : TypeId × Value → H} {P : Program} (hl : laidOutB P = true) {W W' : World} (hb : Below W.heap.size W W') : ∀ (ts : List TypeId) (vs : List Value) (ds : List (DataW H)) (ps : List MemPlace),
    (∀ t ∈ ts, P.readableRec t = true ∧ t < P.types.size) → DataW.TrodAll enc P W 0 (fun _ => true) true ts vs ds ps → (∀ x ∈ ps, x.block < W.heap.size) → DataW.TrodAll enc P W' 0 (fun b => decide (b < W.heap.size)) true ts vs ds ps
  | [], [], [], ps, _, h, _ => h
  | t :: ts, v :: vs, d :: ds, ps, ht, h, hp => by
    obtain ⟨p, q, h1, h2, rfl⟩ := h
    have h3 := ht t (by simp)
    exact ⟨p, q, Below.trod hl h3.1 h3.2 h1 hb (fun x hx => hp x (by simp [hx])), trodAll_below hl hb ts vs ds q (fun t h => ht t (by simp [h])) h2 (fun x hx => hp x (by simp [hx])), rfl⟩
  | [], _ :: _, _, _, _, h, _ => h.elim
  | [], [], _ :: _, _, _, h, _ => h.elim
  | _ :: _, [], _, _, _, h, _ => h.elim
  | _ :: _, _ :: _, [], _, _, h, _ => h.elim

/-- A law that answers true, and leaves memory below as it was. -/
theorem law_post {H : Type} {enc : TypeId × Value → H} {P : Program} {fn : Func} {s : ChangeSpec} {apart fresh handsOn : Bool} {W W' : World} {args : Array Value} {ds gs : List (DataW H)} {before : List MemPlace} {tb : TypeId}
    (hl : laidOutB P = true) (hW : DataW.Whole enc P fn.params.toList s.vars apart W args.toList ds gs before) (hb : Below W.heap.size W W')
    (ht : ∀ t ∈ fn.params.toList, P.readableRec t = true ∧ t < P.types.size) (hv : s.vars = []) (hr : fn.resultTypes.toList = [tb]) (htb : P.underlying tb = some .bool)
    (hs : (s.fn H (ds ++ gs)).results = [.lit (.bool true)] ∧ (s.fn H (ds ++ gs)).args = ds ∧ (s.fn H (ds ++ gs)).vars = []) :
    s.post enc P fn apart fresh handsOn false W args (.bool true) W' := by
  have hlt : ∀ x ∈ before, x.block < W.heap.size := fun x hx => hW.lt x hx
  have hW0 := hW
  obtain ⟨p, q, hA, hV, rfl, _, _⟩ := hW
  have hq : q = [] := by
    rw [hv] at hV
    cases gs with
    | nil => exact hV
    | cons _ _ => exact hV.elim
  subst hq
  have hsz : fn.resultTypes.size = 1 := by
    have := congrArg List.length hr
    simpa using this
  refine ⟨ds, gs, p ++ [], [], p, [], hW0, ?_, ?_, ?_, hb.frame _, fun h => by cases h⟩
  · rw [hs.1, hr]
    have hrl : (Value.bool true).resultList fn.resultTypes.size = [.bool true] := by rw [hsz]; rfl
    rw [hrl]
    exact trodAll_mk1 (shut_bool htb true)
  · rw [hs.2.1]
    exact trodAll_below hl hb _ _ _ _ ht hA (fun x hx => hlt x (by simp [hx]))
  · rw [hs.2.2, hv]; rfl

theorem calls_of_acalls {P : Program} {f : FuncId} {fn : Func} (hf : P.funcs[f]? = some fn) (hb : (fn.body.isSome && !(fn.name == "runtime.NumGoroutine")) = true) {xs : List AV} {args : Array Value} {W : World}
    (h : ACalls P f xs noHeap fun v _ => v = .bool true) (hr : RelL (M0 W) R0 xs args) : Calls P f args W fun e w' => e = .returned (.bool true) ∧ Below W.heap.size W w' := by
  refine (Calls.of_invokes hf hb (h _ _ W args (St.start W) hr)).mono ?_
  rintro e w' ⟨v, rfl, v', M', ρ', H', he, hs, hr, rfl⟩
  exact ⟨by rw [hr.bool_inv], Below.of_ext he hs⟩
end Go.Ab
