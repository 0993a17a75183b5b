/- Operations on memory: what they give on abstract values and heaps, and that the model agrees. -/
import Derived.Test.YtdfoobfofjbjiaaAbPure
import Derived.Laws.Cells
set_option linter.unusedSimpArgs false
set_option linter.unusedVariables false
namespace Go.Ab

def tAgg (P : Program) (t : TypeId) : Option Bool :=
  match P.underlying t with
  | some (.struct _) | some (.array _ _) => some true
  | some _ => some false
  | none => none
def tSize (P : Program) (t : TypeId) : Option Nat := (P.info? t).map (·.size)
def tBytes (P : Program) (t : TypeId) : Option Nat := (P.info? t).map (·.bytes)
def tZero (P : Program) (t : TypeId) : Option Value := (P.info? t).bind (·.zero)
def tElem (P : Program) (t : TypeId) : Option TypeId := match P.underlying t with | some (.slice e) => some e | _ => none
def tArr (P : Program) (t : TypeId) : Option (Nat × TypeId) := match P.underlying t with | some (.array n e) => some (n, e) | _ => none
/-- A field's place and type, if it takes room. -/
def tField (P : Program) (t : TypeId) (f : Nat) : Option (Nat × TypeId) :=
  match P.underlying t with
  | some (.struct fs) => match fs[f]? with
    | some x => match tSize P x.type with
      | some (_ + 1) => some (x.offset, x.type)
      | _ => none
    | none => none
  | _ => none

section types
variable {P : Program} {w : World} {t : TypeId}
theorem run_isAgg {b : Bool} (h : tAgg P t = some b) : (isAgg t).run P w = .ok b w := by
  unfold tAgg at h
  split at h
  · rename_i hu; cases h; simp [isAgg, run_underlying hu]
  · rename_i hu; cases h; simp [isAgg, run_underlying hu]
  · rename_i d h1 h2 hu; cases h
    simp only [isAgg, Sem.run_bind, run_underlying hu, Result.andThen_ok]
    cases d <;> first | rfl | (exact absurd hu (h1 _)) | (exact absurd hu (h2 _ _))
  · cases h
theorem run_sizeOf {n : Nat} (h : tSize P t = some n) : (sizeOf t).run P w = .ok n w := by
  unfold tSize at h
  cases hi : P.info? t with
  | none => simp [hi] at h
  | some i => simp [hi] at h; simp [sizeOf, typeInfo, hi, h]
theorem run_zeroValue {v : Value} (h : tZero P t = some v) : (zeroValue t).run P w = .ok v w := by
  unfold tZero at h
  cases hi : P.info? t with
  | none => simp [hi] at h
  | some i => simp [hi] at h; simp [zeroValue, typeInfo, hi, h]
theorem tElem_spec {e : TypeId} (h : tElem P t = some e) : P.underlying t = some (.slice e) := by
  unfold tElem at h; split at h
  · cases h; assumption
  · cases h
theorem tArr_spec {n : Nat} {e : TypeId} (h : tArr P t = some (n, e)) : P.underlying t = some (.array n e) := by
  unfold tArr at h; split at h
  · cases h; assumption
  · cases h
end types

def AV.ofS : Value → AV
  | .bool b => .bool b
  | .int k n => .int k n
  | .float k b => .float k (canon k b)
  | .complex k a b => .complex k (canon k a) (canon k b)
  | .string s => .string s.data.toList
  | .pointer none => .nilptr
  | .slice none 0 0 => .nilslice
  | .map none => .nilmap
  | .nilFunc => .nilfunc
  | .nilIface => .nilface
  | .func fn ⟨[]⟩ ⟨[]⟩ => .func fn [] []
  | _ => .junk
def AV.ofV : Value → AV
  | .agg cs => .agg (cs.toList.map AV.ofS)
  | .tuple cs => .tuple (cs.toList.map AV.ofS)
  | v => .ofS v

def AV.cells : AV → Option (List AV)
  | .agg cs => some cs
  | .tuple _ | .junk => none
  | x => some [x]
/-- What may lie in one cell. -/
def AV.one : AV → Bool
  | .agg _ | .tuple _ | .junk => false
  | _ => true

section values
variable {M : Imm} {ρ : Locs}
theorem Rel.ofS (v : Value) : Rel M ρ (AV.ofS v) v := by
  unfold AV.ofS
  split
  · exact .bool _
  · exact .int _ _
  · exact .float _ _ _ rfl
  · exact .complex _ _ _ _ _ rfl rfl
  · rename_i s
    have := Rel.string (M := M) (ρ := ρ) s.data.toList
    simpa using this
  · exact .nilptr
  · exact .nilslice
  · exact .nilmap
  · exact .nilfunc
  · exact .nilface
  · exact .func _ [] [] #[] #[] rfl rfl (fun j h => by simp at h) (fun j h => by simp at h)
  · exact .junk _
theorem RelL.ofS (cs : Array Value) : RelL M ρ (cs.toList.map AV.ofS) cs := by
  refine ⟨by simp, fun j h1 h2 => ?_⟩
  simp only [List.getElem_map, Array.getElem_toList]
  exact Rel.ofS _
theorem Rel.ofV (v : Value) : Rel M ρ (AV.ofV v) v := by
  unfold AV.ofV
  split
  · rename_i cs
    have h := RelL.ofS (M := M) (ρ := ρ) cs
    exact .agg _ _ h.1 h.2
  · rename_i cs
    have h := RelL.ofS (M := M) (ρ := ρ) cs
    exact .tuple _ _ h.1 h.2
  · exact Rel.ofS _
theorem RelL.one {x : AV} {v : Value} (h : Rel M ρ x v) : RelL M ρ [x] #[v] := by
  refine ⟨rfl, fun j h1 h2 => ?_⟩
  have : j = 0 := by simp at h1; exact h1
  subst this; exact h
theorem Rel.cells {x : AV} {v : Value} {xs : List AV} (h : Rel M ρ x v) (hc : x.cells = some xs) : RelL M ρ xs v.cells := by
  cases h <;> simp only [AV.cells] at hc <;> first
    | (cases hc; done)
    | (cases hc; exact RelL.one (by first | assumption | (constructor <;> assumption) | constructor))
    | (cases hc; exact ⟨by assumption, by assumption⟩)
theorem Rel.oneCell {x : AV} {v : Value} (h : Rel M ρ x v) (hc : x.one = true) : v.oneCell' = true := by
  cases h <;> simp only [AV.one] at hc <;> first | (cases hc; done) | rfl
theorem Rel.agg_inv {xs : List AV} {v : Value} (h : Rel M ρ (.agg xs) v) : ∃ cs, v = .agg cs ∧ RelL M ρ xs cs := by
  cases h; exact ⟨_, rfl, by assumption, by assumption⟩
theorem Rel.tuple_inv {xs : List AV} {v : Value} (h : Rel M ρ (.tuple xs) v) : ∃ cs, v = .tuple cs ∧ RelL M ρ xs cs := by
  cases h; exact ⟨_, rfl, by assumption, by assumption⟩
theorem Rel.int_inv {k : IntKind} {n : Int} {v : Value} (h : Rel M ρ (.int k n) v) : v = .int k n := by cases h; rfl
theorem Rel.bool_inv {b : Bool} {v : Value} (h : Rel M ρ (.bool b) v) : v = .bool b := by cases h; rfl
theorem Rel.string_inv {s : List UInt8} {v : Value} (h : Rel M ρ (.string s) v) : v = .string ⟨s.toArray⟩ := by cases h; rfl
theorem Rel.float_inv {k : FloatKind} {b : Nat} {v : Value} (h : Rel M ρ (.float k b) v) : ∃ b', v = .float k b' ∧ canon k b' = b := by cases h; exact ⟨_, rfl, by assumption⟩
end values

def Does (P : Program) (M : Imm) (ρ : Locs) (w : World) (s : Sem Value) (v : AV) (H' : AHeap) : Prop :=
  ∃ v' w' M' ρ', s.run P w = .ok v' w' ∧ Ext M ρ w M' ρ' w' ∧ St M' ρ' H' w' ∧ Rel M' ρ' v v'

section ops
variable {P : Program} {M : Imm} {ρ : Locs} {H : AHeap} {w : World}

theorem Does.of_gives {s : Sem Value} {v : AV} (hs : St M ρ H w) (h : Gives P M ρ w s v) : Does P M ρ w s v H := by
  obtain ⟨v', n, h1, h2⟩ := h
  exact ⟨v', _, M, ρ, h1, .drew n, hs.drew n, h2⟩

/-! unary operators -/
def aUn (op : UnOp) : AV → Option AV
  | .int k n => match op with
    | .neg => some (.int k (k.wrap (0 - n)))
    | .xor => some (.int k (bits .xor k (if k.signed then -1 else k.max) n))
    | _ => none
  | .float k b => match op with | .neg => some (.float k (negF k b)) | _ => none
  | .complex k a b => match op with | .neg => some (.complex k (negF k a) (negF k b)) | _ => none
  | .bool b => match op with | .not => some (.bool !b) | _ => none
  | _ => none
theorem aUn_gives {op : UnOp} {x v : AV} {x' : Value} (h : aUn op x = some v) (hx : Rel M ρ x x') : Gives P M ρ w (Op.unary op x') v := by
  unfold aUn at h
  split at h
  · cases hx
    split at h
    · cases h; exact .pure w (.int _ _)
    · cases h; exact ⟨_, w.drawn, by simp [Op.unary, Op.intBits, bits], .int _ _⟩
    · cases h
  · cases hx; rename_i hc
    subst hc
    split at h
    · cases h; exact ⟨_, w.drawn, rfl, .float _ _ _ (negF_canon ..).symm⟩
    · cases h
  · cases hx; rename_i h1 h2
    subst h1 h2
    split at h
    · cases h; exact ⟨_, w.drawn, rfl, .complex _ _ _ _ _ (negF_canon ..).symm (negF_canon ..).symm⟩
    · cases h
  · cases hx
    split at h
    · cases h; exact .pure w (.bool _)
    · cases h
  · cases h

/-! conversions of values -/
def floatToF (src : FloatKind) (b : Nat) (dst : FloatKind) : Option Nat :=
  if src = dst then some b else
  match src.decode b with
  | .nan _ _ => some (nanOf dst)
  | .infinity s => some (canon dst (dst.encode (.infinity s)))
  | .number s m e => if (dst.decode (dst.encode (.number s m e))).isInfinity then none else some (canon dst (dst.encode (.number s m e)))
def aConv (P : Program) (src dst : TypeId) (x : AV) : Option AV :=
  if (P.underlying src).isSome then
    match P.underlying dst, x with
    | some (.int k), .int _ n => some (.int k (k.wrap n))
    | some (.float k), .int _ n => some (.float k (ofIntF k n))
    | some (.int k), .float s b => match (s.decode b).toInt .zero with
      | some n => if k.min ≤ n ∧ n ≤ k.max then some (.int k n) else none
      | none => none
    | some (.float k), .float s b => (floatToF s b k).map (.float k)
    | some (.complex k), .complex s a b => if s = k then some (.complex k a b) else none
    | some .string, .string s => some (.string s)
    | _, _ => none
  else none

theorem toInt_canon (k : FloatKind) (b : Nat) (way : Ieee.Toward) : (k.decode (canon k b)).toInt way = (k.decode b).toInt way :=
  canon1 (fun d => d.toInt way) (fun _ _ => rfl) k b
theorem floatToF_gives {s k : FloatKind} {b b' r : Nat} (hb : canon s b' = b) (h : floatToF s b k = some r) : Gives P M ρ w (Conv.floatToFloat s b' k) (.float k r) := by
  unfold floatToF at h
  unfold Conv.floatToFloat
  split at h
  · rename_i e; subst e; cases h; exact ⟨_, w.drawn, by simp, .float _ _ _ hb⟩
  · rename_i ne
    rw [if_neg ne]
    cases hn : (s.format.read b').isNaN
    · rw [canon_num hn] at hb; subst hb
      split at h
      · rename_i e; rw [show s.format.read b' = s.decode b' from rfl, e] at hn; cases hn
      · rename_i e; cases h; simp only [e]; exact .pure w (.float _ _ _ rfl)
      · rename_i e
        split at h
        · cases h
        · rename_i hi; cases h; simp only [e]; rw [if_neg hi]; exact .pure w (.float _ _ _ rfl)
    · obtain ⟨q, f, e⟩ := Datum.nan_of hn
      obtain ⟨q', f', e'⟩ := Datum.nan_of (read_nanOf s)
      rw [canon_nan hn] at hb; subst hb
      simp only [show s.decode (nanOf s) = s.format.read (nanOf s) from rfl, e'] at h
      cases h
      simp only [show s.decode b' = s.format.read b' from rfl, e]
      exact ⟨.float k ((Question.nanConv k b').cut (w.tape w.drawn (.nanConv k b'))), w.drawn + 1, by simp [run_choose, Question.forced], .float _ _ _ (cut_nanConv ..)⟩

theorem aConv_gives {src dst : TypeId} {x v : AV} {x' : Value} (h : aConv P src dst x = some v) (hx : Rel M ρ x x') : Gives P M ρ w (convert src dst x') v := by
  unfold aConv at h
  split at h
  · rename_i hs
    obtain ⟨d, hd⟩ := Option.isSome_iff_exists.1 hs
    split at h
    · rename_i hu; cases hx; cases h
      exact ⟨_, w.drawn, by simp [convert, run_underlying hd, run_underlying hu, Conv.intToInt], .int _ _⟩
    · rename_i hu; cases hx; cases h
      exact ⟨_, w.drawn, by simp [convert, run_underlying hd, run_underlying hu, Conv.intToFloat], .float _ _ _ rfl⟩
    · rename_i k s b hu; obtain ⟨b', rfl, hc⟩ := hx.float_inv
      rw [← hc, toInt_canon] at h
      split at h
      · rename_i n hn
        split at h
        · rename_i hr; cases h
          exact ⟨_, w.drawn, by cases d <;> simp [convert, run_underlying hd, run_underlying hu, Conv.floatToInt, hn, hr], .int _ _⟩
        · cases h
      · cases h
    · rename_i k s b hu; obtain ⟨b', rfl, hc⟩ := hx.float_inv
      cases hf : floatToF s b k with
      | none => simp [hf] at h
      | some r =>
        simp [hf] at h; subst h
        obtain ⟨v', n, h1, h2⟩ := floatToF_gives (P := P) (M := M) (ρ := ρ) (w := w) hc hf
        exact ⟨v', n, by cases d <;> simp [convert, run_underlying hd, run_underlying hu, h1], h2⟩
    · rename_i k s a b hu
      split at h
      · rename_i e; subst e; cases h
        cases hx
        rename_i a' b' h1 h2
        exact ⟨.complex s a' b', w.drawn, by cases d <;> simp [convert, run_underlying hd, run_underlying hu, Conv.complexToComplex, Conv.floatToFloat], .complex _ _ _ _ _ h1 h2⟩
      · cases h
    · rename_i hu; cases hx; cases h
      exact ⟨_, w.drawn, by cases d <;> simp [convert, run_underlying hd, run_underlying hu], .string _⟩
    · cases h
  · cases h

/-! reading -/
def ptrCells (H : AHeap) : AV → Option (List AV × Nat)
  | .ptrI xs off => some (xs, off)
  | .ptrR id off => match H id with
    | some (.cells xs) => some (xs, off)
    | _ => none
  | _ => none

theorem cell_of_heap {b o : Nat} {cs : Array Value} {t : TypeId} {fz : Nat × Nat} (h : w.heap[b]? = some (.cells cs t fz)) : w.cell? ⟨b, o, none⟩ = cs[o]? := by
  simp [World.cell?, h]

theorem ptrCells_spec (hs : St M ρ H w) {p : AV} {p' : Value} (hp : Rel M ρ p p') {xs : List AV} {off : Nat} (h : ptrCells H p = some (xs, off)) :
    ∃ b base, p' = .pointer (some ⟨b, base + off, none⟩) ∧ ∀ j x, xs[j]? = some x → ∃ v, w.cell? ⟨b, base + j, none⟩ = some v ∧ Rel M ρ x v := by
  unfold ptrCells at h
  split at h
  · cases h
    cases hp
    rename_i b base cs t fz hM hl hr
    refine ⟨b, base, rfl, fun j x hj => ?_⟩
    obtain ⟨hlt, rfl⟩ := List.getElem?_eq_some_iff.1 hj
    have h2 : base + j < cs.size := by omega
    exact ⟨cs[base + j], by rw [cell_of_heap (hs.imm _ _ hM)]; exact Array.getElem?_eq_getElem h2, hr j hlt h2⟩
  · split at h
    · rename_i ys hid
      cases h
      cases hp
      rename_i l hρ
      obtain ⟨l', o, h1, h2, h3, h4⟩ := hs.own _ _ hid
      rw [hρ] at h1; cases h1
      obtain ⟨cs, t, fz, rfl, _, hsz, hl, hr⟩ := h4
      refine ⟨l.block, l.base, rfl, fun j x hj => ?_⟩
      obtain ⟨hlt, rfl⟩ := List.getElem?_eq_some_iff.1 hj
      have hj2 : l.base + j < cs.size := by omega
      exact ⟨cs[l.base + j], by rw [cell_of_heap h3]; exact Array.getElem?_eq_getElem hj2, hr j hlt hj2⟩
    · cases h
  · cases h

theorem Addr.add_none (b o n : Nat) : Addr.add ⟨b, o, none⟩ n = ⟨b, o + n, none⟩ := by
  unfold Addr.add
  split
  · rename_i e; subst e; rfl
  · rfl

theorem World.cell_heap {w w' : World} (h : w'.heap = w.heap) (a : Addr) : w'.cell? a = w.cell? a := by simp only [World.cell?, h]

theorem loadCells_spec {b base off n : Nat} {xs : List AV} (hc : ∀ j x, xs[j]? = some x → ∃ v, w.cell? ⟨b, base + j, none⟩ = some v ∧ Rel M ρ x v) (hn : off + n ≤ xs.length) :
    ∃ cs, (∀ w' : World, w'.heap = w.heap → (loadCells ⟨b, base + off, none⟩ n).run P w' = .ok cs w') ∧ RelL M ρ ((xs.drop off).take n) cs := by
  have hcell : ∀ j, j < n → ∃ v, w.cell? ⟨b, base + off + j, none⟩ = some v ∧ ∀ h, Rel M ρ (xs[off + j]'h) v := by
    intro j hj
    have hlt : off + j < xs.length := by omega
    obtain ⟨v, h1, h2⟩ := hc (off + j) _ (List.getElem?_eq_getElem hlt)
    exact ⟨v, by rw [Nat.add_assoc]; exact h1, fun _ => h2⟩
  have hrun := fun (w' : World) (hw' : w'.heap = w.heap) => run_loadCells (P := P) w' ⟨b, base + off, none⟩ n (fun j => (w.cell? ⟨b, base + off + j, none⟩).getD undef) (fun j hj => by
    obtain ⟨v, h1, _⟩ := hcell j hj
    rw [Addr.add_none, World.cell_heap hw', h1]; rfl)
  refine ⟨_, hrun, by simp; omega, fun j h1 h2 => ?_⟩
  simp at h1
  obtain ⟨v, h3, h4⟩ := hcell j (by omega)
  simp only [List.getElem_take, List.getElem_drop, List.getElem_toArray, List.getElem_map, List.getElem_range, h3, Option.getD_some]
  exact h4 _

def aLoad (P : Program) (t : TypeId) (p : AV) (H : AHeap) : Option AV :=
  match ptrCells H p, tAgg P t with
  | some (xs, off), some false => xs[off]?
  | some (xs, off), some true => match tSize P t with
    | some n => if off + n ≤ xs.length then some (.agg ((xs.drop off).take n)) else none
    | none => none
  | _, _ => none

theorem run_loadVar (hs : St M ρ H w) {t : TypeId} {p v : AV} {p' : Value} (h : aLoad P t p H = some v) (hp : Rel M ρ p p') :
    ∃ a v', p' = .pointer (some a) ∧ (loadVar t a).run P w = .ok v' w ∧ Rel M ρ v v' := by
  unfold aLoad at h
  split at h
  · rename_i xs off hc ha
    obtain ⟨b, base, rfl, hcell⟩ := ptrCells_spec hs hp hc
    obtain ⟨x, h1, h2⟩ := hcell _ _ h
    exact ⟨_, x, rfl, by simp [loadVar, run_isAgg ha, h1], h2⟩
  · rename_i xs off hc ha
    obtain ⟨b, base, rfl, hcell⟩ := ptrCells_spec hs hp hc
    split at h
    · rename_i n hn
      split at h
      · rename_i hle; cases h
        obtain ⟨cs, h1, h2⟩ := loadCells_spec (P := P) hcell hle
        have h1 := h1 w rfl
        exact ⟨_, .agg cs, rfl, by simp [loadVar, run_isAgg ha, run_sizeOf hn, h1], .agg _ _ h2.1 h2.2⟩
      · cases h
    · cases h
  · cases h
theorem aLoad_gives (hs : St M ρ H w) {t : TypeId} {p v : AV} {p' : Value} (h : aLoad P t p H = some v) (hp : Rel M ρ p p') : Gives P M ρ w (Instr.loadAt t p') v := by
  obtain ⟨a, v', rfl, h1, h2⟩ := run_loadVar hs h hp
  exact ⟨v', w.drawn, by simp [Instr.loadAt, Instr.sureAddr, h1], h2⟩

/-! writing -/
def putAt : List AV → Nat → List AV → List AV
  | xs, _, [] => xs
  | xs, off, v :: vs => putAt (xs.set off v) (off + 1) vs
@[simp] theorem putAt_length (vs : List AV) : ∀ (xs : List AV) (off : Nat), (putAt xs off vs).length = xs.length := by
  induction vs with
  | nil => intro xs off; rfl
  | cons v vs ih => intro xs off; simp [putAt, ih]

def allOne (vs : List AV) : Bool := vs.all AV.one

/-- Some cells of an owned block are written, one after another. -/
theorem storeCells_spec {id : Nat} (vs : List AV) : ∀ (ws : List Value) (xs : List AV) (i : Nat) (H : AHeap) (w : World) (l : Loc) (off : Nat),
    St M ρ H w → H id = some (.cells xs) → ρ id = some l → off + i + vs.length ≤ xs.length → vs.length = ws.length → allOne vs = true →
    (∀ (j : Nat) (x : AV) (v : Value), vs[j]? = some x → ws[j]? = some v → Rel M ρ x v) →
    ∃ w', (storeCells ⟨l.block, l.base + off, none⟩ ws i).run P w = .ok () w' ∧ Ext M ρ w M ρ w' ∧ St M ρ (H.set id (some (.cells (putAt xs (off + i) vs)))) w' := by
  induction vs with
  | nil =>
    intro ws xs i H w l off hs hH hρ hl hlen ho hr
    have : ws = [] := by cases ws <;> simp_all
    subst this
    refine ⟨w, by simp [storeCells], .refl .., ?_⟩
    rw [putAt, AHeap.set_eq _ hH]; exact hs
  | cons x vs ih =>
    intro ws xs i H w l off hs hH hρ hl hlen ho hr
    cases ws with
    | nil => simp at hlen
    | cons v ws =>
      simp only [List.length_cons] at hl hlen
      obtain ⟨l', o, h1, h2, h3, h4⟩ := hs.own _ _ hH
      rw [hρ] at h1; cases h1
      obtain ⟨cs, t, fz, rfl, hfz, hsz, hlx, hrx⟩ := h4
      have hxv : Rel M ρ x v := hr 0 x v rfl rfl
      simp only [allOne, List.all_cons, Bool.and_eq_true] at ho
      have hin : l.base + off + i < cs.size := by omega
      have hcell : w.cell? ⟨l.block, l.base + off + i, none⟩ = some cs[l.base + off + i] := by rw [cell_of_heap h3]; exact Array.getElem?_eq_getElem hin
      have hfroz : w.frozen? ⟨l.block, l.base + off + i, none⟩ = false := by
        simp only [World.frozen?, h3]
        rcases hfz with hfz | hfz <;> simp <;> omega
      have hst : (store (Addr.add ⟨l.block, l.base + off, none⟩ i) v).run P w = .ok () (w.setCell ⟨l.block, l.base + off + i, none⟩ v) := by
        rw [Addr.add_none, run_store P w _ v _ (hxv.oneCell ho.1), hcell]
        simp [hfroz]
      have hblk : BlkOK M ρ l (.cells (xs.set (off + i) x)) (.cells (cs.setIfInBounds (l.base + off + i) v) t fz) := by
        refine ⟨_, t, fz, rfl, by simpa using hfz, by simpa using hsz, by simpa using hlx, fun j h1 h2 => ?_⟩
        by_cases e : off + i = j
        · subst e
          have h5 : (cs.setIfInBounds (l.base + off + i) v)[l.base + (off + i)]? = some v := by
            rw [show l.base + (off + i) = l.base + off + i from by omega]; exact Array.getElem?_setIfInBounds_self_of_lt hin
          rw [Array.getElem?_eq_getElem h2] at h5
          rw [Option.some.inj h5, List.getElem_set_self]; exact hxv
        · have h2' : l.base + j < cs.size := by simpa using h2
          have h5 : (cs.setIfInBounds (l.base + off + i) v)[l.base + j]? = some cs[l.base + j] := by
            rw [Array.getElem?_setIfInBounds_ne (by omega)]; exact Array.getElem?_eq_getElem h2'
          rw [Array.getElem?_eq_getElem h2] at h5
          rw [Option.some.inj h5, List.getElem_set_ne e]
          exact hrx j (by simpa using h1) h2'
      have hheap : (w.setCell ⟨l.block, l.base + off + i, none⟩ v).heap = w.heap.setIfInBounds l.block (.cells (cs.setIfInBounds (l.base + off + i) v) t fz) := by
        apply Array.ext_getElem?
        intro k
        simp only [World.setCell, Array.getElem?_modify, Array.getElem?_setIfInBounds]
        by_cases e : l.block = k
        · subst e
          have hlt := (Array.getElem?_eq_some_iff.1 h3).1
          rw [if_pos rfl, if_pos rfl, if_pos hlt, h3]; rfl
        · simp [e]
      obtain ⟨hs', he'⟩ := hs.write hH hρ _ hblk hheap rfl rfl rfl
      obtain ⟨w', hrun, he'', hs''⟩ := ih ws (xs.set (off + i) x) (i + 1) _ _ l off hs' (AHeap.set_same ..) hρ (by simp; omega) (by omega) ho.2
        (fun j y u hy hu => hr (j + 1) y u (by simpa using hy) (by simpa using hu))
      refine ⟨w', by simp only [storeCells, Sem.run_bind, hst, Result.andThen_ok]; exact hrun, he'.trans he'', ?_⟩
      rw [AHeap.set_set] at hs''
      exact hs''

def aStore (P : Program) (t : TypeId) (p v : AV) (H : AHeap) : Option AHeap :=
  match p, v.cells, tSize P t with
  | .ptrR id off, some vs, some n => match H id with
    | some (.cells xs) => if vs.length = n ∧ off + n ≤ xs.length ∧ allOne vs then some (H.set id (some (.cells (putAt xs off vs)))) else none
    | _ => none
  | _, _, _ => none

theorem aStore_does (hs : St M ρ H w) {t : TypeId} {p v : AV} {p' v' : Value} {H' : AHeap} (h : aStore P t p v H = some H') (hp : Rel M ρ p p') (hv : Rel M ρ v v') :
    ∃ w', (Instr.storeAt t p' v').run P w = .ok () w' ∧ Ext M ρ w M ρ w' ∧ St M ρ H' w' := by
  unfold aStore at h
  split at h
  · rename_i id off vs n hc hn
    split at h
    · rename_i xs hid
      split at h
      · rename_i hh; cases h
        cases hp; rename_i l hρ
        have hrl := hv.cells hc
        obtain ⟨w', h1, h2, h3⟩ := storeCells_spec (P := P) (id := id) vs v'.cells.toList xs 0 H w l off hs hid hρ (by omega) (by simp [hrl.1]) hh.2.2 (fun j x u hx hu => by
          obtain ⟨u', hu', hr⟩ := hrl.get hx
          simp at hu; rw [hu] at hu'; cases hu'; exact hr)
        refine ⟨w', ?_, h2, by simpa using h3⟩
        have hsz : v'.cells.size = n := by rw [hrl.1]; exact hh.1
        simp only [Instr.storeAt, Instr.sureAddr, Sem.run_bind, Sem.run_pure, Result.andThen_ok, storeVar, run_sizeOf hn, hsz, ne_eq, not_true_eq_false, if_false]
        exact h1
      · cases h
    · cases h
  · cases h
end ops
end Go.Ab
