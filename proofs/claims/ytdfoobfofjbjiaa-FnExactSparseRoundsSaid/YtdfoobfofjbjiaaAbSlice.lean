/- Addresses, slices, append and copy on abstract values, and that the model agrees. -/
import Derived.Test.YtdfoobfofjbjiaaAbMem
set_option linter.unusedSimpArgs false
set_option linter.unusedVariables false
namespace Go.Ab

section ops
variable {P : Program} {M : Imm} {ρ : Locs} {H : AHeap} {w : World}

/-! fields -/
def aFieldAddr (P : Program) (t : TypeId) (x : AV) (f : Nat) : Option AV :=
  match tField P t f, x with
  | some (o, _), .ptrI xs off => some (.ptrI xs (off + o))
  | some (o, _), .ptrR id off => some (.ptrR id (off + o))
  | _, _ => none

theorem tField_spec {t : TypeId} {f o : Nat} {ft : TypeId} (h : tField P t f = some (o, ft)) :
    ∃ fs x n, P.underlying t = some (.struct fs) ∧ fs[f]? = some x ∧ x.offset = o ∧ x.type = ft ∧ tSize P ft = some (n + 1) := by
  unfold tField at h
  split at h
  · rename_i fs hu
    split at h
    · rename_i x hx
      split at h
      · rename_i n hn; cases h
        exact ⟨fs, x, n, hu, hx, rfl, rfl, hn⟩
      · cases h
    · cases h
  · cases h

theorem aFieldAddr_gives {t : TypeId} {f : Nat} {x v : AV} {x' : Value} (h : aFieldAddr P t x f = some v) (hx : Rel M ρ x x') : Gives P M ρ w (Instr.fieldAt t x' f) v := by
  unfold aFieldAddr at h
  have key : ∀ b o off ft, tField P t f = some (off, ft) → (Instr.fieldAt t (.pointer (some ⟨b, o, none⟩)) f).run P w = .ok (.pointer (some ⟨b, o + off, none⟩)) w := by
    intro b o off ft hf
    obtain ⟨fs, x, n, hu, hx, rfl, rfl, hn⟩ := tField_spec hf
    simp [Instr.fieldAt, run_underlying hu, hx, Instr.sureAddr, fieldPlace, run_sizeOf hn, Addr.add_none]
  split at h
  · rename_i o ft xs off hf
    cases h
    cases hx
    rename_i b base cs t' fz hM hl hr
    refine ⟨_, w.drawn, key _ _ _ _ hf, ?_⟩
    rw [Nat.add_assoc]
    exact .ptrI xs (off + o) b base cs t' fz hM hl hr
  · rename_i o ft id off hf
    cases h
    cases hx
    rename_i l hρ
    refine ⟨_, w.drawn, key _ _ _ _ hf, ?_⟩
    rw [Nat.add_assoc]
    exact .ptrR id (off + o) l hρ
  · cases h

def aPart (P : Program) (t : TypeId) (cs : List AV) (off : Nat) : Option AV :=
  match tAgg P t with
  | some false => cs[off]?
  | some true => match tSize P t with
    | some n => if off + n ≤ cs.length then some (.agg ((cs.drop off).take n)) else none
    | none => none
  | none => none
theorem RelL.extract {xs : List AV} {cs : Array Value} (h : RelL M ρ xs cs) (off n : Nat) (hn : off + n ≤ xs.length) : RelL M ρ ((xs.drop off).take n) (cs.extract off (off + n)) := by
  have := h.1
  refine ⟨by simp; omega, fun j h1 h2 => ?_⟩
  simp only [List.getElem_take, List.getElem_drop, Array.getElem_extract]
  exact h.2 _ _ _
theorem aPart_gives {t : TypeId} {cs : List AV} {cs' : Array Value} {off : Nat} {v : AV} (h : aPart P t cs off = some v) (hr : RelL M ρ cs cs') : Gives P M ρ w (part t cs' off) v := by
  unfold aPart at h
  split at h
  · rename_i ha
    obtain ⟨u, h1, h2⟩ := hr.get h
    exact ⟨u, w.drawn, by simp [part, run_isAgg ha, h1], h2⟩
  · rename_i ha
    split at h
    · rename_i n hn
      split at h
      · rename_i hle; cases h
        have := hr.extract off n hle
        exact ⟨_, w.drawn, by simp [part, run_isAgg ha, run_sizeOf hn], .agg _ _ this.1 this.2⟩
      · cases h
    · cases h
  · cases h
def aField (P : Program) (t : TypeId) (x : AV) (f : Nat) : Option AV :=
  match tField P t f, x with
  | some (o, ft), .agg cs => aPart P ft cs o
  | _, _ => none
theorem aField_gives {t : TypeId} {f : Nat} {x v : AV} {x' : Value} (h : aField P t x f = some v) (hx : Rel M ρ x x') : Gives P M ρ w (Instr.field t x' f) v := by
  unfold aField at h
  split at h
  · rename_i o ft cs hf
    obtain ⟨cs', rfl, hr⟩ := hx.agg_inv
    obtain ⟨fs, x, n, hu, hx, rfl, rfl, hn⟩ := tField_spec hf
    obtain ⟨v', n', h1, h2⟩ := aPart_gives (w := w) h hr
    exact ⟨v', n', by simp [Instr.field, run_underlying hu, hx, asAgg, h1], h2⟩
  · cases h

/-! indexes -/
def aIndexAddr (P : Program) (t : TypeId) (x i : AV) : Option AV :=
  match i with
  | .int _ n =>
    match tElem P t with
    | some e => match tSize P e with
      | some (es + 1) => match x with
        | .sliceI xs len _ => if 0 ≤ n ∧ n < len ∧ (n.toNat + 1) * (es + 1) ≤ xs.length then some (.ptrI xs (n.toNat * (es + 1))) else none
        | .sliceR id off len es' _ => if 0 ≤ n ∧ n < len ∧ es' = es + 1 then some (.ptrR id (off + n.toNat * (es + 1))) else none
        | _ => none
      | _ => none
    | none => match tArr P t with
      | some (len, e) => match tSize P e with
        | some es => match x with
          | .ptrI xs off => if 0 ≤ n ∧ n < len then some (.ptrI xs (off + n.toNat * es)) else none
          | .ptrR id off => if 0 ≤ n ∧ n < len then some (.ptrR id (off + n.toNat * es)) else none
          | _ => none
        | _ => none
      | none => none
  | _ => none

theorem aIndexAddr_gives {t : TypeId} {x i v : AV} {x' i' : Value} (h : aIndexAddr P t x i = some v) (hx : Rel M ρ x x') (hi : Rel M ρ i i') : Gives P M ρ w (Instr.indexAt t x' i') v := by
  unfold aIndexAddr at h
  split at h
  case h_2 => cases h
  rename_i k n
  have ei := hi.int_inv; subst ei
  split at h
  · rename_i e he
    have hu := tElem_spec he
    split at h
    case h_2 => cases h
    rename_i es hsz
    have run : ∀ (a : Addr) (len c : Nat), 0 ≤ n ∧ n < len → (Instr.indexAt t (.slice (some a) len c) (.int k n)).run P w = .ok (.pointer (some (a.add (n.toNat * (es + 1))))) w := by
      intro a len c hn
      simp [Instr.indexAt, asIntOf, run_underlying hu, hn, run_sizeOf hsz]
    split at h
    · rename_i xs len ck
      split at h
      · rename_i hh; cases h
        cases hx with
        | sliceN => simp at hh
        | sliceI _ _ c b base _ cs t' fz hc hk hM hl hr =>
          exact ⟨_, w.drawn, by rw [run _ _ _ ⟨hh.1, hh.2.1⟩, Addr.add_none], .ptrI xs _ b base cs t' fz hM hl hr⟩
      · cases h
    · rename_i id off len es' ck
      split at h
      · rename_i hh; cases h
        cases hx with
        | sliceR _ _ _ _ c _ l a hc hk hρ ha hr hn =>
          have hne : c ≠ 0 := by omega
          have ha := ha.resolve_left hne
          subst ha
          refine ⟨_, w.drawn, by rw [run _ _ _ ⟨hh.1, hh.2.1⟩, Addr.add_none], ?_⟩
          rw [Nat.add_assoc]
          exact .ptrR id _ l hρ
      · cases h
    · cases h
  · split at h
    case h_2 => cases h
    rename_i len e ha
    have hu := tArr_spec ha
    split at h
    case h_2 => cases h
    rename_i es hsz
    have run : ∀ (a : Addr), 0 ≤ n ∧ n < len → (Instr.indexAt t (.pointer (some a)) (.int k n)).run P w = .ok (.pointer (some (a.add (n.toNat * es)))) w := by
      intro a hn
      simp [Instr.indexAt, asIntOf, run_underlying hu, hn, Instr.sureAddr, run_sizeOf hsz]
    split at h
    · split at h
      · rename_i hh; cases h
        cases hx
        rename_i b base cs t' fz hM hl hr
        refine ⟨_, w.drawn, by rw [run _ hh, Addr.add_none], ?_⟩
        rw [Nat.add_assoc]
        exact .ptrI _ _ b base cs t' fz hM hl hr
      · cases h
    · split at h
      · rename_i hh; cases h
        cases hx
        rename_i l hρ
        refine ⟨_, w.drawn, by rw [run _ hh, Addr.add_none], ?_⟩
        rw [Nat.add_assoc]
        exact .ptrR _ _ l hρ
      · cases h
    · cases h

def isStringT (P : Program) (t : TypeId) : Bool := match P.underlying t with | some .string => true | _ => false
theorem isStringT_spec {t : TypeId} (h : isStringT P t = true) : P.underlying t = some .string := by
  unfold isStringT at h; split at h
  · assumption
  · cases h
def aIndex (P : Program) (t : TypeId) (x i : AV) : Option AV :=
  match x, i with
  | .string s, .int _ n => if isStringT P t then (if 0 ≤ n then ((s : List UInt8)[n.toNat]?).map fun b => .int .u8 b.toNat else none) else none
  | .agg cs, .int _ n => match tArr P t with
    | some (len, e) => match tSize P e with
      | some es => if 0 ≤ n ∧ n < len then aPart P e cs (n.toNat * es) else none
      | none => none
    | none => none
  | _, _ => none
theorem aIndex_gives {t : TypeId} {x i v : AV} {x' i' : Value} (h : aIndex P t x i = some v) (hx : Rel M ρ x x') (hi : Rel M ρ i i') : Gives P M ρ w (Instr.index t x' i') v := by
  unfold aIndex at h
  split at h
  · rename_i s k n
    have ei := hi.int_inv; subst ei
    have ex := hx.string_inv; subst ex
    split at h
    · rename_i hb
      have hu := isStringT_spec hb
      split at h
      · rename_i h0
        cases hg : (s : List UInt8)[n.toNat]? with
        | none => simp [hg] at h
        | some b =>
          simp [hg] at h; subst h
          have hb' : (⟨s.toArray⟩ : ByteArray)[n.toNat]? = some b := by
            obtain ⟨hlt, e⟩ := List.getElem?_eq_some_iff.1 hg
            have hlt' : n.toNat < (⟨s.toArray⟩ : ByteArray).size := by simpa [ByteArray.size] using hlt
            rw [getElem?_pos (⟨s.toArray⟩ : ByteArray) n.toNat hlt']
            show some (s.toArray[n.toNat]) = _
            simp [e]
          exact ⟨_, w.drawn, by simp [Instr.index, asIntOf, run_underlying hu, h0, hb'], .int _ _⟩
      · cases h
    · cases h
  · rename_i cs k n
    have ei := hi.int_inv; subst ei
    obtain ⟨cs', rfl, hr⟩ := hx.agg_inv
    split at h
    · rename_i len e ha
      have hu := tArr_spec ha
      split at h
      · rename_i es hsz
        split at h
        · rename_i hn
          obtain ⟨v', n', h1, h2⟩ := aPart_gives (w := w) h hr
          exact ⟨v', n', by simp [Instr.index, asIntOf, run_underlying hu, hn, run_sizeOf hsz, h1], h2⟩
        · cases h
      · cases h
    · cases h
  · cases h

/-! slice expressions -/
/-- A bound that is given, or the one that stands in its place. -/
def bnd : Option AV → Nat → Option Nat
  | none, d => some d
  | some (.int _ n), _ => if 0 ≤ n then some n.toNat else none
  | _, _ => none
/-- low, high and max of a slice of a length and with a capacity, if these are in range. -/
def bnds (len cap : Nat) (lo hi mx : Option AV) : Option (Nat × Nat × Nat) :=
  match bnd mx cap, bnd hi len, bnd lo 0 with
  | some m, some h, some l => if m ≤ cap ∧ h ≤ m ∧ l ≤ h ∧ (mx.isSome = true → hi.isSome = true) then some (l, h, m) else none
  | _, _, _ => none
def RelO (M : Imm) (ρ : Locs) : Option AV → Option Value → Prop
  | none, none => True
  | some x, some v => Rel M ρ x v
  | _, _ => False

theorem run_sliceBound {x : AV} {x' : Value} {n d y : Nat} {code : BoundsCode} (h : bnd (some x) d = some n) (hx : Rel M ρ x x') (hn : n ≤ y) : (Instr.sliceBound x' y code).run P w = .ok n w := by
  unfold bnd at h
  split at h
  · rename_i h1; cases h1
  · rename_i k m h1
    cases h1
    have e := hx.int_inv; subst e
    split at h
    · rename_i h0; cases h
      have : m ≤ (y : Int) := by omega
      simp [Instr.sliceBound, asIntOf, h0, this]
    · cases h
  · cases h

theorem run_sliceBounds {len cap cap' l h m : Nat} {lo hi mx : Option AV} {lo' hi' mx' : Option Value} (hb : bnds len cap lo hi mx = some (l, h, m)) (hcc : cap ≤ cap')
    (h1 : RelO M ρ lo lo') (h2 : RelO M ρ hi hi') (h3 : RelO M ρ mx mx') (b : Bool) :
    (Instr.sliceBounds b len cap' lo' hi' mx').run P w = .ok (l, h, if mx.isSome then m else cap') w ∧ l ≤ h ∧ h ≤ m ∧ m ≤ cap ∧ (mx.isSome = false → m = cap) := by
  unfold bnds at hb
  split at hb
  case h_2 => cases hb
  rename_i m₀ h₀ l₀ e1 e2 e3
  split at hb
  case isFalse => cases hb
  rename_i hh
  cases hb
  refine ⟨?_, hh.2.2.1, hh.2.1, hh.1, fun hm => by cases mx <;> simp [bnd] at hm e1; exact e1.symm⟩
  have hl : (lo' = none ∧ l = 0) ∨ ∃ v, lo' = some v ∧ ∀ c, (Instr.sliceBound v h c).run P w = .ok l w := by
    cases lo <;> cases lo' <;> simp only [RelO] at h1
    · simp [bnd] at e3; exact .inl ⟨rfl, e3.symm⟩
    · exact .inr ⟨_, rfl, fun c => run_sliceBound e3 h1 hh.2.2.1⟩
  cases mx with
  | none =>
    cases mx' with
    | some _ => exact h3.elim
    | none =>
      simp [bnd] at e1; subst e1
      cases hi with
      | none =>
        cases hi' with
        | some _ => exact h2.elim
        | none =>
          simp [bnd] at e2; subst e2
          rcases hl with ⟨rfl, rfl⟩ | ⟨v, rfl, hv⟩
          · simp [Instr.sliceBounds]
          · simp [Instr.sliceBounds, hv]
      | some y =>
        cases hi' with
        | none => exact h2.elim
        | some y' =>
          have e4 : ∀ c, (Instr.sliceBound y' cap' c).run P w = .ok h w := fun c => run_sliceBound e2 h2 (by omega)
          rcases hl with ⟨rfl, rfl⟩ | ⟨v, rfl, hv⟩
          · simp [Instr.sliceBounds, e4]
          · simp [Instr.sliceBounds, hv, e4]
  | some z =>
    cases mx' with
    | none => exact h3.elim
    | some z' =>
      cases hi with
      | none => simp at hh
      | some y =>
        cases hi' with
        | none => exact h2.elim
        | some y' =>
          have e4 : ∀ c, (Instr.sliceBound y' m c).run P w = .ok h w := fun c => run_sliceBound e2 h2 (by omega)
          have e5 : ∀ c, (Instr.sliceBound z' cap' c).run P w = .ok m w := fun c => run_sliceBound e1 h3 (by omega)
          rcases hl with ⟨rfl, rfl⟩ | ⟨v, rfl, hv⟩
          · simp [Instr.sliceBounds, e4, e5]
          · simp [Instr.sliceBounds, hv, e4, e5]

/-- What of a capacity can be told behind a cut. -/
def cutCap (ck : Option Nat) (l m : Nat) (mx : Option AV) : Option Nat := if mx.isSome then some (m - l) else ck.map (· - l)

/-- A capacity, or what it is at least. -/
def capLB (H : AHeap) (id off len es : Nat) (ck : Option Nat) : Nat :=
  match ck with
  | some c => c
  | none => match H id with
    | some (.cells xs) => max len ((xs.length - off) / es)
    | _ => len
def aSlice (P : Program) (t : TypeId) (x : AV) (lo hi mx : Option AV) (H : AHeap) : Option AV :=
  match x with
  | .string s => if isStringT P t ∧ mx.isNone = true then (bnds s.length s.length lo hi mx).map fun r => .string ((s.drop r.1).take (r.2.1 - r.1)) else none
  | .nilslice => if ((tElem P t).bind (tSize P)).isSome then (bnds 0 0 lo hi mx).map fun _ => .nilslice else none
  | .sliceI xs len ck => match (tElem P t).bind (tSize P) with
    | some (es + 1) => (bnds len (ck.getD len) lo hi mx).bind fun r => if r.2.1 ≤ len ∧ xs.length = len * (es + 1) then some (.sliceI ((xs.drop (r.1 * (es + 1))).take ((r.2.1 - r.1) * (es + 1))) (r.2.1 - r.1) (cutCap ck r.1 r.2.2 mx)) else none
    | _ => none
  | .sliceR id off len es' ck => match (tElem P t).bind (tSize P) with
    | some (es + 1) => if es' = es + 1 then (bnds len (capLB H id off len es' ck) lo hi mx).map fun r => .sliceR id (off + r.1 * (es + 1)) (r.2.1 - r.1) es' (cutCap ck r.1 r.2.2 mx) else none
    | _ => none
  | _ => none

theorem extract_toArray (s : List UInt8) (l h : Nat) (hl : l ≤ h) (hh : h ≤ s.length) : (⟨s.toArray⟩ : ByteArray).extract l h = ⟨((s.drop l).take (h - l)).toArray⟩ := by
  apply ByteArray.ext
  rw [ByteArray.data_extract]
  apply Array.ext'
  simp [List.extract]

theorem addr_ite (K l n : Nat) (a : Addr) : (if K = l then some a else (some a).map (·.add n)) = some (if K = l then a else a.add n) := by split <;> rfl

theorem aSlice_gives (hs : St M ρ H w) {t : TypeId} {x v : AV} {lo hi mx : Option AV} {x' : Value} {lo' hi' mx' : Option Value} (h : aSlice P t x lo hi mx H = some v) (hx : Rel M ρ x x')
    (h1 : RelO M ρ lo lo') (h2 : RelO M ρ hi hi') (h3 : RelO M ρ mx mx') : Gives P M ρ w (Instr.sliceAt t x' lo' hi' mx') v := by
  unfold aSlice at h
  split at h
  · rename_i s
    have e := hx.string_inv; subst e
    split at h
    · rename_i hb
      have hu := isStringT_spec hb.1
      cases mx with
      | some _ => simp at hb
      | none =>
        cases mx' with
        | some _ => exact h3.elim
        | none =>
          cases hq : bnds s.length s.length lo hi none with
          | none => simp [hq] at h
          | some r =>
            obtain ⟨l, h', m⟩ := r
            simp [hq] at h; subst h
            obtain ⟨r1, r2, r3, r4, r5⟩ := run_sliceBounds (P := P) (w := w) hq (Nat.le_refl _) h1 h2 (mx' := none) trivial false
            have hsz : (⟨s.toArray⟩ : ByteArray).size = s.length := by simp [ByteArray.size]
            refine ⟨.string ⟨((s.drop l).take (h' - l)).toArray⟩, w.drawn, ?_, .string _⟩
            simp only [Instr.sliceAt, Sem.run_bind, run_underlying hu, Result.andThen_ok, Instr.slice, hsz, r1, Option.isSome_none, Bool.false_eq_true, if_false]
            rw [extract_toArray s l h' r2 (by omega)]
            rfl
    · cases h
  · have e := hx.nilslice_inv; subst e
    split at h
    · rename_i hb
      obtain ⟨n, hn⟩ := Option.isSome_iff_exists.1 hb
      obtain ⟨e, he, hn⟩ := Option.bind_eq_some_iff.1 hn
      have hu := tElem_spec he
      cases hq : bnds 0 0 lo hi mx with
      | none => simp [hq] at h
      | some r =>
        obtain ⟨l, h', m⟩ := r
        simp [hq] at h; subst h
        obtain ⟨r1, r2, r3, r4, r5⟩ := run_sliceBounds (P := P) (w := w) hq (Nat.le_refl _) h1 h2 h3 true
        have el : l = 0 := by omega
        have eh : h' = 0 := by omega
        have em : m = 0 := by omega
        subst el eh em
        simp only [ite_self] at r1
        exact ⟨.slice none 0 0, w.drawn, by simp [Instr.sliceAt, run_underlying hu, Instr.slice, r1, run_sizeOf hn], .nilslice⟩
    · cases h
  · rename_i xs len ck
    split at h
    case h_2 => cases h
    rename_i es hes
    cases he : tElem P t with
    | none => rw [he] at hes; cases hes
    | some e =>
      rw [he] at hes; simp only [Option.bind_some] at hes
      have hu := tElem_spec he
      cases hq : bnds len (ck.getD len) lo hi mx with
      | none => simp [hq] at h
      | some r =>
        obtain ⟨l, h', m⟩ := r
        simp only [hq, Option.bind_some] at h
        split at h
        case isFalse => cases h
        rename_i hh
        cases h
        have hrun : ∀ (a : Addr) (c : Nat), len ≤ c → (∀ n, ck = some n → c = n) → ∃ a' c', (Instr.sliceAt t (.slice (some a) len c) lo' hi' mx').run P w = .ok (.slice (some a') (h' - l) c') w ∧
            h' - l ≤ c' ∧ (∀ n, cutCap ck l m mx = some n → c' = n) ∧ (l < h' → a' = a.add (l * (es + 1))) := by
          intro a c hc hk
          have hcc : ck.getD len ≤ c := by cases ck with | none => exact hc | some n => rw [hk n rfl]; exact Nat.le_refl _
          obtain ⟨r1, r2, r3, r4, r5⟩ := run_sliceBounds (P := P) (w := w) hq hcc h1 h2 h3 true
          refine ⟨_, (if mx.isSome then m else c) - l, by simp only [Instr.sliceAt, Sem.run_bind, run_underlying hu, Result.andThen_ok, Instr.slice, r1, run_sizeOf hes, Sem.run_pure]; rw [addr_ite], ?_, ?_, ?_⟩
          · split <;> omega
          · intro n hn
            unfold cutCap at hn
            cases hm : mx.isSome with
            | true => simp [hm] at hn ⊢; exact hn
            | false =>
              cases ck with
              | none => simp [hm] at hn
              | some k => simp [hm] at hn ⊢; rw [hk k rfl]; exact hn
          · intro hlt
            rw [if_neg]
            cases hm : mx.isSome with
            | true => simp; omega
            | false => simp; omega
        cases hx with
        | sliceN _ c a _ hc hk =>
          obtain ⟨a', c', g1, g2, g3, _⟩ := hrun a c hc hk
          refine ⟨_, w.drawn, g1, ?_⟩
          simp only [List.drop_nil, List.take_nil]
          exact .sliceN _ _ _ _ g2 g3
        | sliceI _ _ c b base _ cs t' fz hc hk hM hl hr =>
          obtain ⟨a', c', g1, g2, g3, g4⟩ := hrun ⟨b, base, none⟩ c hc hk
          refine ⟨_, w.drawn, g1, ?_⟩
          by_cases hlt : l < h'
          · rw [g4 hlt, Addr.add_none]
            have hb1 : (h' - l) * (es + 1) + l * (es + 1) = h' * (es + 1) := by rw [← Nat.add_mul]; congr 1; omega
            have hb2 : h' * (es + 1) ≤ len * (es + 1) := Nat.mul_le_mul_right _ hh.1
            refine .sliceI _ _ _ b _ _ cs t' fz g2 g3 hM (by simp; omega) (fun j j1 j2 => ?_)
            simp only [List.getElem_take, List.getElem_drop]
            simp at j1
            have := hr (l * (es + 1) + j) (by omega) (by omega)
            simpa only [Nat.add_assoc] using this
          · have : h' - l = 0 := by omega
            simp only [this, Nat.zero_mul, List.take_zero] at g1 g2 ⊢
            exact .sliceN _ _ _ _ (by omega) g3
  · rename_i id off len es' ck
    split at h
    case h_2 => cases h
    rename_i es hes
    split at h
    case isFalse => cases h
    rename_i hee
    subst hee
    cases he : tElem P t with
    | none => rw [he] at hes; cases hes
    | some e =>
      rw [he] at hes; simp only [Option.bind_some] at hes
      have hu := tElem_spec he
      cases hq : bnds len (capLB H id off len (es + 1) ck) lo hi mx with
      | none => simp [hq] at h
      | some r =>
        obtain ⟨l, h', m⟩ := r
        simp only [hq, Option.map_some, Option.some.injEq] at h
        subst h
        cases hx with
        | sliceR _ _ _ _ c _ lc a hc hk hρ ha hr hn =>
          have hcc : capLB H id off len (es + 1) ck ≤ c := by
            cases ck with
            | some n => rw [hk n rfl]; exact Nat.le_refl _
            | none =>
              simp only [capLB]
              cases hid : H id with
              | none => exact hc
              | some blk =>
                cases blk with
                | cells xs =>
                  obtain ⟨l', o, q1, q2, q3, q4⟩ := hs.own _ _ hid
                  rw [hρ] at q1; cases q1
                  obtain ⟨cs, t', fz, rfl, _, hsz, hxl, _⟩ := q4
                  have hn' := hn rfl
                  have h5 : (xs.length - off) / (es + 1) ≤ c := by
                    apply Nat.le_of_lt_succ
                    rw [Nat.div_lt_iff_lt_mul (by omega), Nat.succ_mul]
                    omega
                  simp only
                  omega
                | _ => exact hc
          obtain ⟨r1, r2, r3, r4, r5⟩ := run_sliceBounds (P := P) (w := w) hq hcc h1 h2 h3 true
          have hm' : (if mx.isSome then m else c) ≤ c := by split <;> omega
          have hlm : l ≤ (if mx.isSome then m else c) := by split <;> omega
          have hhm : h' ≤ (if mx.isSome then m else c) := by split <;> omega
          refine ⟨_, w.drawn, by simp only [Instr.sliceAt, Sem.run_bind, run_underlying hu, Result.andThen_ok, Instr.slice, r1, run_sizeOf hes, Sem.run_pure]; rw [addr_ite], ?_⟩
          have hmul : ((if mx.isSome then m else c) - l) * (es + 1) + l * (es + 1) = (if mx.isSome then m else c) * (es + 1) := by rw [← Nat.add_mul]; congr 1; omega
          have hmulc : (if mx.isSome then m else c) * (es + 1) ≤ c * (es + 1) := Nat.mul_le_mul_right _ hm'
          refine .sliceR id _ _ _ _ _ lc _ (by omega) ?_ hρ ?_ (by omega) ?_
          · intro n hn'
            unfold cutCap at hn'
            cases hm : mx.isSome with
            | true => simp [hm] at hn' ⊢; exact hn'
            | false =>
              cases ck with
              | none => simp [hm] at hn'
              | some k => simp [hm] at hn' ⊢; rw [hk k rfl]; exact hn'
          · by_cases hz : (if mx.isSome then m else c) = l
            · left; omega
            · right
              rw [if_neg hz]
              have hc0 : c ≠ 0 := by omega
              rw [ha.resolve_left hc0, Addr.add_none, Nat.add_assoc]
          · intro hn'
            unfold cutCap at hn'
            cases hm : mx.isSome with
            | true => simp [hm] at hn'
            | false =>
              cases ck with
              | some k => simp [hm] at hn'
              | none => simp [hm] at hmul ⊢; have := hn rfl; omega
  · cases h
end ops
end Go.Ab
