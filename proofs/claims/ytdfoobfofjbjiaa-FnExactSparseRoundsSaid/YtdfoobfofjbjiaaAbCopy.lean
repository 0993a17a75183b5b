/- copy, len, cap, min, max and the parts of complex numbers on abstract values, and that the model agrees. -/
import Derived.Test.YtdfoobfofjbjiaaAbAppend
set_option linter.unusedSimpArgs false
set_option linter.unusedVariables false
namespace Go.Ab

section ops
variable {P : Program} {M : Imm} {ρ : Locs} {H : AHeap} {w : World}

/-! copy -/
def tCopy (P : Program) (ats : Array TypeId) : Option Nat :=
  match ats[0]? with
  | some t => match tElem P t with
    | some e => match tSize P e with
      | some (n + 1) => some (n + 1)
      | _ => none
    | none => none
  | none => none

def aCopy (P : Program) (ats : Array TypeId) (d x : AV) (H : AHeap) : Option (AV × AHeap) :=
  match tCopy P ats with
  | some es => match elemsOf H es x with
    | some (ys, n) => match d with
      | .nilslice => some (.int .i64 0, H)
      | .sliceR id off len es' _ => match H id with
        | some (.cells xs) => if es' = es ∧ off + min n len * es ≤ xs.length ∧ allOne ys = true then some (.int .i64 (min n len : Nat), H.set id (some (.cells (putAt xs off (ys.take (min n len * es)))))) else none
        | _ => none
      | .sliceI _ 0 _ => some (.int .i64 0, H)
      | _ => none
    | none => none
  | none => none

theorem tCopy_spec {ats : Array TypeId} {es : Nat} (h : tCopy P ats = some es) : ∃ t e, ats[0]? = some t ∧ P.underlying t = some (.slice e) ∧ tSize P e = some es ∧ es ≠ 0 := by
  unfold tCopy at h
  split at h
  · rename_i t h0
    split at h
    · rename_i e he
      split at h
      · rename_i n hn; cases h; exact ⟨t, e, h0, tElem_spec he, hn, by omega⟩
      · cases h
    · cases h
  · cases h

/-- The first elements of a slice or a string. -/
theorem elemsOf_first (hs : St M ρ H w) {x : AV} {x' : Value} {es n m : Nat} {xs : List AV} (hx : Rel M ρ x x') (h : elemsOf H es x = some (xs, n)) (hm : m ≤ n) :
    ∃ cs, (Builtin.firstCells es m x').run P w = .ok cs w ∧ RelL M ρ (xs.take (m * es)) cs := by
  unfold elemsOf at h
  have hme : m * es ≤ n * es := Nat.mul_le_mul_right _ hm
  split at h
  · cases h; cases hx
    exact ⟨#[], rfl, by simpa using RelL.nil M ρ⟩
  · split at h
    · rename_i ys k _ hl
      obtain ⟨e1, e2⟩ : ys = xs ∧ k = n := by simpa using h
      subst e1 e2
      cases hx with
      | sliceN _ c a _ hc hk =>
        have : k * es = 0 := by simpa using hl.symm
        have h0 : m * es = 0 := by omega
        exact ⟨#[], by simp [Builtin.firstCells, h0, loadCells, loadCellsFrom], by simpa using RelL.nil M ρ⟩
      | sliceI _ _ c b base _ cs t fz hc hk hM hlen hr =>
        obtain ⟨ds, h1, h2⟩ := loadCells_spec (P := P) (M := M) (ρ := ρ) (w := w) (b := b) (base := base) (off := 0) (n := m * es) (xs := ys) (fun j x hj => by
          obtain ⟨hlt, rfl⟩ := List.getElem?_eq_some_iff.1 hj
          have hj2 : base + j < cs.size := by omega
          exact ⟨cs[base + j], by rw [cell_of_heap (hs.imm _ _ hM)]; exact Array.getElem?_eq_getElem hj2, hr j hlt hj2⟩) (by omega)
        exact ⟨ds, by simpa [Builtin.firstCells] using h1 w rfl, by simpa using h2⟩
    · cases h
  · split at h
    · rename_i id off len es' _ _ ys hid
      split at h
      · rename_i hh
        obtain ⟨e, hb⟩ := hh; subst e
        obtain ⟨e1, e2⟩ : (ys.drop off).take (len * es') = xs ∧ len = n := by simpa using h
        subst e1 e2
        cases hx with
        | sliceR _ _ _ _ c _ l a hc hk hρ ha hr hn =>
          obtain ⟨l', o, h1, h2, h3, h4⟩ := hs.own _ _ hid
          rw [hρ] at h1; cases h1
          obtain ⟨cs, t, fz, rfl, _, hsz, hl, hrr⟩ := h4
          by_cases hc0 : c = 0
          · have : m = 0 := by omega
            subst this
            exact ⟨#[], by simp [Builtin.firstCells, loadCells, loadCellsFrom], by simpa using RelL.nil M ρ⟩
          · rw [ha.resolve_left hc0]
            obtain ⟨ds, g1, g2⟩ := loadCells_spec (P := P) (M := M) (ρ := ρ) (w := w) (b := l.block) (base := l.base) (off := off) (n := m * es') (xs := ys) (fun j x hj => by
              obtain ⟨hlt, rfl⟩ := List.getElem?_eq_some_iff.1 hj
              have hj2 : l.base + j < cs.size := by omega
              exact ⟨cs[l.base + j], by rw [cell_of_heap h3]; exact Array.getElem?_eq_getElem hj2, hrr j hlt hj2⟩) (by omega)
            refine ⟨ds, by simpa [Builtin.firstCells] using g1 w rfl, ?_⟩
            rw [List.take_take, Nat.min_eq_left hme]; exact g2
      · cases h
    · cases h
  · split at h
    · rename_i s e
      obtain ⟨e1, e2⟩ : (s.map fun b => AV.int .u8 b.toNat) = xs ∧ s.length = n := by simpa using h
      subst e e1 e2
      have := hx.string_inv; subst this
      refine ⟨((s.take m).map fun b => Value.int .u8 b.toNat).toArray, ?_, by simp, fun j h1 h2 => ?_⟩
      · simp only [Builtin.firstCells, Sem.run_pure]
        rw [extract_toArray s 0 m (by omega) hm]
        simp
      · simp only [List.getElem_take, List.getElem_map, List.getElem_toArray]
        exact .int _ _
    · cases h
  · cases h

theorem aCopy_does {ats : Array TypeId} {ty : TypeId} {d x v : AV} {d' x' : Value} {H' : AHeap} (hs : St M ρ H w) (h : aCopy P ats d x H = some (v, H')) (hd : Rel M ρ d d') (hx : Rel M ρ x x') :
    Does P M ρ w (Builtin.copy_ ats ty #[d', x']) v H' := by
  unfold aCopy at h
  split at h
  case h_2 => cases h
  rename_i es ht
  split at h
  case h_2 => cases h
  rename_i ys n hel
  obtain ⟨t, e, h0, hu, hsz, hes⟩ := tCopy_spec ht
  obtain ⟨hlen, hyl, _⟩ := elemsOf_run (P := P) hs hx hel
  split at h
  · cases h; cases hd
    obtain ⟨cs, h1, h2⟩ := elemsOf_first (P := P) (m := 0) hs hx hel (by omega)
    refine ⟨_, w, M, ρ, ?_, .refl .., hs, .int _ _⟩
    simp [Builtin.copy_, h0, run_underlying hu, hlen, run_sizeOf hsz, h1, goInt]
  · rename_i id off len es' _
    split at h
    · rename_i xs hid
      split at h
      · rename_i hh; cases h
        obtain ⟨he, hb, hone⟩ := hh; subst he
        cases hd with
        | sliceR _ _ _ _ c _ l a hc hk hρ ha hr hn =>
          obtain ⟨cs, h1, h2⟩ := elemsOf_first (P := P) (m := min n len) hs hx hel (Nat.min_le_left ..)
          have hms : min n len * es' ≤ n * es' := Nat.mul_le_mul_right _ (Nat.min_le_left ..)
          by_cases hc0 : c = 0
          · have : min n len = 0 := by omega
            rw [this] at h1 h2 ⊢
            have hcs : cs = #[] := Array.eq_empty_of_size_eq_zero (by rw [h2.1]; simp)
            subst hcs
            refine ⟨_, w, M, ρ, ?_, .refl .., ?_, .int _ _⟩
            · have : Nat.min n len = 0 := this
              simp [Builtin.copy_, h0, run_underlying hu, hlen, run_sizeOf hsz, this, h1, goInt, storeCells]
            · simp only [Nat.zero_mul, List.take_zero, putAt]
              rw [AHeap.set_eq _ hid]; exact hs
          · rw [ha.resolve_left hc0]
            obtain ⟨w', g1, g2, g3⟩ := storeCells_spec (P := P) (ys.take (min n len * es')) cs.toList xs 0 H w l off hs hid hρ (by simp; omega) (by simp [h2.1]) (by
                unfold allOne at hone ⊢
                rw [List.all_eq_true] at hone ⊢
                exact fun x hx => hone x (List.mem_of_mem_take hx)) (fun j x v hx hv => by
              obtain ⟨u, hu, hru⟩ := h2.get hx
              simp at hv; rw [hv] at hu; cases hu; exact hru)
            refine ⟨_, w', M, ρ, ?_, g2, by simpa using g3, .int _ _⟩
            have hmin : Nat.min n len = min n len := rfl
            simp [Builtin.copy_, h0, run_underlying hu, hlen, run_sizeOf hsz, hmin, h1, g1, goInt]
      · cases h
    · cases h
  · cases h
    cases hd with
    | sliceN _ c a _ hc hk =>
      obtain ⟨cs, h1, h2⟩ := elemsOf_first (P := P) (m := 0) hs hx hel (by omega)
      have hcs : cs = #[] := Array.eq_empty_of_size_eq_zero (by rw [h2.1]; simp)
      subst hcs
      refine ⟨_, w, M, ρ, ?_, .refl .., hs, .int _ _⟩
      simp [Builtin.copy_, h0, run_underlying hu, hlen, run_sizeOf hsz, h1, goInt, storeCells]
    | sliceI _ _ c b base _ cs t fz hc hk hM hl hr =>
      obtain ⟨cs, h1, h2⟩ := elemsOf_first (P := P) (m := 0) hs hx hel (by omega)
      have hcs : cs = #[] := Array.eq_empty_of_size_eq_zero (by rw [h2.1]; simp)
      subst hcs
      refine ⟨_, w, M, ρ, ?_, .refl .., hs, .int _ _⟩
      simp [Builtin.copy_, h0, run_underlying hu, hlen, run_sizeOf hsz, h1, goInt, storeCells]
  · cases h

/-- The constant that a slot holds behind an operation that was skipped. -/
def skipped : AV := .tuple []
theorem rel_skipped (M : Imm) (ρ : Locs) : Rel M ρ skipped undef := .tuple [] #[] rfl (fun j h => by simp at h)

/-! clear -/
def aClear (P : Program) (ats : Array TypeId) (x : AV) (H : AHeap) : Option AHeap :=
  match ats[0]? with
  | some t => match tElem P t with
    | some e => match zeroCells P e with
      | some zs => match x with
        | .nilslice => some H
        | .sliceI _ 0 _ => some H
        | .sliceR id off len es _ => if len = 0 then some H else match H id with
          | some (.cells xs) => if es = zs.length ∧ 0 < es ∧ off + len * es ≤ xs.length ∧ allOne zs = true then some (H.set id (some (.cells (putAt xs off (zeroRow zs (len * es)))))) else none
          | _ => none
        | _ => none
      | none => none
    | none => none
  | none => none
theorem aClear_does {ats : Array TypeId} {ty : TypeId} {x : AV} {x' : Value} {H' : AHeap} (hs : St M ρ H w) (h : aClear P ats x H = some H') (hx : Rel M ρ x x') : Does P M ρ w (Builtin.clear_ ats ty #[x']) skipped H' := by
  unfold aClear at h
  split at h
  case h_2 => cases h
  rename_i t h0
  split at h
  case h_2 => cases h
  rename_i e he
  have hu := tElem_spec he
  split at h
  case h_2 => cases h
  rename_i zs hz
  obtain ⟨z, hz1, hz2⟩ := zeroCells_spec (M := M) (ρ := ρ) hz
  have triv : ∀ a c, (Builtin.clear_ ats ty #[.slice a 0 c]).run P w = .ok (.tuple #[]) w := by
    intro a c
    cases a <;> simp [Builtin.clear_, h0, run_underlying hu]
  split at h
  · cases h; cases hx
    exact ⟨_, w, M, ρ, triv _ _, .refl .., hs, rel_skipped ..⟩
  · cases h
    cases hx with
    | sliceN => exact ⟨_, w, M, ρ, triv _ _, .refl .., hs, rel_skipped ..⟩
    | sliceI => exact ⟨_, w, M, ρ, triv _ _, .refl .., hs, rel_skipped ..⟩
  · rename_i id off len es ck
    split at h
    · rename_i hl; subst hl; cases h
      cases hx with
      | sliceR => exact ⟨_, w, M, ρ, triv _ _, .refl .., hs, rel_skipped ..⟩
    · rename_i hl
      split at h
      · rename_i xs hid
        split at h
        · rename_i hh; cases h
          obtain ⟨h1, h2, h3, h4⟩ := hh
          cases hx with
          | sliceR _ _ _ _ c _ l a hc hk hρ ha hr hn =>
            have hc0 : c ≠ 0 := by omega
            rw [ha.resolve_left hc0]
            have hrow := zeroRow_rel hz2 (len * es) (.inr (by omega))
            have hone : allOne (zeroRow zs (len * es)) = true := by
              unfold allOne at h4 ⊢
              rw [List.all_eq_true] at h4 ⊢
              intro x hx
              simp only [zeroRow, List.mem_map, List.mem_range] at hx
              obtain ⟨i, _, rfl⟩ := hx
              have hlt : i % zs.length < zs.length := Nat.mod_lt _ (by omega)
              simp only [List.getD, List.getElem?_eq_getElem hlt, Option.getD_some]
              exact h4 _ (List.getElem_mem hlt)
            have hcells : (Builtin.zeroCells z.cells len) = (Array.range (len * es)).map (z.cells[· % z.cells.size]!) := by
              unfold Builtin.zeroCells
              rw [hz2.1, ← h1]
            obtain ⟨w', g1, g2, g3⟩ := storeCells_spec (P := P) (zeroRow zs (len * es)) (Builtin.zeroCells z.cells len).toList xs 0 H w l off hs hid hρ (by simp; omega) (by rw [hcells]; simp) hone (fun j x v hx hv => by
              rw [hcells] at hv
              obtain ⟨u, hu, hru⟩ := hrow.get hx
              simp only [Array.getElem?_toList] at hv
              rw [hv] at hu; cases hu; exact hru)
            obtain ⟨n, rfl⟩ : ∃ n, len = n + 1 := ⟨len - 1, by omega⟩
            refine ⟨_, w', M, ρ, ?_, g2, by simpa using g3, rel_skipped ..⟩
            simp [Builtin.clear_, h0, run_underlying hu, run_zeroValue hz1, g1]
            rfl
        · cases h
      · cases h
  · cases h

/-! len and cap -/
def isMapT (P : Program) (t : TypeId) : Bool := match P.underlying t with | some (.map _ _) => true | _ => false
theorem isMapT_spec {t : TypeId} (h : isMapT P t = true) : ∃ k e, P.underlying t = some (.map k e) := by
  unfold isMapT at h; split at h
  · exact ⟨_, _, by assumption⟩
  · cases h
theorem isSliceT_spec {t : TypeId} (h : isSliceT P t = true) : ∃ e, P.underlying t = some (.slice e) := by
  unfold isSliceT at h; split at h
  · exact ⟨_, by assumption⟩
  · cases h
def aLen (P : Program) (ats : Array TypeId) (x : AV) (H : AHeap) : Option AV :=
  match ats[0]? with
  | some t =>
    match x with
    | .string s => if isStringT P t then some (.int .i64 (s.length : Nat)) else none
    | .nilslice => if isSliceT P t then some (.int .i64 0) else none
    | .sliceI _ len _ | .sliceR _ _ len _ _ => if isSliceT P t then some (.int .i64 (len : Nat)) else none
    | .nilmap => if isMapT P t then some (.int .i64 0) else none
    | .map id => match H id with
      | some (.map es) => if isMapT P t then some (.int .i64 (es.length : Nat)) else none
      | _ => none
    | _ => none
  | none => none
theorem aLen_gives {ats : Array TypeId} {ty : TypeId} {x v : AV} {x' : Value} (hs : St M ρ H w) (h : aLen P ats x H = some v) (hx : Rel M ρ x x') : Gives P M ρ w (Builtin.len_ ats ty #[x']) v := by
  unfold aLen at h
  split at h
  case h_2 => cases h
  rename_i t h0
  split at h
  · have := hx.string_inv; subst this
    split at h
    · rename_i hb; cases h
      rename_i s
      have hsz : (⟨s.toArray⟩ : ByteArray).size = s.length := by simp [ByteArray.size]
      exact ⟨_, w.drawn, by simp [Builtin.len_, h0, run_underlying (isStringT_spec hb), hsz, goInt], .int _ _⟩
    · cases h
  · cases hx
    split at h
    · rename_i hb; cases h
      obtain ⟨e, hu⟩ := isSliceT_spec hb
      exact ⟨_, w.drawn, by simp [Builtin.len_, h0, run_underlying hu, goInt], .int _ _⟩
    · cases h
  · split at h
    · rename_i hb; cases h
      obtain ⟨e, hu⟩ := isSliceT_spec hb
      cases hx <;> exact ⟨_, w.drawn, by simp [Builtin.len_, h0, run_underlying hu, goInt], .int _ _⟩
    · cases h
  · split at h
    · rename_i hb; cases h
      obtain ⟨e, hu⟩ := isSliceT_spec hb
      cases hx; exact ⟨_, w.drawn, by simp [Builtin.len_, h0, run_underlying hu, goInt], .int _ _⟩
    · cases h
  · cases hx
    split at h
    · rename_i hb; cases h
      obtain ⟨k, e, hu⟩ := isMapT_spec hb
      exact ⟨_, w.drawn, by simp [Builtin.len_, h0, run_underlying hu, goInt], .int _ _⟩
    · cases h
  · split at h
    · rename_i es hid
      split at h
      · rename_i hb; cases h
        obtain ⟨k, e, hu⟩ := isMapT_spec hb
        cases hx; rename_i l hρ
        obtain ⟨l', o, h1, h2, h3, h4⟩ := hs.own _ _ hid
        rw [hρ] at h1; cases h1
        obtain ⟨entries, clock, rfl, hn, _⟩ := h4
        have hg : (getObj l.block).run P w = .ok (.map entries clock) w := by simp [getObj, Sem.run, h3]
        exact ⟨_, w.drawn, by simp [Builtin.len_, h0, run_underlying hu, hg, goInt, hn], .int _ _⟩
      · cases h
    · cases h
  · cases h

def aCap (P : Program) (ats : Array TypeId) (x : AV) : Option AV :=
  match ats[0]? with
  | some t =>
    match x with
    | .nilslice => if isSliceT P t then some (.int .i64 0) else none
    | .sliceI _ _ (some c) | .sliceR _ _ _ _ (some c) => if isSliceT P t then some (.int .i64 (c : Nat)) else none
    | _ => none
  | none => none
theorem aCap_gives {ats : Array TypeId} {ty : TypeId} {x v : AV} {x' : Value} (h : aCap P ats x = some v) (hx : Rel M ρ x x') : Gives P M ρ w (Builtin.cap_ ats ty #[x']) v := by
  unfold aCap at h
  split at h
  case h_2 => cases h
  rename_i t h0
  split at h
  · cases hx
    split at h
    · rename_i hb; cases h
      obtain ⟨e, hu⟩ := isSliceT_spec hb
      exact ⟨_, w.drawn, by simp [Builtin.cap_, h0, run_underlying hu, goInt], .int _ _⟩
    · cases h
  · split at h
    · rename_i c hb; cases h
      obtain ⟨e, hu⟩ := isSliceT_spec hb
      cases hx with
      | sliceN _ _ _ _ _ hk => rw [hk c rfl]; exact ⟨_, w.drawn, by simp [Builtin.cap_, h0, run_underlying hu, goInt], .int _ _⟩
      | sliceI _ _ _ _ _ _ _ _ _ _ hk => rw [hk c rfl]; exact ⟨_, w.drawn, by simp [Builtin.cap_, h0, run_underlying hu, goInt], .int _ _⟩
    · cases h
  · split at h
    · rename_i c hb; cases h
      obtain ⟨e, hu⟩ := isSliceT_spec hb
      cases hx with
      | sliceR _ _ _ _ _ _ _ _ _ hk => rw [hk c rfl]; exact ⟨_, w.drawn, by simp [Builtin.cap_, h0, run_underlying hu, goInt], .int _ _⟩
    · cases h
  · cases h

/-! min and max of two and more -/
def maxF (k : FloatKind) (x y : Nat) : Nat :=
  match k.format.order x y with
  | none => nanOf k
  | some .lt => y
  | some .gt => x
  | some .eq => if (k.decode x).neg then y else x
def minF (k : FloatKind) (x y : Nat) : Nat :=
  match k.format.order x y with
  | none => nanOf k
  | some .lt => x
  | some .gt => y
  | some .eq => if (k.decode x).neg then x else y
def aMax2 : AV → AV → Option AV
  | .int k x, .int k' y => if k = k' then some (.int k (if y > x then y else x)) else none
  | .float k x, .float k' y => if k = k' then some (.float k (maxF k x y)) else none
  | _, _ => none
def aMin2 : AV → AV → Option AV
  | .int k x, .int k' y => if k = k' then some (.int k (if y < x then y else x)) else none
  | .float k x, .float k' y => if k = k' then some (.float k (minF k x y)) else none
  | _, _ => none
theorem canon_of_order {k : FloatKind} {x y : Nat} {o : Ordering} (h : k.format.order x y = some o) : canon k x = x ∧ canon k y = y := by
  constructor
  · cases hx : (k.format.read x).isNaN
    · exact canon_num hx
    · obtain ⟨s, t, e⟩ := Datum.nan_of hx
      rw [Ieee.Format.order, e, order_nan1] at h; cases h
  · cases hx : (k.format.read y).isNaN
    · exact canon_num hx
    · obtain ⟨s, t, e⟩ := Datum.nan_of hx
      rw [Ieee.Format.order, e, order_nan2] at h; cases h
theorem choose_minMax (k : FloatKind) (m : Bool) (x y : Nat) : ∃ r n, (choose (.nanMinMax k m x y)).run P w = .ok r { w with drawn := n } ∧ canon k r = nanOf k :=
  ⟨(Question.nanMinMax k m x y).cut (w.tape w.drawn (.nanMinMax k m x y)), w.drawn + 1, by simp [run_choose, Question.forced], cut_nanMinMax ..⟩
theorem max2F_gives (k : FloatKind) (x y : Nat) : Gives P M ρ w (Builtin.max2 (.float k x) (.float k y)) (.float k (maxF k (canon k x) (canon k y))) := by
  unfold maxF
  rw [order_canon]
  cases ho : k.format.order x y with
  | none =>
    obtain ⟨r, n, h, hc⟩ := choose_minMax (P := P) (w := w) k true x y
    exact ⟨.float k r, n, by simp [Builtin.max2, ho, h], .float k _ r hc⟩
  | some o =>
    obtain ⟨h1, h2⟩ := canon_of_order ho
    rw [h1, h2]
    cases o
    · exact ⟨_, w.drawn, by simp [Builtin.max2, ho], .float k _ _ h2⟩
    · refine ⟨.float k (if (k.decode x).neg then y else x), w.drawn, by simp [Builtin.max2, ho], .float k _ _ ?_⟩
      split <;> assumption
    · exact ⟨_, w.drawn, by simp [Builtin.max2, ho], .float k _ _ h1⟩
theorem min2F_gives (k : FloatKind) (x y : Nat) : Gives P M ρ w (Builtin.min2 (.float k x) (.float k y)) (.float k (minF k (canon k x) (canon k y))) := by
  unfold minF
  rw [order_canon]
  cases ho : k.format.order x y with
  | none =>
    obtain ⟨r, n, h, hc⟩ := choose_minMax (P := P) (w := w) k false x y
    exact ⟨.float k r, n, by simp [Builtin.min2, ho, h], .float k _ r hc⟩
  | some o =>
    obtain ⟨h1, h2⟩ := canon_of_order ho
    rw [h1, h2]
    cases o
    · exact ⟨_, w.drawn, by simp [Builtin.min2, ho], .float k _ _ h1⟩
    · refine ⟨.float k (if (k.decode x).neg then x else y), w.drawn, by simp [Builtin.min2, ho], .float k _ _ ?_⟩
      split <;> assumption
    · exact ⟨_, w.drawn, by simp [Builtin.min2, ho], .float k _ _ h2⟩
theorem aMax2_gives {x y v : AV} {x' y' : Value} (h : aMax2 x y = some v) (hx : Rel M ρ x x') (hy : Rel M ρ y y') : Gives P M ρ w (Builtin.max2 x' y') v := by
  unfold aMax2 at h
  split at h
  · cases hx; cases hy
    split at h
    · rename_i e; subst e; cases h; exact .pure w (.int _ _)
    · cases h
  · obtain ⟨x₁, rfl, h1⟩ := hx.float_inv
    obtain ⟨y₁, rfl, h2⟩ := hy.float_inv
    split at h
    · rename_i e; subst e; subst h1 h2; cases h; exact max2F_gives ..
    · cases h
  · cases h
theorem aMin2_gives {x y v : AV} {x' y' : Value} (h : aMin2 x y = some v) (hx : Rel M ρ x x') (hy : Rel M ρ y y') : Gives P M ρ w (Builtin.min2 x' y') v := by
  unfold aMin2 at h
  split at h
  · cases hx; cases hy
    split at h
    · rename_i e; subst e; cases h; exact .pure w (.int _ _)
    · cases h
  · obtain ⟨x₁, rfl, h1⟩ := hx.float_inv
    obtain ⟨y₁, rfl, h2⟩ := hy.float_inv
    split at h
    · rename_i e; subst e; subst h1 h2; cases h; exact min2F_gives ..
    · cases h
  · cases h

def aFoldFrom (f : AV → AV → Option AV) : AV → List AV → Option AV
  | x, [] => some x
  | x, y :: r => match f x y with
    | some z => aFoldFrom f z r
    | none => none
def aFold (f : AV → AV → Option AV) : List AV → Option AV
  | [] => none
  | x :: r => aFoldFrom f x r
theorem aFold_gives {f : AV → AV → Option AV} {g : Value → Value → Sem Value} (hf : ∀ (w : World) x y v x' y', f x y = some v → Rel M ρ x x' → Rel M ρ y y' → Gives P M ρ w (g x' y') v) (r : List AV) :
    ∀ (w : World) (x v : AV) (x' : Value) (r' : List Value), aFoldFrom f x r = some v → Rel M ρ x x' → r.length = r'.length → (∀ (j : Nat) (y : AV) (y' : Value), r[j]? = some y → r'[j]? = some y' → Rel M ρ y y') →
    Gives P M ρ w (r'.foldlM g x') v := by
  induction r with
  | nil =>
    intro w x v x' r' h hx hl _
    have : r' = [] := by cases r' <;> simp_all
    subst this
    simp only [aFoldFrom, Option.some.injEq] at h; subst h
    exact .pure w hx
  | cons y r ih =>
    intro w x v x' r' h hx hl hr
    cases r' with
    | nil => simp at hl
    | cons y' r' =>
      simp only [aFoldFrom] at h
      split at h
      · rename_i z hz
        obtain ⟨z', n, h1, h2⟩ := hf w _ _ _ _ _ hz hx (hr 0 y y' rfl rfl)
        obtain ⟨v', m, h3, h4⟩ := ih { w with drawn := n } z v z' r' h h2 (by simpa using hl) (fun j a b ha hb => hr (j + 1) a b (by simpa using ha) (by simpa using hb))
        refine ⟨v', m, ?_, h4⟩
        simp only [List.foldlM_cons, Sem.run_bind, h1, Result.andThen_ok]
        exact h3
      · cases h
theorem aMaxs_gives {ats : Array TypeId} {ty : TypeId} {xs : List AV} {v : AV} {xs' : Array Value} (h : aFold aMax2 xs = some v) (hx : RelL M ρ xs xs') : Gives P M ρ w (Builtin.max_ ats ty xs') v := by
  obtain ⟨l'⟩ := xs'
  cases xs with
  | nil => simp [aFold] at h
  | cons x r =>
    cases l' with
    | nil => have := hx.1; simp at this
    | cons x' r' =>
      have := hx.1
      simp at this
      simp only [Builtin.max_]
      exact aFold_gives (fun w _ _ _ _ _ => aMax2_gives) r w x v x' r' h (hx.2 0 (by simp) (by simp)) this.symm (fun j y y' hy hy' => by
        obtain ⟨u, hu, hr⟩ := hx.get (j := j + 1) (x := y) (by simpa using hy)
        simp at hu; rw [hy'] at hu; cases hu; exact hr)
theorem aMins_gives {ats : Array TypeId} {ty : TypeId} {xs : List AV} {v : AV} {xs' : Array Value} (h : aFold aMin2 xs = some v) (hx : RelL M ρ xs xs') : Gives P M ρ w (Builtin.min_ ats ty xs') v := by
  obtain ⟨l'⟩ := xs'
  cases xs with
  | nil => simp [aFold] at h
  | cons x r =>
    cases l' with
    | nil => have := hx.1; simp at this
    | cons x' r' =>
      have := hx.1
      simp at this
      simp only [Builtin.min_]
      exact aFold_gives (fun w _ _ _ _ _ => aMin2_gives) r w x v x' r' h (hx.2 0 (by simp) (by simp)) this.symm (fun j y y' hy hy' => by
        obtain ⟨u, hu, hr⟩ := hx.get (j := j + 1) (x := y) (by simpa using hy)
        simp at hu; rw [hy'] at hu; cases hu; exact hr)

/-! parts of complex numbers -/
def aComplexOf : List AV → Option AV
  | [.float k a, .float k' b] => if k = k' then some (.complex k a b) else none
  | _ => none
def aReal : List AV → Option AV
  | [.complex k a _] => some (.float k a)
  | _ => none
def aImag : List AV → Option AV
  | [.complex k _ b] => some (.float k b)
  | _ => none
theorem RelL.pair {x y : AV} {xs' : Array Value} (h : RelL M ρ [x, y] xs') : ∃ a b, xs' = #[a, b] ∧ Rel M ρ x a ∧ Rel M ρ y b := by
  obtain ⟨l⟩ := xs'
  have h1 := h.1
  match l, h1 with
  | [a, b], _ => exact ⟨a, b, rfl, h.2 0 (by simp) (by simp), h.2 1 (by simp) (by simp)⟩
theorem RelL.single {x : AV} {xs' : Array Value} (h : RelL M ρ [x] xs') : ∃ a, xs' = #[a] ∧ Rel M ρ x a := by
  obtain ⟨l⟩ := xs'
  have h1 := h.1
  match l, h1 with
  | [a], _ => exact ⟨a, rfl, h.2 0 (by simp) (by simp)⟩
theorem aComplexOf_gives {ats : Array TypeId} {ty : TypeId} {xs : List AV} {v : AV} {xs' : Array Value} (h : aComplexOf xs = some v) (hx : RelL M ρ xs xs') : Gives P M ρ w (Builtin.complex_ ats ty xs') v := by
  unfold aComplexOf at h
  split at h
  · obtain ⟨a, b, rfl, h1, h2⟩ := hx.pair
    obtain ⟨a', rfl, e1⟩ := h1.float_inv
    obtain ⟨b', rfl, e2⟩ := h2.float_inv
    split at h
    · rename_i e; subst e; cases h
      exact ⟨.complex _ a' b', w.drawn, by cases ‹FloatKind› <;> rfl, .complex _ _ _ _ _ e1 e2⟩
    · cases h
  · cases h
theorem aReal_gives {ats : Array TypeId} {ty : TypeId} {xs : List AV} {v : AV} {xs' : Array Value} (h : aReal xs = some v) (hx : RelL M ρ xs xs') : Gives P M ρ w (Builtin.real_ ats ty xs') v := by
  unfold aReal at h
  split at h
  · cases h
    obtain ⟨a, rfl, h1⟩ := hx.single
    cases h1; rename_i e1 e2
    exact ⟨_, w.drawn, rfl, .float _ _ _ e1⟩
  · cases h
theorem aImag_gives {ats : Array TypeId} {ty : TypeId} {xs : List AV} {v : AV} {xs' : Array Value} (h : aImag xs = some v) (hx : RelL M ρ xs xs') : Gives P M ρ w (Builtin.imag_ ats ty xs') v := by
  unfold aImag at h
  split at h
  · cases h
    obtain ⟨a, rfl, h1⟩ := hx.single
    cases h1; rename_i e1 e2
    exact ⟨_, w.drawn, rfl, .float _ _ _ e2⟩
  · cases h
end ops
end Go.Ab
