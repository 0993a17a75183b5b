/- Operations on values that touch no memory: what they give on abstract values, and that the model agrees. -/
import Derived.Test.YtdfoobfofjbjiaaAbFloat
import Derived.Laws.Strings
set_option linter.unusedSimpArgs false
set_option linter.unusedVariables false
namespace Go.Ab

def aInt (op : BinOp) (k : IntKind) (a b : Int) : Option AV :=
  match op with
  | .add => some (.int k (k.wrap (a + b)))
  | .sub => some (.int k (k.wrap (a - b)))
  | .mul => some (.int k (k.wrap (a * b)))
  | .quo => if b = 0 then none else some (.int k (k.wrap (a.tdiv b)))
  | .rem => if b = 0 then none else some (.int k (a.tmod b))
  | .and => some (.int k (bits .and k a b))
  | .or => some (.int k (bits .or k a b))
  | .xor => some (.int k (bits .xor k a b))
  | .andNot => some (.int k (bits .andNot k a b))
  | .eql => some (.bool (a == b))
  | .neq => some (.bool (a != b))
  | .lss => some (.bool (a < b))
  | .leq => some (.bool (a ≤ b))
  | .gtr => some (.bool (a > b))
  | .geq => some (.bool (a ≥ b))
  | _ => none

def aFloat (op : BinOp) (k : FloatKind) (a b : Nat) : Option AV :=
  match op with
  | .add => some (.float k (addF k a b))
  | .sub => some (.float k (subF k a b))
  | .mul => some (.float k (mulF k a b))
  | .quo => some (.float k (divF k a b))
  | .eql => some (.bool (eqF k a b))
  | .neq => some (.bool !(eqF k a b))
  | .lss => some (.bool (ltF k a b))
  | .leq => some (.bool (leF k a b))
  | .gtr => some (.bool (gtF k a b))
  | .geq => some (.bool (geF k a b))
  | _ => none

def aString (op : BinOp) (x y : List UInt8) : Option AV :=
  match op with
  | .add => if x.length + y.length ≤ 9223372036854775807 then some (.string (x ++ y)) else none
  | .eql => some (.bool (x == y))
  | .neq => some (.bool !(x == y))
  | .lss => some (.bool (Op.bytesLess x y))
  | .leq => some (.bool (Op.bytesLess x y || x == y))
  | .gtr => some (.bool !(Op.bytesLess x y || x == y))
  | .geq => some (.bool !(Op.bytesLess x y))
  | _ => none

def aComplex (op : BinOp) (k : FloatKind) (a b c d : Nat) : Option AV :=
  match op with
  | .add => some (.complex k (addF k a c) (addF k b d))
  | .sub => some (.complex k (subF k a c) (subF k b d))
  | .eql => some (.bool (eqF k a c && eqF k b d))
  | .neq => some (.bool !(eqF k a c && eqF k b d))
  | _ => none

def isSliceT (P : Program) (t : TypeId) : Bool := match P.underlying t with | some (.slice _) => true | _ => false
def isIfaceT (P : Program) (t : TypeId) : Bool := match P.underlying t with | some (.interface _) => true | _ => false
def isBoolT (P : Program) (t : TypeId) : Bool := match P.underlying t with | some .bool => true | _ => false
def isNilSlice : AV → Option Bool
  | .nilslice => some true
  | .sliceI .. | .sliceR .. => some false
  | _ => none

def aBin (P : Program) (op : BinOp) (t : TypeId) : AV → AV → Option AV
  | .int k a, .int k' b =>
    match op with
    | .shl => if b < 0 then none else some (.int k (k.wrap (a * 2 ^ (min b.toNat k.bits))))
    | .shr => if b < 0 then none else some (.int k (a.fdiv (2 ^ (min b.toNat k.bits))))
    | _ => if k = k' then aInt op k a b else none
  | .float k a, .float k' b => if k = k' then aFloat op k a b else none
  | .string a, .string b => aString op a b
  | .complex k a b, .complex k' c d => if k = k' then aComplex op k a b c d else none
  | .bool a, .bool b =>
    if isBoolT P t then
      match op with
      | .eql => some (.bool (a == b))
      | .neq => some (.bool !(a == b))
      | _ => none
    else none
  | x, .nilslice =>
    if isSliceT P t then
      match op, isNilSlice x with
      | .eql, some b => some (.bool b)
      | .neq, some b => some (.bool !b)
      | _, _ => none
    else none
  | .nilface, .nilface =>
    if isIfaceT P t then
      match op with
      | .eql => some (.bool true)
      | .neq => some (.bool false)
      | _ => none
    else none
  | .iface _ _, .nilface =>
    if isIfaceT P t then
      match op with
      | .eql => some (.bool false)
      | .neq => some (.bool true)
      | _ => none
    else none
  | _, _ => none

section
variable {P : Program} {M : Imm} {ρ : Locs} (w : World)

def Gives (P : Program) (M : Imm) (ρ : Locs) (w : World) (s : Sem Value) (v : AV) : Prop := ∃ v' n, s.run P w = .ok v' { w with drawn := n } ∧ Rel M ρ v v'

theorem Gives.pure {v : AV} {v' : Value} (h : Rel M ρ v v') : Gives P M ρ w (Pure.pure v') v := ⟨v', w.drawn, rfl, h⟩

theorem aInt_gives {op : BinOp} {k : IntKind} {a b : Int} {v : AV} (t : TypeId) (h : aInt op k a b = some v) (hs : op ≠ .shl ∧ op ≠ .shr) : Gives P M ρ w (binOp op t (.int k a) (.int k b)) v := by
  cases op <;> simp only [aInt] at h <;> (try (cases h; done)) <;>
    (try (cases h; simp only [go_sem, Op.intArith, binOp_lss, binOp_leq, binOp_gtr, binOp_geq, binOp_eql, binOp_neq]; exact .pure w (.int _ _))) <;>
    (try (cases h; simp only [go_sem]; exact .pure w (.bool _)))
  · split at h
    · cases h
    · rename_i hb; cases h
      exact ⟨_, w.drawn, by simp [binOp, Op.intDiv, hb], .int _ _⟩
  · split at h
    · cases h
    · rename_i hb; cases h
      exact ⟨_, w.drawn, by simp [binOp, Op.intDiv, hb], .int _ _⟩

theorem choose_nan (k : FloatKind) (x y : Nat) : ∃ r n, (choose (.nanBits k x y)).run P w = .ok r { w with drawn := n } ∧ canon k r = nanOf k :=
  ⟨(Question.nanBits k x y).cut (w.tape w.drawn (.nanBits k x y)), w.drawn + 1, by simp [run_choose, Question.forced], cut_nanBits ..⟩

theorem floatArith_gives {op : BinOp} {k : FloatKind} {x y a b : Nat} {v : AV} (hx : canon k x = a) (hy : canon k y = b) (ho : op = .add ∨ op = .sub ∨ op = .mul ∨ op = .quo) (h : aFloat op k a b = some v) :
    Gives P M ρ w (Op.floatArith op k x y) v := by
  subst hx hy
  rcases ho with rfl | rfl | rfl | rfl <;> simp only [aFloat] at h <;> cases h <;> simp only [addF, subF, mulF, divF, add_canon, sub_canon, mul_canon, div_canon]
  · cases hq : k.format.add x y with
    | some r => exact ⟨.float k r, w.drawn, by simp [Op.floatArith, hq], .float k _ r rfl⟩
    | none => (obtain ⟨r, n, h, hc⟩ := choose_nan (P := P) w k x y; exact ⟨.float k r, n, by simp [Op.floatArith, hq, h], .float k _ r hc⟩)
  · cases hq : k.format.sub x y with
    | some r => exact ⟨.float k r, w.drawn, by simp [Op.floatArith, hq], .float k _ r rfl⟩
    | none => (obtain ⟨r, n, h, hc⟩ := choose_nan (P := P) w k x y; exact ⟨.float k r, n, by simp [Op.floatArith, hq, h], .float k _ r hc⟩)
  · cases hq : k.format.mul x y with
    | some r => exact ⟨.float k r, w.drawn, by simp [Op.floatArith, hq], .float k _ r rfl⟩
    | none => (obtain ⟨r, n, h, hc⟩ := choose_nan (P := P) w k x y; exact ⟨.float k r, n, by simp [Op.floatArith, hq, h], .float k _ r hc⟩)
  · cases hq : k.format.div x y with
    | some r => exact ⟨.float k r, w.drawn, by simp [Op.floatArith, hq], .float k _ r rfl⟩
    | none => (obtain ⟨r, n, h, hc⟩ := choose_nan (P := P) w k x y; exact ⟨.float k r, n, by simp [Op.floatArith, hq, h], .float k _ r hc⟩)

theorem aFloat_gives {op : BinOp} {k : FloatKind} {x y a b : Nat} {v : AV} (t : TypeId) (hx : canon k x = a) (hy : canon k y = b) (h : aFloat op k a b = some v) :
    Gives P M ρ w (binOp op t (.float k x) (.float k y)) v := by
  cases op <;> (try (simp only [aFloat] at h; cases h; done))
  · simpa [binOp] using floatArith_gives (P := P) (M := M) (ρ := ρ) w hx hy (.inl rfl) h
  · simpa [binOp] using floatArith_gives (P := P) (M := M) (ρ := ρ) w hx hy (.inr (.inl rfl)) h
  · simpa [binOp] using floatArith_gives (P := P) (M := M) (ρ := ρ) w hx hy (.inr (.inr (.inl rfl))) h
  · simpa [binOp] using floatArith_gives (P := P) (M := M) (ρ := ρ) w hx hy (.inr (.inr (.inr rfl))) h
  all_goals
    subst hx hy
    simp only [aFloat, eqF, ltF, leF, gtF, geF, order_canon] at h
    cases h
    exact ⟨_, w.drawn, by simp only [binOp, Op.floatCmp, ne_eq, not_true_eq_false, if_false, bne]; rfl, .bool _⟩

theorem aString_gives {op : BinOp} {x y : List UInt8} {v : AV} (t : TypeId) (h : aString op x y = some v) : Gives P M ρ w (binOp op t (.string ⟨x.toArray⟩) (.string ⟨y.toArray⟩)) v := by
  cases op <;> simp only [aString] at h <;> (try (cases h; done))
  · split at h
    · rename_i hl
      cases h
      refine ⟨.string ⟨(x ++ y).toArray⟩, w.drawn, ?_, .string _⟩
      have hsz : ¬ (((⟨x.toArray⟩ : ByteArray).size + (⟨y.toArray⟩ : ByteArray).size : Nat) : Int) > IntKind.i64.max := by
        have : ((⟨x.toArray⟩ : ByteArray).size + (⟨y.toArray⟩ : ByteArray).size) = x.length + y.length := by simp [ByteArray.size]
        rw [this]
        have : IntKind.i64.max = 9223372036854775807 := by decide
        rw [this]; omega
      have e : (⟨x.toArray⟩ : ByteArray) ++ (⟨y.toArray⟩ : ByteArray) = ⟨(x ++ y).toArray⟩ := by
        apply ByteArray.ext; simp
      simp only [binOp, Op.stringOp, if_neg hsz, e]; rfl
    · cases h
  all_goals
    cases h
    exact ⟨_, w.drawn, by simp only [binOp, Op.stringOp, ByteArray.toList_mk]; rfl, .bool _⟩

theorem carith_gives (op : BinOp) (k : FloatKind) (x y : Nat) (r : Option Nat) (hr : (match op with | .add => some (k.format.add x y) | .sub => some (k.format.sub x y) | _ => none) = some r) :
    ∃ b n, (Op.Complex.arith op k x y).run P w = .ok b { w with drawn := n } ∧ canon k b = outF k r := by
  cases op <;> simp only at hr <;> cases hr
  all_goals
    simp only [Op.Complex.arith, Op.floatArith]
    first | cases hq : k.format.add x y with
            | some r => exact ⟨r, w.drawn, by simp, rfl⟩
            | none => (obtain ⟨r, n, h, hc⟩ := choose_nan (P := P) w k x y; exact ⟨r, n, by simp [h], hc⟩)
          | cases hq : k.format.sub x y with
            | some r => exact ⟨r, w.drawn, by simp, rfl⟩
            | none => (obtain ⟨r, n, h, hc⟩ := choose_nan (P := P) w k x y; exact ⟨r, n, by simp [h], hc⟩)

theorem aComplex_gives {op : BinOp} {k : FloatKind} {x y z u a b c d : Nat} {v : AV} (t : TypeId) (hx : canon k x = a) (hy : canon k y = b) (hz : canon k z = c) (hu : canon k u = d) (h : aComplex op k a b c d = some v) :
    Gives P M ρ w (binOp op t (.complex k x y) (.complex k z u)) v := by
  subst hx hy hz hu
  cases op <;> simp only [aComplex, addF, subF, add_canon, sub_canon, eqF, order_canon] at h <;> (try (cases h; done)) <;> cases h
  · obtain ⟨r, n, h1, c1⟩ := carith_gives (P := P) w .add k x z _ rfl
    obtain ⟨s, m, h2, c2⟩ := carith_gives (P := P) { w with drawn := n } .add k y u _ rfl
    exact ⟨.complex k r s, m, by simp [binOp, Op.complexOp, h1, h2], .complex k _ r _ s c1 c2⟩
  · obtain ⟨r, n, h1, c1⟩ := carith_gives (P := P) w .sub k x z _ rfl
    obtain ⟨s, m, h2, c2⟩ := carith_gives (P := P) { w with drawn := n } .sub k y u _ rfl
    exact ⟨.complex k r s, m, by simp [binOp, Op.complexOp, h1, h2], .complex k _ r _ s c1 c2⟩
  · exact ⟨_, w.drawn, by simp [binOp, Op.complexOp, Op.Complex.cmp, Op.floatCmp, asBool], .bool _⟩
  · exact ⟨_, w.drawn, by simp [binOp, Op.complexOp, Op.Complex.cmp, Op.floatCmp, asBool], .bool _⟩

theorem Rel.nilslice_inv {x : Value} (h : Rel M ρ .nilslice x) : x = .slice none 0 0 := by cases h; rfl

theorem isNilSlice_inv {x : AV} {x' : Value} {b : Bool} (h : isNilSlice x = some b) (hx : Rel M ρ x x') : ∃ a n c, x' = .slice a n c ∧ a.isNone = b := by
  cases hx <;> simp [isNilSlice] at h <;> subst h <;> exact ⟨_, _, _, rfl, rfl⟩

theorem run_eql_of {t : TypeId} {x y : Value} {b : Bool} (hb : ∀ op, op = .eql ∨ op = .neq → binOp op t x y = (match op with | .eql => (do pure (.bool (← Op.equal t x y))) | _ => (do pure (.bool (!(← Op.equal t x y)))) : Sem Value))
    (h : (Op.equal t x y).run P w = .ok b w) : (binOp .eql t x y).run P w = .ok (.bool b) w ∧ (binOp .neq t x y).run P w = .ok (.bool (!b)) w := by
  rw [hb .eql (.inl rfl), hb .neq (.inr rfl)]
  simp [h]
theorem run_equalIn_bool {t : TypeId} (d : Nat) (a b : Bool) (hu : P.underlying t = some .bool) : (Op.equalIn (d + 1) t (.bool a) (.bool b)).run P w = .ok (a == b) w := by
  simp [Op.equalIn, run_underlying hu]
theorem run_equal_bool {t : TypeId} (a b : Bool) (hu : P.underlying t = some .bool) : (Op.equal t (.bool a) (.bool b)).run P w = .ok (a == b) w := run_equalIn_bool w 9999 a b hu
theorem run_equalIn_slice {t e : TypeId} (d : Nat) (a : Option Addr) (n c : Nat) (hu : P.underlying t = some (.slice e)) : (Op.equalIn (d + 1) t (.slice a n c) (.slice none 0 0)).run P w = .ok a.isNone w := by
  cases a <;> simp [Op.equalIn, run_underlying hu]
theorem run_equal_slice {t e : TypeId} (a : Option Addr) (n c : Nat) (hu : P.underlying t = some (.slice e)) : (Op.equal t (.slice a n c) (.slice none 0 0)).run P w = .ok a.isNone w := run_equalIn_slice w 9999 a n c hu
theorem run_equalIn_nilface {t : TypeId} {ms : Array (String × TypeId)} (d : Nat) (hu : P.underlying t = some (.interface ms)) : (Op.equalIn (d + 1) t .nilIface .nilIface).run P w = .ok true w := by
  simp [Op.equalIn, run_underlying hu]
theorem run_equal_nilface {t : TypeId} {ms : Array (String × TypeId)} (hu : P.underlying t = some (.interface ms)) : (Op.equal t .nilIface .nilIface).run P w = .ok true w := run_equalIn_nilface w 9999 hu
theorem run_equalIn_iface_nil {t u : TypeId} {x : Value} {ms : Array (String × TypeId)} (d : Nat) (hu : P.underlying t = some (.interface ms)) : (Op.equalIn (d + 1) t (.iface u x) .nilIface).run P w = .ok false w := by
  simp [Op.equalIn, run_underlying hu]
theorem run_equal_iface_nil {t u : TypeId} {x : Value} {ms : Array (String × TypeId)} (hu : P.underlying t = some (.interface ms)) : (Op.equal t (.iface u x) .nilIface).run P w = .ok false w := run_equalIn_iface_nil w 9999 hu

theorem aBin_gives {op : BinOp} {t : TypeId} {x y v : AV} {x' y' : Value} (h : aBin P op t x y = some v) (hx : Rel M ρ x x') (hy : Rel M ρ y y') : Gives P M ρ w (binOp op t x' y') v := by
  unfold aBin at h
  split at h
  · -- ints
    cases hx; cases hy
    split at h
    · split at h
      · cases h
      · rename_i hb; cases h
        exact ⟨_, w.drawn, by simp [binOp, Op.shift, hb], .int _ _⟩
    · split at h
      · cases h
      · rename_i hb; cases h
        exact ⟨_, w.drawn, by simp [binOp, Op.shift, hb], .int _ _⟩
    · rename_i h1 h2
      split at h
      · rename_i e; subst e
        exact aInt_gives w t h ⟨h1, h2⟩
      · cases h
  · cases hx; cases hy
    split at h
    · rename_i e; subst e
      exact aFloat_gives w t (by assumption) (by assumption) h
    · cases h
  · cases hx; cases hy
    exact aString_gives w t h
  · cases hx; cases hy
    split at h
    · rename_i e; subst e
      exact aComplex_gives w t (by assumption) (by assumption) (by assumption) (by assumption) h
    · cases h
  · cases hx; cases hy
    split at h
    · rename_i a b hb
      have hu : P.underlying t = some .bool := by
        unfold isBoolT at hb; split at hb <;> first | assumption | cases hb
      have he := run_eql_of (P := P) w (t := t) (x := .bool a) (y := .bool b) (by rintro op (rfl | rfl) <;> rfl) (run_equal_bool w a b hu)
      split at h
      · cases h
        exact ⟨_, w.drawn, he.1, .bool _⟩
      · cases h
        exact ⟨_, w.drawn, he.2, .bool _⟩
      · cases h
    · cases h
  · have ey := hy.nilslice_inv; subst ey
    split at h
    · rename_i hb
      obtain ⟨e, hu⟩ : ∃ e, P.underlying t = some (.slice e) := by
        unfold isSliceT at hb; split at hb
        · exact ⟨_, by assumption⟩
        · cases hb
      split at h
      · rename_i b hn; cases h
        obtain ⟨a, n, c, rfl, ha⟩ := isNilSlice_inv hn hx
        have he := run_eql_of (P := P) w (t := t) (x := .slice a n c) (y := .slice none 0 0) (by rintro op (rfl | rfl) <;> rfl) (run_equal_slice w a n c hu)
        exact ⟨.bool b, w.drawn, ha ▸ he.1, .bool _⟩
      · rename_i b hn; cases h
        obtain ⟨a, n, c, rfl, ha⟩ := isNilSlice_inv hn hx
        have he := run_eql_of (P := P) w (t := t) (x := .slice a n c) (y := .slice none 0 0) (by rintro op (rfl | rfl) <;> rfl) (run_equal_slice w a n c hu)
        exact ⟨.bool (!b), w.drawn, ha ▸ he.2, .bool _⟩
      · cases h
    · cases h
  · cases hx; cases hy
    split at h
    · rename_i hb
      obtain ⟨e, hu⟩ : ∃ e, P.underlying t = some (.interface e) := by
        unfold isIfaceT at hb; split at hb
        · exact ⟨_, by assumption⟩
        · cases hb
      split at h
      · cases h
        exact ⟨.bool true, w.drawn, (run_eql_of (P := P) w (t := t) (x := .nilIface) (y := .nilIface) (by rintro op (rfl | rfl) <;> rfl) (run_equal_nilface w hu)).1, .bool _⟩
      · cases h
        exact ⟨.bool false, w.drawn, (run_eql_of (P := P) w (t := t) (x := .nilIface) (y := .nilIface) (by rintro op (rfl | rfl) <;> rfl) (run_equal_nilface w hu)).2, .bool _⟩
      · cases h
    · cases h
  · cases hx; cases hy
    split at h
    · rename_i hb
      obtain ⟨e, hu⟩ : ∃ e, P.underlying t = some (.interface e) := by
        unfold isIfaceT at hb; split at hb
        · exact ⟨_, by assumption⟩
        · cases hb
      split at h
      · cases h
        exact ⟨.bool false, w.drawn, (run_eql_of (P := P) w (t := t) (y := .nilIface) (by rintro op (rfl | rfl) <;> rfl) (run_equal_iface_nil w hu)).1, .bool _⟩
      · cases h
        exact ⟨.bool true, w.drawn, (run_eql_of (P := P) w (t := t) (y := .nilIface) (by rintro op (rfl | rfl) <;> rfl) (run_equal_iface_nil w hu)).2, .bool _⟩
      · cases h
    · cases h
  · cases h
end
end Go.Ab
