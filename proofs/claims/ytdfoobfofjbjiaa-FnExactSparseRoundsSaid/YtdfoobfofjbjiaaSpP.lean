/- For every input the program's SparseRounds returns what the reference's returns: no conditions. -/
import Derived.Test.YtdfoobfofjbjiaaRows
import Derived.Test.YtdfoobfofjbjiaaSpN
import Derived.Test.YtdfoobfofjbjiaaAbOpen
set_option linter.unusedSimpArgs false
set_option linter.unusedVariables false
namespace Go.Proofs.Ytdfoobfofjbjiaa
open Go.ChangeShapes Go.WideShapes Go.ChangeAt Go.RowKit Go.Ab

theorem Try.own : ownKnob Try.prog.godebug = none := by kernel_rfl
theorem Try.laidOut : laidOutB Try.prog = true := by kernel_rfl
theorem cells_i64 : Try.prog.cellsOf 2 = 1 := by kernel_rfl
theorem cells_f32 : Try.prog.cellsOf 26 = 1 := by kernel_rfl
theorem sparse_fields : ∃ f0 f1 f2 f3 : Field, Try.prog.underlying 25 = some (.struct #[f0, f1, f2, f3]) ∧ f0.type = 2 ∧ f1.type = 22 ∧ f2.type = 22 ∧ f3.type = 23 ∧
    f0.offset = 0 ∧ f1.offset = 1 ∧ f2.offset = 2 ∧ f3.offset = 3 := ⟨_, _, _, _, Try.underlying25, rfl, rfl, rfl, rfl, rfl, rfl, rfl, rfl⟩

set_option maxRecDepth 100000 in
theorem sparse_av {H : Type} {enc : TypeId × Value → H} {W : World} {v : Value} {d : DataW H} {p : List MemPlace} {r : Reach} {b0 : Nat} (hval : Value.okWide Try.prog W r b0 25 v) (h : DataW.Trod enc Try.prog W 0 (fun _ => true) true 25 v d p) :
    ∃ (side : Int) (y z w : AV) (st co : List Int) (va : List Nat), Rel (M0 W) R0 (sparseAV side y z w) v ∧ Sl noHeap i64 y st ∧ Sl noHeap i64 z co ∧ Sl noHeap f32 w va ∧
      st.length ≤ 9223372036854775807 ∧ co.length ≤ 9223372036854775807 ∧ va.length ≤ 9223372036854775807 := by
  obtain ⟨f0, f1, f2, f3, hu, t0, t1, t2, t3, o0, o1, o2, o3⟩ := sparse_fields
  obtain ⟨cs, rfl, hsz⟩ := okWide_struct hu hval
  have hsz4 : cs.size = 4 := hsz.trans (by kernel_rfl)
  obtain ⟨fuel, hf⟩ := h
  obtain ⟨c0, c1, c2, c3, hcs⟩ : ∃ a b c d, cs = #[a, b, c, d] := by
    obtain ⟨l⟩ := cs
    simp at hsz4
    match l, hsz4 with
    | [a, b, c, d], _ => exact ⟨a, b, c, d, rfl⟩
  subst hcs
  have k22 : Try.prog.cellsOf 22 = 1 := by kernel_rfl
  have k23 : Try.prog.cellsOf 23 = 1 := by kernel_rfl
  obtain ⟨n0, y0, g0⟩ := trod_field hu hf 0 (f := f0) rfl
  obtain ⟨n1, y1, g1⟩ := trod_field hu hf 1 (f := f1) rfl
  obtain ⟨n2, y2, g2⟩ := trod_field hu hf 2 (f := f2) rfl
  obtain ⟨n3, y3, g3⟩ := trod_field hu hf 3 (f := f3) rfl
  rw [t0, o0, cells_i64] at g0
  rw [t1, o1, k22] at g1
  rw [t2, o2, k22] at g2
  rw [t3, o3, k23] at g3
  obtain ⟨m, e0, _⟩ := DataW.trod_int Try.underlying2 g0
  obtain ⟨v1, X1, x1, e1, r1, s1, l1⟩ := trod_ints_av Try.underlying22 Try.underlying2 cells_i64 g1
  obtain ⟨v2, X2, x2, e2, r2, s2, l2⟩ := trod_ints_av Try.underlying22 Try.underlying2 cells_i64 g2
  obtain ⟨v3, X3, x3, e3, r3, s3, l3⟩ := trod_floats_av Try.underlying23 Try.underlying26 cells_f32 g3
  simp [Value.cells] at e0 e1 e2 e3
  subst e0 e1 e2 e3
  refine ⟨m, X1, X2, X3, x1, x2, x3, ?_, s1, s2, s3, l1, l2, l3⟩
  have := ((RelL.one (Rel.int (M := M0 W) (ρ := R0) .i64 m)).append (RelL.one r1)).append ((RelL.one r2).append (RelL.one r3))
  exact .agg _ _ this.1 this.2

set_option maxRecDepth 100000 in
theorem sparseRounds_lifted (os : Os) (started : os.Started) (H : Type) (enc : TypeId × Value → H) :
    ReturnsInHanded {} Try.checked os 3 .any (Rows.fnExactSparseRoundsSpec.pre6 enc Try.prog Try.f3 Rows.fnExactSparseRoundsRow.domain false) (Rows.fnExactSparseRoundsSpec.post enc Try.prog Try.f3 false true false false) := by
  refine returnsInHanded_of_change (C := Try.checked) Try.own started (by kernel_rfl) Try.func3
    (ChangeSpec.witness6 (enc := enc) (C := Try.checked) false ⟨#[], #[.agg #[.int .i64 0, .slice none 0 0, .slice none 0 0, .slice none 0 0], .slice none 0 0, .float .f32 0, .float .f32 0, .int .i64 0], []⟩ 8 (by kernel_rfl) (by kernel_rfl) (by kernel_rfl) (by kernel_rfl)) ?_
  intro W base args ds gs before hval0 hW hcnd _
  have hval : ∀ (j : Nat) t v, Try.f3.params[j]? = some t → args[j]? = some v → Value.okWide Try.prog W .any base t v := hval0
  have hW' := hW
  obtain ⟨p, q, hA0, hV, rfl, hfz, hnd⟩ := hW
  have hA : DataW.TrodAll enc Try.prog W 0 (fun _ => true) true Try.f3.params.toList args.toList ds p := hA0
  rw [Try.params3] at hA hval
  obtain ⟨v0, vs, d0, ds0, p0, q0, ea, rfl, rfl, h0, hA⟩ := trodAll_cons hA
  obtain ⟨v1, vs, d1, ds1, p1, q1, rfl, rfl, rfl, h1, hA⟩ := trodAll_cons hA
  obtain ⟨v2, vs, d2, ds2, p2, q2, rfl, rfl, rfl, h2, hA⟩ := trodAll_cons hA
  obtain ⟨v3, vs, d3, ds3, p3, q3, rfl, rfl, rfl, h3, hA⟩ := trodAll_cons hA
  obtain ⟨v4, vs, d4, ds4, p4, q4, rfl, rfl, rfl, h4, hA⟩ := trodAll_cons hA
  obtain ⟨rfl, rfl, rfl⟩ := trodAll_nil hA
  have ea : args = #[v0, v1, v2, v3, v4] := by cases args; simp_all
  subst ea
  obtain ⟨side, y, z, w, st, co, va, r0, sy, sz', sw, ly, lz, lw⟩ := sparse_av (hval 0 _ v0 rfl rfl) h0
  obtain ⟨a1, len1, cap1, hv1⟩ := okWide_slice Try.underlying23 (hval 1 _ v1 rfl rfl)
  obtain ⟨b2, rfl⟩ := okWide_float Try.underlying26 (hval 2 _ v2 rfl rfl)
  obtain ⟨b3, rfl⟩ := okWide_float Try.underlying26 (hval 3 _ v3 rfl rfl)
  obtain ⟨m4, rfl⟩ := okWide_int Try.underlying2 (hval 4 _ v4 rfl rfl)
  obtain ⟨fuel, hf1⟩ := h1
  obtain ⟨u1, x, bs, e1, r1, sx, lx⟩ := trod_floats_av Try.underlying23 Try.underlying26 cells_f32 hf1
  subst hv1
  simp [Value.cells] at e1
  subst e1
  have hcall := calls_of_acalls (args := #[v0, .slice a1 len1 cap1, .float .f32 b2, .float .f32 b3, .int .i64 m4]) (W := W) Try.func3 (by kernel_rfl) (lawRounds noHeap sy sz' sw sx ly lz lw lx (canon .f32 b2) (canon .f32 b3) m4) (by
    have := ((RelL.one r0).append (RelL.one r1)).append (((RelL.one (Rel.float (M := M0 W) (ρ := R0) .f32 _ b2 rfl)).append (RelL.one (Rel.float (M := M0 W) (ρ := R0) .f32 _ b3 rfl))).append (RelL.one (Rel.int (M := M0 W) (ρ := R0) .i64 m4)))
    exact this)
  refine hcall.mono fun e W' ⟨he, hb⟩ => ?_
  subst he
  refine ⟨_, rfl, law_post Try.laidOut hW' hb ?_ rfl (tb := 4) (by kernel_rfl) Try.underlying4 ?_⟩
  · intro t ht
    have ht' : t ∈ Try.f3.params.toList := ht
    rw [Try.params3] at ht'
    simp at ht'
    rcases ht' with rfl | rfl | rfl | rfl <;> exact ⟨by kernel_rfl, by decide +kernel⟩
  · cases gs with
    | nil => exact ⟨rfl, rfl, rfl⟩
    | cons _ _ => exact hV.elim

theorem sparseRounds_holds : Rows.FnExactSparseRoundsSaid :=
  OpenClaim.holds_of_wide 3 Try.f3 rfl rfl rfl rfl rfl rfl rfl ⟨rfl, rfl, rfl, rfl, rfl⟩ rfl rfl rfl rfl rfl (by kernel_rfl) Try.func3 (by kernel_rfl)
    (of_decide_eq_true (by kernel_rfl)) (by unfold Func.isWrapper; first | (rw [if_pos (by decide +kernel)]; kernel_rfl) | (rw [if_neg (by decide +kernel)]; exact ⟨rfl, rfl⟩))
    (fun os started H enc _ => sparseRounds_lifted os started H enc)
end Go.Proofs.Ytdfoobfofjbjiaa
#print axioms Go.Proofs.Ytdfoobfofjbjiaa.sparseRounds_holds
