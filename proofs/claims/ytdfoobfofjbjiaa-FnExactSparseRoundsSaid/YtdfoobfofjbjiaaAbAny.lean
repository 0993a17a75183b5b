/- A region whose order is drawn: every order that its edges let comes to the same. -/
import Derived.Test.YtdfoobfofjbjiaaAbRegion
set_option linter.unusedSimpArgs false
set_option linter.unusedVariables false
namespace Go.Ab

section congr
variable {P : Program} {fr fr' : Fr} {H : AHeap} {o : Oper} {K : AV → AHeap → Prop}

theorem evs_congr (xs : Array Operand) (h : ∀ x ∈ xs, ev fr x = ev fr' x) : xs.toList.map (ev fr) = xs.toList.map (ev fr') :=
  List.map_congr_left fun x hx => h x (by simpa using hx)
theorem evps_congr (ps : Array (Nat × Operand)) (h : ∀ x ∈ ps.map (·.2), ev fr x = ev fr' x) : (ps.toList.map fun p => (p.1, ev fr p.2)) = ps.toList.map fun p => (p.1, ev fr' p.2) :=
  List.map_congr_left fun p hp => by rw [h p.2 (Array.mem_map.2 ⟨p, by simpa using hp, rfl⟩)]
theorem evo_congr (x : Option Operand) (h : ∀ y, x = some y → ev fr y = ev fr' y) : x.map (ev fr) = x.map (ev fr') := by
  cases x with
  | none => rfl
  | some y => simp [h y rfl]

theorem aop_congr (h : ∀ x ∈ o.op.operands, ev fr x = ev fr' x) : aop P fr H o K = aop P fr' H o K := by
  unfold aop
  cases ho : o.op <;> simp only [ho, Op.operands] at h <;> (try rfl) <;> (try (simp at h; simp only [h]; done))
  case makeMap t r => cases r <;> rfl
  case build t ps => simp only [evps_congr ps (fun x hx => h x (by simpa using hx))]
  case buildSlice t n ps => simp only [evps_congr ps (fun x hx => h x (by simpa using hx))]
  case makeFunc fn xs ys => simp only [evs_congr xs (fun x hx => h x (by simp [hx])), evs_congr ys (fun x hx => h x (by simp [hx]))]
  case slice t x lo hi mx =>
    simp only [h x (by simp), evo_congr lo (fun y e => h y (by simp [e])), evo_congr hi (fun y e => h y (by simp [e])), evo_congr mx (fun y e => h y (by simp [e]))]
  case call c =>
    have ha := evs_congr c.args (fun x hx => h x (by simp [Call.operands, hx]))
    simp only [ha]
    cases hc : c.callee with
    | value f => simp only [h f (by simp [Call.operands, hc])]
    | invoke r m => rfl
    | builtin b => cases b <;> rfl
theorem aguard_congr {ops : Array Oper} (h : ∀ t ∈ o.looksAt ops, fr t = fr' t) : aguard ops fr o = aguard ops fr' o := by
  unfold aguard
  cases hg : o.guard with
  | none => rfl
  | some gw =>
    obtain ⟨j, want⟩ := gw
    simp only
    cases ht : (ops[j]?).bind (·.dst) with
    | none => rfl
    | some t =>
      have : fr t = fr' t := h t (by simp [Oper.looksAt, hg, ht])
      simp only [this]
theorem ev_congr {ops : Array Oper} (h : ∀ t ∈ o.looksAt ops, fr t = fr' t) : ∀ x ∈ o.op.operands, ev fr x = ev fr' x := by
  intro x hx
  cases x with
  | tmp t =>
    refine h t ?_
    exact List.mem_append_left _ (List.mem_filterMap.2 ⟨.tmp t, by simpa using hx, rfl⟩)
  | _ => rfl
end congr

section bubble
variable {P : Program} {ops : Array Oper} {H : AHeap} {K : Fr → AHeap → Prop}
theorem apart_spec {x y : Oper} (h : apart ops x y = true) : (∀ d, x.dst = some d → y.dst ≠ some d ∧ d ∉ y.looksAt ops) ∧ ∀ d, y.dst = some d → d ∉ x.looksAt ops := by
  unfold apart at h
  cases hx : x.dst <;> cases hy : y.dst <;> simp [hx, hy] at h
  · exact ⟨fun d e => (by cases e), fun d e => (by cases e)⟩
  · exact ⟨fun d e => (by cases e), fun d e => (by cases e; exact h)⟩
  · exact ⟨fun d e => (by cases e; exact ⟨by simp, h⟩), fun d e => (by cases e)⟩
  · exact ⟨fun d e => (by cases e; exact ⟨(by simp; exact fun e => h.1.1 e.symm), h.1.2⟩), fun d e => (by cases e; exact h.2)⟩
theorem put_comm {x y : Oper} (h : apart ops x y = true) (fr : Fr) (u v : AV) : (fr.put x.dst u).put y.dst v = (fr.put y.dst v).put x.dst u := by
  obtain ⟨h1, _⟩ := apart_spec h
  cases hx : x.dst with
  | none => simp [Fr.put]
  | some d =>
    cases hy : y.dst with
    | none => simp [Fr.put]
    | some e =>
      have hne : d ≠ e := by have := (h1 d hx).1; rw [hy] at this; intro e'; exact this (by rw [e'])
      funext t
      simp only [Fr.put]
      by_cases e1 : t = e
      · subst e1; rw [if_pos rfl, if_neg (fun e => hne e.symm), if_pos rfl]
      · rw [if_neg e1, if_neg e1]
theorem look_y {x y : Oper} (h : apart ops x y = true) (fr : Fr) (u : AV) : ∀ t ∈ y.looksAt ops, (fr.put x.dst u) t = fr t := by
  intro t ht
  cases hx : x.dst with
  | none => rfl
  | some d =>
    simp only [Fr.put]
    rw [if_neg]
    intro e; subst e
    exact ((apart_spec h).1 t hx).2 ht
theorem look_x {x y : Oper} (h : apart ops x y = true) (fr : Fr) (u : AV) : ∀ t ∈ x.looksAt ops, (fr.put y.dst u) t = fr t := by
  intro t ht
  cases hy : y.dst with
  | none => rfl
  | some d =>
    simp only [Fr.put]
    rw [if_neg]
    intro e; subst e
    exact (apart_spec h).2 t hy ht

theorem AWD_pe (os : List (Oper × Kind)) : ∀ (pe pe' : List (Oper × Fr × AV)) (fr : Fr) (H : AHeap), AWD P ops os pe fr H K → (∀ H', Again P H' pe → Again P H' pe') → AWD P ops os pe' fr H K := by
  induction os with
  | nil => intro pe pe' fr H h _; exact h
  | cons p os ih =>
    obtain ⟨o, k⟩ := p
    intro pe pe' fr H h hpe
    simp only [AWD] at h ⊢
    split at h
    · by_cases hb : k = .b
      · simp only [if_pos hb] at h ⊢; exact h
      · by_cases hm : k = .m
        · simp only [if_neg hb, if_pos hm] at h ⊢
          exact aop_mono (fun v H' h => ⟨hpe H' h.1, ih _ _ _ _ h.2 hpe⟩) h
        · by_cases ha : k = .a
          · simp only [if_neg hb, if_neg hm, if_pos ha] at h ⊢
            exact aop_mono (fun v H' h => ih _ _ _ _ h hpe) h
          simp only [if_neg hb, if_neg hm, if_neg ha] at h ⊢
          obtain ⟨v, h1, h2⟩ := h
          exact ⟨v, h1, ih _ _ _ _ h2 (fun H' h => h.map (fun _ => rfl) (hpe H'))⟩
    · exact ih _ _ _ _ h hpe
    · exact h.elim

theorem front_s {o : Oper} {k : Kind} (hb : k ≠ .b) (hm : k ≠ .m) (ha : k ≠ .a) {β : List (Oper × Kind)} (α : List (Oper × Kind)) : ∀ (pe : List (Oper × Fr × AV)) (fr : Fr), (∀ p ∈ α, (p.2 ≠ .b ∧ p.2 ≠ .m ∧ p.2 ≠ .a) ∧ apart ops p.1 o = true) → AWD P ops (α ++ (o, k) :: β) pe fr H K →
    (aguard ops fr o = some true ∧ ∃ v, aop P fr H o (fun v' H' => v' = v ∧ H' = H) ∧ AWD P ops (α ++ β) pe (fr.put o.dst v) H K) ∨
    (aguard ops fr o = some false ∧ AWD P ops (α ++ β) pe (fr.put o.dst skipped) H K) := by
  induction α with
  | nil =>
    intro pe fr _ h
    simp only [List.nil_append, AWD, if_neg hb, if_neg hm, if_neg ha] at h ⊢
    split at h
    · rename_i hg
      obtain ⟨v, h1, h2⟩ := h
      exact .inl ⟨hg, v, h1, AWD_pe _ _ _ _ _ h2 (fun _ h => h.tl)⟩
    · rename_i hg; exact .inr ⟨hg, h⟩
    · exact h.elim
  | cons p α ih =>
    obtain ⟨x, k'⟩ := p
    intro pe fr hα h
    obtain ⟨⟨hb', hm', ha'⟩, hap⟩ := hα (x, k') (by simp)
    simp only at hb' hm' ha' hap
    have hα' : ∀ p ∈ α, (p.2 ≠ .b ∧ p.2 ≠ .m ∧ p.2 ≠ .a) ∧ apart ops p.1 o = true := fun p hp => hα p (by simp [hp])
    simp only [List.cons_append, AWD, if_neg hb', if_neg hm', if_neg ha'] at h ⊢
    split at h
    · rename_i hg
      obtain ⟨u, h1, h2⟩ := h
      rcases ih _ _ hα' h2 with ⟨g1, v, g2, g3⟩ | ⟨g1, g3⟩
      · rw [aguard_congr (look_y hap fr u)] at g1
        rw [aop_congr (ev_congr (look_y hap fr u))] at g2
        refine .inl ⟨g1, v, g2, ?_⟩
        rw [aguard_congr (look_x hap fr v), hg]
        refine ⟨u, by rw [aop_congr (ev_congr (look_x hap fr v))]; exact h1, ?_⟩
        rw [← put_comm hap]
        exact AWD_pe _ _ _ _ _ g3 (fun H' h => h.map (fun K => aop_congr (ev_congr (look_x hap fr v))) (fun h => h))
      · rw [aguard_congr (look_y hap fr u)] at g1
        refine .inr ⟨g1, ?_⟩
        rw [aguard_congr (look_x hap fr skipped), hg]
        refine ⟨u, by rw [aop_congr (ev_congr (look_x hap fr skipped))]; exact h1, ?_⟩
        rw [← put_comm hap]
        exact AWD_pe _ _ _ _ _ g3 (fun H' h => h.map (fun K => aop_congr (ev_congr (look_x hap fr skipped))) (fun h => h))
    · rename_i hg
      rcases ih _ _ hα' h with ⟨g1, v, g2, g3⟩ | ⟨g1, g3⟩
      · rw [aguard_congr (look_y hap fr skipped)] at g1
        rw [aop_congr (ev_congr (look_y hap fr skipped))] at g2
        refine .inl ⟨g1, v, g2, ?_⟩
        rw [aguard_congr (look_x hap fr v), hg]
        simp only
        rw [← put_comm hap]; exact g3
      · rw [aguard_congr (look_y hap fr skipped)] at g1
        refine .inr ⟨g1, ?_⟩
        rw [aguard_congr (look_x hap fr skipped), hg]
        simp only
        rw [← put_comm hap]; exact g3
    · exact h.elim

theorem front_m {o : Oper} {β : List (Oper × Kind)} (α : List (Oper × Kind)) : ∀ (pe : List (Oper × Fr × AV)) (fr : Fr), (∀ p ∈ α, p.2 = .s ∧ apart ops p.1 o = true) → AWD P ops (α ++ (o, .m) :: β) pe fr H K →
    (aguard ops fr o = some true ∧ aop P fr H o fun v H' => Again P H' pe ∧ AWD P ops (α ++ β) pe (fr.put o.dst v) H' K) ∨
    (aguard ops fr o = some false ∧ AWD P ops (α ++ β) pe (fr.put o.dst skipped) H K) := by
  have hb : Kind.m ≠ .b := by decide
  have sb : Kind.s ≠ .b := by decide
  have sm : Kind.s ≠ .m := by decide
  have sa : Kind.s ≠ .a := by decide
  induction α with
  | nil =>
    intro pe fr _ h
    simp only [List.nil_append, AWD, if_neg hb, if_true] at h ⊢
    split at h
    · rename_i hg; exact .inl ⟨hg, h⟩
    · rename_i hg; exact .inr ⟨hg, h⟩
    · exact h.elim
  | cons p α ih =>
    obtain ⟨x, k⟩ := p
    intro pe fr hα h
    obtain ⟨hk, hap⟩ := hα (x, k) (by simp)
    simp only at hk hap
    subst hk
    have hα' : ∀ p ∈ α, p.2 = .s ∧ apart ops p.1 o = true := fun p hp => hα p (by simp [hp])
    simp only [List.cons_append, AWD, if_neg sb, if_neg sm, if_neg sa] at h ⊢
    split at h
    · rename_i hg
      obtain ⟨u, h1, h2⟩ := h
      rcases ih _ _ hα' h2 with ⟨g1, g2⟩ | ⟨g1, g3⟩
      · rw [aguard_congr (look_y hap fr u)] at g1
        rw [aop_congr (ev_congr (look_y hap fr u))] at g2
        refine .inl ⟨g1, aop_mono (fun v H' h => ⟨h.1.tl, ?_⟩) g2⟩
        rw [aguard_congr (look_x hap fr v), hg]
        refine ⟨u, by rw [aop_congr (ev_congr (look_x hap fr v))]; exact (show Again P H' ((x, fr, u) :: pe) from h.1).1, ?_⟩
        rw [← put_comm hap]
        exact AWD_pe _ _ _ _ _ h.2 (fun H' h => h.map (fun K => aop_congr (ev_congr (look_x hap fr v))) (fun h => h))
      · rw [aguard_congr (look_y hap fr u)] at g1
        refine .inr ⟨g1, ?_⟩
        rw [aguard_congr (look_x hap fr skipped), hg]
        refine ⟨u, by rw [aop_congr (ev_congr (look_x hap fr skipped))]; exact h1, ?_⟩
        rw [← put_comm hap]
        exact AWD_pe _ _ _ _ _ g3 (fun H' h => h.map (fun K => aop_congr (ev_congr (look_x hap fr skipped))) (fun h => h))
    · rename_i hg
      rcases ih _ _ hα' h with ⟨g1, g2⟩ | ⟨g1, g3⟩
      · rw [aguard_congr (look_y hap fr skipped)] at g1
        rw [aop_congr (ev_congr (look_y hap fr skipped))] at g2
        refine .inl ⟨g1, aop_mono (fun v H' h => ⟨h.1, ?_⟩) g2⟩
        rw [aguard_congr (look_x hap fr v), hg]
        simp only
        rw [← put_comm hap]; exact h.2
      · rw [aguard_congr (look_y hap fr skipped)] at g1
        refine .inr ⟨g1, ?_⟩
        rw [aguard_congr (look_x hap fr skipped), hg]
        simp only
        rw [← put_comm hap]; exact g3
    · exact h.elim

/-- There is room for new blocks. -/
def Room (H : AHeap) : Prop := ∃ N, ∀ id, N ≤ id → H id = none
theorem Room.set {H : AHeap} (h : Room H) (id : Nat) (b : Option Blk) : Room (H.set id b) := by
  obtain ⟨N, hN⟩ := h
  exact ⟨max N (id + 1), fun i hi => by rw [AHeap.set_ne _ _ (by omega)]; exact hN i (by omega)⟩
theorem AHeap.set_swap (H : AHeap) {i j : Nat} (b c : Option Blk) (h : i ≠ j) : (H.set i b).set j c = (H.set j c).set i b := by
  funext k; simp only [AHeap.set]
  by_cases h1 : k = i <;> by_cases h2 : k = j <;> simp_all
theorem aNew_congr {fr fr' : Fr} {o : Oper} (h : ∀ x ∈ o.op.operands, ev fr x = ev fr' x) : aNew P fr o = aNew P fr' o := by
  unfold aNew
  cases ho : o.op <;> simp only [ho, Op.operands] at h <;> (try rfl) <;> (try (simp at h; simp only [h]; done))
  case makeMap t r => cases r <;> rfl

theorem front_a {o : Oper} (hn : isNew o = true) {β : List (Oper × Kind)} (α : List (Oper × Kind)) : ∀ (pe : List (Oper × Fr × AV)) (fr : Fr) (H : AHeap), Room H →
    (∀ p ∈ α, (((p.2 = .s ∨ p.2 = .q) ∧ stableOp p.1 = true) ∨ (p.2 = .a ∧ isNew p.1 = true)) ∧ apart ops p.1 o = true) → AWD P ops (α ++ (o, .a) :: β) pe fr H K →
    (aguard ops fr o = some true ∧ aop P fr H o fun v H' => AWD P ops (α ++ β) pe (fr.put o.dst v) H' K) ∨
    (aguard ops fr o = some false ∧ AWD P ops (α ++ β) pe (fr.put o.dst skipped) H K) := by
  have ab : Kind.a ≠ .b := by decide
  have am : Kind.a ≠ .m := by decide
  induction α with
  | nil =>
    intro pe fr H _ _ h
    simp only [List.nil_append, AWD, if_neg ab, if_neg am, if_true] at h ⊢
    split at h
    · rename_i hg; exact .inl ⟨hg, h⟩
    · rename_i hg; exact .inr ⟨hg, h⟩
    · exact h.elim
  | cons p α ih =>
    obtain ⟨x, k⟩ := p
    intro pe fr H hr hα h
    obtain ⟨hk, hap⟩ := hα (x, k) (by simp)
    simp only at hk hap
    have hα' : ∀ p ∈ α, (((p.2 = .s ∨ p.2 = .q) ∧ stableOp p.1 = true) ∨ (p.2 = .a ∧ isNew p.1 = true)) ∧ apart ops p.1 o = true := fun p hp => hα p (by simp [hp])
    rcases hk with ⟨hsq, hst⟩ | ⟨rfl, hnx⟩
    · have kb : k ≠ .b := by rcases hsq with rfl | rfl <;> decide
      have km : k ≠ .m := by rcases hsq with rfl | rfl <;> decide
      have ka : k ≠ .a := by rcases hsq with rfl | rfl <;> decide
      simp only [List.cons_append, AWD, if_neg kb, if_neg km, if_neg ka] at h ⊢
      split at h
      · rename_i hg
        obtain ⟨u, h1, h2⟩ := h
        rcases ih _ _ _ hr hα' h2 with ⟨g1, g2⟩ | ⟨g1, g3⟩
        · rw [aguard_congr (look_y hap fr u)] at g1
          rw [aop_congr (ev_congr (look_y hap fr u))] at g2
          refine .inl ⟨g1, ?_⟩
          rw [aop_new hn] at g2 ⊢
          obtain ⟨zo, z1, z2⟩ := g2
          refine ⟨zo, z1, fun id hid => ?_⟩
          rw [aguard_congr (look_x hap fr _), hg]
          refine ⟨u, by rw [aop_congr (ev_congr (look_x hap fr _))]; exact aop_stable hst _ hid h1, ?_⟩
          rw [← put_comm hap]
          exact AWD_pe _ _ _ _ _ (z2 id hid) (fun H' h => h.map (fun K => aop_congr (ev_congr (look_x hap fr _))) (fun h => h))
        · rw [aguard_congr (look_y hap fr u)] at g1
          refine .inr ⟨g1, ?_⟩
          rw [aguard_congr (look_x hap fr skipped), hg]
          refine ⟨u, by rw [aop_congr (ev_congr (look_x hap fr skipped))]; exact h1, ?_⟩
          rw [← put_comm hap]
          exact AWD_pe _ _ _ _ _ g3 (fun H' h => h.map (fun K => aop_congr (ev_congr (look_x hap fr skipped))) (fun h => h))
      · rename_i hg
        rcases ih _ _ _ hr hα' h with ⟨g1, g2⟩ | ⟨g1, g3⟩
        · rw [aguard_congr (look_y hap fr skipped)] at g1
          rw [aop_congr (ev_congr (look_y hap fr skipped))] at g2
          refine .inl ⟨g1, aop_mono (fun v H' h => ?_) g2⟩
          rw [aguard_congr (look_x hap fr v), hg]
          simp only
          rw [← put_comm hap]; exact h
        · rw [aguard_congr (look_y hap fr skipped)] at g1
          refine .inr ⟨g1, ?_⟩
          rw [aguard_congr (look_x hap fr skipped), hg]
          simp only
          rw [← put_comm hap]; exact g3
      · exact h.elim
    · simp only [List.cons_append, AWD, if_neg ab, if_neg am, if_true] at h ⊢
      split at h
      · rename_i hg
        rw [aop_new hnx] at h
        obtain ⟨zx, x1, x2⟩ := h
        have key : ∀ id1, H id1 = none → _ := fun id1 hid1 => ih _ _ _ (hr.set id1 (some zx.2)) hα' (x2 id1 hid1)
        have hlx : ∀ v, aop P (fr.put o.dst v) H x = aop P fr H x := fun v => by funext K; exact aop_congr (ev_congr (look_x hap fr v))
        obtain ⟨N, hN⟩ := hr
        cases hgo : aguard ops fr o with
        | none =>
          rcases key N (hN N (Nat.le_refl _)) with ⟨g1, _⟩ | ⟨g1, _⟩ <;> rw [aguard_congr (look_y hap fr _), hgo] at g1 <;> cases g1
        | some c =>
          cases c with
          | true =>
            refine .inl ⟨rfl, ?_⟩
            have key2 : ∀ id1, H id1 = none → ∃ z, aNew P fr o = some z ∧ ∀ id, (H.set id1 (some zx.2)) id = none → AWD P ops (α ++ β) pe ((fr.put x.dst (zx.1 id1)).put o.dst (z.1 id)) ((H.set id1 (some zx.2)).set id (some z.2)) K := by
              intro id1 hid1
              rcases key id1 hid1 with ⟨g1, g2⟩ | ⟨g1, _⟩
              · rw [aop_new hn] at g2
                obtain ⟨z, z1, z2⟩ := g2
                rw [aNew_congr (ev_congr (look_y hap fr _))] at z1
                exact ⟨z, z1, z2⟩
              · rw [aguard_congr (look_y hap fr _), hgo] at g1; cases g1
            rw [aop_new hn]
            obtain ⟨zo, z1, _⟩ := key2 N (hN N (Nat.le_refl _))
            refine ⟨zo, z1, fun id2 hid2 => ?_⟩
            rw [aguard_congr (look_x hap fr _), hg]
            simp only
            rw [aop_new hnx]
            refine ⟨zx, by rw [aNew_congr (ev_congr (look_x hap fr _))]; exact x1, fun id1 hid1 => ?_⟩
            have hne : id1 ≠ id2 := by rintro rfl; rw [AHeap.set_same] at hid1; cases hid1
            rw [AHeap.set_ne _ _ hne] at hid1
            obtain ⟨z, z1', z2⟩ := key2 id1 hid1
            rw [z1] at z1'; cases z1'
            have := z2 id2 (by rw [AHeap.set_ne _ _ (Ne.symm hne)]; exact hid2)
            rw [put_comm hap, AHeap.set_swap _ _ _ hne] at this
            exact this
          | false =>
            refine .inr ⟨rfl, ?_⟩
            rw [aguard_congr (look_x hap fr _), hg]
            simp only
            rw [aop_new hnx]
            refine ⟨zx, by rw [aNew_congr (ev_congr (look_x hap fr _))]; exact x1, fun id1 hid1 => ?_⟩
            rcases key id1 hid1 with ⟨g1, _⟩ | ⟨_, g3⟩
            · rw [aguard_congr (look_y hap fr _), hgo] at g1; cases g1
            · rw [← put_comm hap]; exact g3
      · rename_i hg
        rcases ih _ _ _ hr hα' h with ⟨g1, g2⟩ | ⟨g1, g3⟩
        · rw [aguard_congr (look_y hap fr skipped)] at g1
          rw [aop_congr (ev_congr (look_y hap fr skipped))] at g2
          refine .inl ⟨g1, aop_mono (fun v H' h => ?_) g2⟩
          rw [aguard_congr (look_x hap fr v), hg]
          simp only
          rw [← put_comm hap]; exact h
        · rw [aguard_congr (look_y hap fr skipped)] at g1
          refine .inr ⟨g1, ?_⟩
          rw [aguard_congr (look_x hap fr skipped), hg]
          simp only
          rw [← put_comm hap]; exact g3
      · exact h.elim
end bubble

theorem fold_mask (t : List Nat) (i : Nat) (l : List Nat) : ∀ (a : Nat), (l.foldl (fun m i => m ||| 2 ^ i ||| t.getD i 0) a).testBit i = true → a.testBit i = true ∨ ∃ k ∈ l, i = k ∨ (t.getD k 0).testBit i = true := by
  induction l with
  | nil => intro a h; exact .inl h
  | cons k l ih =>
    intro a h
    rcases ih _ h with h1 | ⟨k', h1, h2⟩
    · simp only [Nat.testBit_or, Nat.testBit_two_pow, Bool.or_eq_true, decide_eq_true_eq] at h1
      rcases h1 with (h1 | h1) | h1
      · exact .inl h1
      · exact .inr ⟨k, by simp, .inl h1.symm⟩
      · exact .inr ⟨k, by simp, .inr h1⟩
    · exact .inr ⟨k', by simp [h1], h2⟩
theorem masks_length (ops : Array Oper) (n : Nat) : (masks ops n).length = n := by
  induction n with
  | zero => rfl
  | succ n ih => simp [masks, ih]
theorem behind_closed {ops : Array Oper} {D : Nat → Prop} (hD : ∀ j, D j → ∀ i ∈ direct ops j, D i) : ∀ (n j : Nat), (∀ i ∈ direct ops j, D i) → ∀ i, ((masks ops n).getD j 0).testBit i = true → D i := by
  intro n
  induction n with
  | zero => intro j _ i h; simp [masks] at h
  | succ n ih =>
    intro j hj i h
    simp only [masks] at h
    have hl := masks_length ops n
    rcases Nat.lt_trichotomy j n with h1 | h1 | h1
    · rw [List.getD_eq_getElem?_getD, List.getElem?_append_left (by omega), ← List.getD_eq_getElem?_getD] at h
      exact ih j hj i h
    · subst h1
      rw [List.getD_eq_getElem?_getD, List.getElem?_append_right (by omega), hl, Nat.sub_self] at h
      simp only [List.getElem?_cons_zero, Option.getD_some] at h
      rcases fold_mask _ _ _ _ h with h2 | ⟨k, h2, h3⟩
      · simp at h2
      · rcases h3 with rfl | h3
        · exact hj _ h2
        · exact ih k (hD k (hj k h2)) i h3
    · rw [List.getD_eq_getElem?_getD, List.getElem?_eq_none (by simp; omega)] at h
      simp at h

theorem ready_spec {ops : Array Oper} {listed : Array Bool} (hsz : listed.size = ops.size) {i : Nat} : i ∈ Region.ready .any ops listed ↔
    i < ops.size ∧ listed.getD i false = false ∧ ∀ j ∈ direct ops i, listed.getD j false = true := by
  simp only [Region.ready, List.mem_filter, List.mem_range, Bool.and_eq_true, Bool.not_eq_true']
  constructor
  · rintro ⟨h1, h2, h3⟩
    refine ⟨h1, ?_, fun j hj => ?_⟩
    · have : i < listed.size := by omega
      simp [Array.getD, this] at h2 ⊢; exact h2
    · have ho : ops[i]? = some ops[i] := Array.getElem?_eq_getElem h1
      simp only [ho, Option.map_some, Option.getD_some, Array.all_eq_true_iff_forall_mem] at h3
      simp only [direct, ho, List.mem_map, List.mem_filter] at hj
      obtain ⟨e, ⟨he, hb⟩, rfl⟩ := hj
      have := h3 e (by simpa using he)
      simpa [hb] using this
  · rintro ⟨h1, h2, h3⟩
    have : i < listed.size := by omega
    refine ⟨h1, by simp [Array.getD, this] at h2 ⊢; exact h2, ?_⟩
    have ho : ops[i]? = some ops[i] := Array.getElem?_eq_getElem h1
    simp only [ho, Option.map_some, Option.getD_some, Array.all_eq_true_iff_forall_mem]
    intro e he
    cases hb : Region.binds .any e
    · simp
    · have := h3 e.on (by simp only [direct, ho, List.mem_map, List.mem_filter]; exact ⟨e, ⟨by simpa using he, hb⟩, rfl⟩)
      simp [this]

/-- How many operations are still to come. -/
def left (ops : Array Oper) (listed : Array Bool) : Nat := (List.range ops.size).countP fun i => !listed.getD i false
theorem countP_drop {i : Nat} (p q : Nat → Bool) (l : List Nat) (hi : i ∈ l) (hp : p i = true) (hq : q i = false) (hne : ∀ j, q j = true → p j = true) : l.countP q < l.countP p := by
  induction l with
  | nil => simp at hi
  | cons x l ih =>
    simp only [List.countP_cons]
    have hle : l.countP q ≤ l.countP p := List.countP_mono_left fun j _ h => hne j h
    rcases List.mem_cons.1 hi with e | h
    · subst e; rw [hp, hq]; simp; omega
    · have := ih h
      have h2 : (if q x = true then 1 else 0) ≤ (if p x = true then 1 else 0) := by
        cases hqx : q x
        · simp
        · rw [hne x hqx]; exact Nat.le_refl _
      omega
theorem left_drop {ops : Array Oper} {listed : Array Bool} (hsz : listed.size = ops.size) {i : Nat} (hi : i < ops.size) (hl : listed.getD i false = false) : left ops (listed.setIfInBounds i true) < left ops listed := by
  refine countP_drop _ _ _ (List.mem_range.2 hi) (by simp [hl]) ?_ ?_
  · have : i < listed.size := by omega
    simp [Array.getD, this]
  · intro j hj
    by_cases e : i = j
    · subst e
      have : i < listed.size := by omega
      simp [Array.getD, this] at hj
    · simp only [Array.getD_eq_getD_getElem?, Array.getElem?_setIfInBounds_ne e] at hj ⊢
      exact hj
theorem getD_set {listed : Array Bool} {i j : Nat} (hi : i < listed.size) : (listed.setIfInBounds i true).getD j false = (if j = i then true else listed.getD j false) := by
  by_cases e : j = i
  · subst e; rw [if_pos rfl]; simp [Array.getD, hi]
  · rw [if_neg e]; simp only [Array.getD_eq_getD_getElem?, Array.getElem?_setIfInBounds_ne (fun h => e h.symm)]

theorem getD_mono {listed : Array Bool} {i j : Nat} (hi : i < listed.size) (h : listed.getD j false = true) : (listed.setIfInBounds i true).getD j false = true := by
  rw [getD_set hi]; split
  · rfl
  · exact h

theorem opsOf_append (ops : Array Oper) (x y : List (Nat × Kind)) : opsOf ops (x ++ y) = opsOf ops x ++ opsOf ops y := by simp [opsOf]
theorem pairs_append {ops : Array Oper} {t : List Nat} {x y : List (Nat × Kind)} (h : pairs ops t (x ++ y) = true) : pairs ops t x = true ∧ pairs ops t y = true ∧ ∀ p ∈ x, ∀ q ∈ y, pairOK ops t p q = true := by
  induction x with
  | nil => exact ⟨rfl, h, fun p hp => by cases hp⟩
  | cons a x ih =>
    simp only [List.cons_append, pairs, Bool.and_eq_true, List.all_eq_true] at h ⊢
    obtain ⟨h1, h2, h3⟩ := ih h.2
    refine ⟨⟨fun q hq => h.1 q (by simp [hq]), h1⟩, h2, fun p hp q hq => ?_⟩
    rcases List.mem_cons.1 hp with rfl | hp
    · exact h.1 q (by simp [hq])
    · exact h3 p hp q hq
theorem pairs_of {ops : Array Oper} {t : List Nat} {x y : List (Nat × Kind)} (h1 : pairs ops t x = true) (h2 : pairs ops t y = true) (h3 : ∀ p ∈ x, ∀ q ∈ y, pairOK ops t p q = true) : pairs ops t (x ++ y) = true := by
  induction x with
  | nil => exact h2
  | cons a x ih =>
    simp only [List.cons_append, pairs, Bool.and_eq_true, List.all_eq_true] at h1 ⊢
    refine ⟨fun q hq => ?_, ih h1.2 (fun p hp => h3 p (by simp [hp]))⟩
    rcases List.mem_append.1 hq with hq | hq
    · exact h1.1 q hq
    · exact h3 a (by simp) q hq

theorem AWD_any {P : Program} {Q : Exit → Act → World → Prop} {K : Fr → AHeap → Prop} {ops : Array Oper} (hedge : ∀ i, i < ops.size → ∀ j ∈ direct ops i, j < i) {n : Nat} (hd : ∀ o ∈ ops.toList, dstOK n o.dst = true) :
    ∀ (fuel : Nat) (listed : Array Bool) (a : Act) (w : World) (M : Imm) (ρ : Locs) (H : AHeap) (g : Fr) (pl : List (Nat × Kind)),
    listed.size = ops.size → left ops listed ≤ fuel → (∀ j, listed.getD j false = true → ∀ i ∈ direct ops j, listed.getD i false = true) →
    (∀ i, i < ops.size → listed.getD i false = false → i ∈ pl.map (·.1)) → (∀ p ∈ pl, p.1 < ops.size ∧ listed.getD p.1 false = false) → pairs ops (masks ops ops.size) pl = true →
    AWD P ops (opsOf ops pl) [] g H K → St M ρ H w → RelF M ρ g a → a.tmps.size = n →
    Post M ρ w n Q .normal K → wpAny P .any ops Q fuel listed a w := by
  have fin : ∀ (listed : Array Bool) (a : Act) (w : World) (M : Imm) (ρ : Locs) (H : AHeap) (g : Fr) (pl : List (Nat × Kind)), (∀ i, i < ops.size → listed.getD i false = true) →
      (∀ p ∈ pl, p.1 < ops.size ∧ listed.getD p.1 false = false) → AWD P ops (opsOf ops pl) [] g H K → St M ρ H w → RelF M ρ g a → a.tmps.size = n → Post M ρ w n Q .normal K → Q .normal a w := by
    intro listed a w M ρ H g pl hall hpl h hs hf hn hp
    have : pl = [] := by
      cases pl with
      | nil => rfl
      | cons p pl =>
        obtain ⟨h1, h2⟩ := hpl p (by simp)
        rw [hall _ h1] at h2; cases h2
    subst this
    exact hp _ _ _ _ _ _ (.refl ..) hs hf hn h
  intro fuel
  induction fuel with
  | zero =>
    intro listed a w M ρ H g pl hsz hleft hcl hin hpl hpr h hs hf hn hp
    have hall : ∀ i, i < ops.size → listed.getD i false = true := by
      intro i hi
      have h0 : left ops listed = 0 := by omega
      simp only [left, List.countP_eq_zero, List.mem_range] at h0
      simpa using h0 i hi
    refine ⟨?_, fin listed a w M ρ H g pl hall hpl h hs hf hn hp⟩
    rw [List.eq_nil_iff_forall_not_mem]
    intro i hi
    obtain ⟨h1, h2, _⟩ := (ready_spec hsz).1 hi
    rw [hall i h1] at h2; cases h2
  | succ fuel ih =>
    intro listed a w M ρ H g pl hsz hleft hcl hin hpl hpr h hs hf hn hp
    refine ⟨fun hr => ?_, fun i hi => ?_⟩
    · refine fin listed a w M ρ H g pl ?_ hpl h hs hf hn hp
      -- the least operation that is not done is ready
      intro i
      induction i using Nat.strongRecOn with
      | _ i ihi =>
        intro hi
        cases hli : listed.getD i false with
        | true => rfl
        | false =>
          have : i ∈ Region.ready .any ops listed := (ready_spec hsz).2 ⟨hi, hli, fun j hj => ihi j (hedge i hi j hj) (Nat.lt_trans (hedge i hi j hj) hi)⟩
          rw [hr] at this; cases this
    · obtain ⟨hin', hli, hdir⟩ := (ready_spec hsz).1 hi
      have hil : i < listed.size := by omega
      have hbeh : ∀ j, ((masks ops ops.size).getD i 0).testBit j = true → listed.getD j false = true := behind_closed (D := fun j => listed.getD j false = true) hcl _ _ hdir
      have ho : ops[i]? = some ops[i] := Array.getElem?_eq_getElem hin'
      have hdo : dstOK a.tmps.size ops[i].dst = true := by rw [hn]; exact hd _ (by simp)
      have hleft' : left ops (listed.setIfInBounds i true) ≤ fuel := by have := left_drop hsz hin' hli; omega
      have hcl' : ∀ j, (listed.setIfInBounds i true).getD j false = true → ∀ k ∈ direct ops j, (listed.setIfInBounds i true).getD k false = true := by
        intro j hj k hk
        rw [getD_set hil] at hj ⊢
        split
        · rfl
        · by_cases ej : j = i
          · subst ej; exact hdir k hk
          · rw [if_neg ej] at hj; exact hcl j hj k hk
      obtain ⟨p, hpm, hpi⟩ := List.mem_map.1 (hin i hin' hli)
      obtain ⟨α, β, rfl⟩ := List.append_of_mem hpm
      obtain ⟨i', k⟩ := p
      simp only at hpi
      subst hpi
      obtain ⟨hp1, hp2, hp3⟩ := pairs_append hpr
      simp only [pairs, Bool.and_eq_true, List.all_eq_true] at hp2
      have hα : ∀ p ∈ α, p.1 ≠ i' ∧ k ≠ .b ∧ (k = .a → isNew ops[i'] = true) ∧ ∀ x, ops[p.1]? = some x → apart ops x ops[i'] = true ∧ (((p.2 = .s ∨ p.2 = .q ∧ k ≠ .m) ∧ k ≠ .a) ∨ (k = .a ∧ (((p.2 = .s ∨ p.2 = .q) ∧ stableOp x = true) ∨ (p.2 = .a ∧ isNew x = true)))) := by
        intro p hp
        have h1 := hp3 p hp (i', k) (by simp)
        have h2 := hpl p (by simp [hp])
        have hpo : ops[p.1]? = some ops[p.1] := Array.getElem?_eq_getElem h2.1
        simp only [pairOK, hpo, ho, Bool.and_eq_true, bne_iff_ne, Bool.or_eq_true, decide_eq_true_eq] at h1
        refine ⟨h1.1, ?_⟩
        rcases h1.2 with h3 | ⟨h3, h4⟩
        · rw [hbeh p.1 h3] at h2; cases h2.2
        · rcases h4 with ⟨h5, h6, h7⟩ | ⟨⟨h5, h6⟩, h7⟩
          · refine ⟨h6, fun e => absurd e h7, fun x hx => ?_⟩
            rw [hpo] at hx; cases hx
            exact ⟨h3, .inl ⟨h5, h7⟩⟩
          · refine ⟨(by rw [h5]; decide), fun _ => h6, fun x hx => ?_⟩
            rw [hpo] at hx; cases hx
            exact ⟨h3, .inr ⟨h5, h7⟩⟩
      have hβ : ∀ p ∈ β, p.1 ≠ i' := by
        intro p hp
        have h1 := hp2.1 p hp
        simp only [pairOK, Bool.and_eq_true, bne_iff_ne] at h1
        exact fun e => h1.1 e.symm
      have hne : ∀ p ∈ α ++ β, p.1 ≠ i' := fun p hp => by
        rcases List.mem_append.1 hp with h | h
        · exact (hα p h).1
        · exact hβ p h
      have hin2 : ∀ j, j < ops.size → (listed.setIfInBounds i' true).getD j false = false → j ∈ (α ++ β).map (·.1) := by
        intro j hj hlj
        rw [getD_set hil] at hlj
        split at hlj
        · cases hlj
        · rename_i hji
          have := hin j hj hlj
          simp only [List.map_append, List.map_cons, List.mem_append, List.mem_cons] at this ⊢
          rcases this with h | h | h
          · exact .inl h
          · exact absurd h hji
          · exact .inr h
      have hpl2 : ∀ p ∈ α ++ β, p.1 < ops.size ∧ (listed.setIfInBounds i' true).getD p.1 false = false := by
        intro p hp
        have h1 := hpl p (by rcases List.mem_append.1 hp with h | h <;> simp [h])
        rw [getD_set hil, if_neg (hne p hp)]
        exact h1
      have hpr2 : pairs ops (masks ops ops.size) (α ++ β) = true := pairs_of hp1 hp2.2 (fun p hp q hq => hp3 p hp q (by simp [hq]))
      have next : ∀ (M' : Imm) (ρ' : Locs) (w' : World) (x : AV) (u : Value) (H' : AHeap), Ext M ρ w M' ρ' w' → St M' ρ' H' w' → Rel M' ρ' x u →
          AWD P ops (opsOf ops (α ++ β)) [] (g.put ops[i'].dst x) H' K → wpAny P .any ops Q fuel (listed.setIfInBounds i' true) (a.put ops[i'].dst u) w' := by
        intro M' ρ' w' x u H' he' hs' hu hk
        exact ih (listed.setIfInBounds i' true) _ w' M' ρ' H' _ (α ++ β) (by simpa using hsz) hleft' hcl' hin2 hpl2 hpr2 hk hs' ((hf.ext he').put hdo hu) (by rw [Act.put_size]; exact hn) (hp.ext he')
      have hcons : opsOf ops ((i', k) :: β) = (ops[i'], k) :: opsOf ops β := by simp [opsOf, ho]
      rw [opsOf_append, hcons] at h
      rw [opsOf_append] at next
      have hα2 : ∀ p ∈ opsOf ops α, apart ops p.1 ops[i'] = true ∧ (((p.2 = .s ∨ p.2 = .q ∧ k ≠ .m) ∧ k ≠ .a) ∨ (k = .a ∧ (((p.2 = .s ∨ p.2 = .q) ∧ stableOp p.1 = true) ∨ (p.2 = .a ∧ isNew p.1 = true)))) := by
        intro p hp
        simp only [opsOf, List.mem_filterMap, Option.map_eq_some_iff] at hp
        obtain ⟨q, hq, x, hx, rfl⟩ := hp
        exact (hα q hq).2.2.2 x hx
      unfold wpOp
      rw [ho]
      simp only
      by_cases hkb : k = .b
      · subst hkb
        have : α = [] := by
          cases α with
          | nil => rfl
          | cons p α => exact absurd rfl (hα p (by simp)).2.1
        subst this
        simp only [opsOf, List.filterMap_nil, List.nil_append] at h next
        simp only [AWD, if_true] at h
        split at h
        · rename_i hg
          rw [aguard_sound hf hg, if_pos rfl]
          refine .inl (aop_sound hs hf h ?_)
          intro v' H' u M' ρ' w' he' hs' hu h2
          exact next M' ρ' w' v' u _ he' hs' hu h2
        · rename_i hg
          rw [aguard_sound hf hg, if_neg (by simp)]
          exact next M ρ w skipped undef H (.refl ..) hs (rel_skipped ..) h
        · exact h.elim
      · by_cases hkm : k = .m
        · subst hkm
          have hαm : ∀ p ∈ opsOf ops α, p.2 = .s ∧ apart ops p.1 ops[i'] = true := fun p hp => by
            refine ⟨?_, (hα2 p hp).1⟩
            rcases (hα2 p hp).2 with ⟨h, _⟩ | ⟨h, _⟩
            · exact h.resolve_right (fun h => h.2 rfl)
            · cases h
          rcases front_m _ _ _ hαm h with ⟨hg, h1⟩ | ⟨hg, h2⟩
          · rw [aguard_sound hf hg, if_pos rfl]
            refine .inl (aop_sound hs hf h1 ?_)
            rintro v' H' u M' ρ' w' he' hs' hu ⟨_, h2⟩
            exact next M' ρ' w' v' u _ he' hs' hu h2
          · rw [aguard_sound hf hg, if_neg (by simp)]
            exact next M ρ w skipped undef H (.refl ..) hs (rel_skipped ..) h2
        · by_cases hka : k = .a
          · subst hka
            have hroom : Room H := by
              obtain ⟨N, hN⟩ := hs.fin
              refine ⟨N, fun id hid => ?_⟩
              cases e : H id with
              | none => rfl
              | some b => obtain ⟨l, o, h1, _⟩ := hs.own id b e; rw [hN id hid] at h1; cases h1
            have hfa : (aguard ops g ops[i'] = some true ∧ aop P g H ops[i'] fun v H' => AWD P ops (opsOf ops α ++ opsOf ops β) [] (g.put ops[i'].dst v) H' K) ∨
                (aguard ops g ops[i'] = some false ∧ AWD P ops (opsOf ops α ++ opsOf ops β) [] (g.put ops[i'].dst skipped) H K) := by
              cases hα0 : α with
              | nil =>
                subst hα0
                simp only [opsOf, List.filterMap_nil, List.nil_append] at h ⊢
                simp only [AWD, if_neg (show Kind.a ≠ .b by decide), if_neg (show Kind.a ≠ .m by decide), if_true] at h
                split at h
                · rename_i hg; exact .inl ⟨hg, h⟩
                · rename_i hg; exact .inr ⟨hg, h⟩
                · exact h.elim
              | cons p α' =>
                have hnw := (hα p (by rw [hα0]; simp)).2.2.1 rfl
                rw [← hα0]
                refine front_a hnw _ _ _ _ hroom (fun p hp => ?_) h
                refine ⟨?_, (hα2 p hp).1⟩
                rcases (hα2 p hp).2 with ⟨_, h⟩ | ⟨_, h⟩
                · exact absurd rfl h
                · exact h
            rcases hfa with ⟨hg, h1⟩ | ⟨hg, h2⟩
            · rw [aguard_sound hf hg, if_pos rfl]
              refine .inl (aop_sound hs hf h1 ?_)
              rintro v' H' u M' ρ' w' he' hs' hu h2
              exact next M' ρ' w' v' u _ he' hs' hu h2
            · rw [aguard_sound hf hg, if_neg (by simp)]
              exact next M ρ w skipped undef H (.refl ..) hs (rel_skipped ..) h2
          have hαs : ∀ p ∈ opsOf ops α, (p.2 ≠ .b ∧ p.2 ≠ .m ∧ p.2 ≠ .a) ∧ apart ops p.1 ops[i'] = true := fun p hp => by
            refine ⟨?_, (hα2 p hp).1⟩
            rcases (hα2 p hp).2 with ⟨h, _⟩ | ⟨h, _⟩
            · rcases h with e | ⟨e, _⟩ <;> rw [e] <;> exact ⟨by decide, by decide, by decide⟩
            · exact absurd h hka
          rcases front_s hkb hkm hka _ _ _ hαs h with ⟨hg, v, h1, h2⟩ | ⟨hg, h2⟩
          · rw [aguard_sound hf hg, if_pos rfl]
            refine .inl (aop_sound hs hf h1 ?_)
            rintro v' H' u M' ρ' w' he' hs' hu ⟨rfl, rfl⟩
            exact next M' ρ' w' v' u _ he' hs' hu h2
          · rw [aguard_sound hf hg, if_neg (by simp)]
            exact next M ρ w skipped undef H (.refl ..) hs (rel_skipped ..) h2

theorem AWD_region {P : Program} {Q : Exit → Act → World → Prop} {K : Fr → AHeap → Prop} {ops : Array Oper} {pl : List (Nat × Kind)} {id : Nat} {M : Imm} {ρ : Locs} {H : AHeap} {w : World} {fr : Fr} {a : Act}
    (hm : P.follows .mixedOrders = true) (hpl : planOK ops pl = true) (hd : ∀ o ∈ ops.toList, dstOK a.tmps.size o.dst = true) (hs : St M ρ H w) (hf : RelF M ρ fr a) (h : AWD P ops (opsOf ops pl) [] fr H K)
    (hp : Post M ρ w a.tmps.size Q .normal K) : (Code.region id ops true).wp P Q a w := by
  refine wp_region_any hm ?_
  simp only [planOK, Bool.and_eq_true, List.all_eq_true, List.mem_range, decide_eq_true_eq] at hpl
  obtain ⟨⟨⟨h1, h2⟩, h3⟩, h4⟩ := hpl
  have h0 : ∀ j, (Array.replicate ops.size false).getD j false = false := by
    intro j
    simp only [Array.getD_eq_getD_getElem?, Array.getElem?_replicate]
    split <;> rfl
  refine AWD_any ?_ hd ops.size (Array.replicate ops.size false) a _ M ρ H fr pl (by simp) ?_ ?_ ?_ (fun p hp => ⟨h4 p hp, h0 _⟩) h2 h (hs.drew _) hf rfl (hp.ext (.drew _))
  · simp only [edgesOK, List.all_eq_true, List.mem_range, decide_eq_true_eq] at h1
    exact h1
  · unfold left
    exact Nat.le_trans List.countP_le_length (by simp)
  · intro j hj; rw [h0] at hj; cases hj
  · intro i hi _; simpa using h3 i hi
end Go.Ab
