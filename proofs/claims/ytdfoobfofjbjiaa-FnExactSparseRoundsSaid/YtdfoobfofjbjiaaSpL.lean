/- The program and the reference compute the same rounds. -/
import Derived.Test.YtdfoobfofjbjiaaSpK
set_option linter.unusedSimpArgs false
set_option linter.unusedVariables false
namespace Go.Ab
open Go.Proofs
set_option maxRecDepth 100000

theorem foldl_rel {α β γ : Type} {R : β → γ → Prop} {f : β → α → β} {g : γ → α → γ} : ∀ (l : List α) (b : β) (c : γ), (∀ x ∈ l, ∀ b c, R b c → R (f b x) (g c x)) → R b c → R (l.foldl f b) (l.foldl g c)
  | [], _, _, _, h => h
  | x :: l, b, c, hf, h => foldl_rel l _ _ (fun y hy => hf y (by simp [hy])) (hf x (by simp) b c h)
theorem idx_inj {a b i c n : Nat} (hb : b < n) (hc : c < n) (h : a * n + b = i * n + c) : a = i ∧ b = c := by
  have h1 : (a * n + b) / n = (i * n + c) / n := by rw [h]
  have h2 : (a * n + b) % n = (i * n + c) % n := by rw [h]
  rw [Nat.add_comm, Nat.add_mul_div_right _ _ (by omega), Nat.div_eq_of_lt hb, Nat.add_comm (i * n), Nat.add_mul_div_right _ _ (by omega), Nat.div_eq_of_lt hc] at h1
  rw [Nat.add_comm, Nat.add_mul_mod_self_right, Nat.mod_eq_of_lt hb, Nat.add_comm (i * n), Nat.add_mul_mod_self_right, Nat.mod_eq_of_lt hc] at h2
  omega

/-- A map and a full square tell the same numbers. -/
def Alike (n : Nat) (l : PMap) (S : Full) : Prop := FullOK n S ∧ ∀ a b, a < n → b < n → nth S.2 (a * n + b) = (mget ((a : Int), (b : Int)) l).getD 0
theorem Alike.step {n : Nat} {l : PMap} {S : Full} (h : Alike n l S) {i : Nat} (hi : i < n) {c : Int} (h0 : 0 ≤ c) (h1 : c < n) (v : Nat) : Alike n (mput ((i : Int), c) v l) (fullAt n i S c v) := by
  refine ⟨h.1.at c v, fun a b ha hb => ?_⟩
  obtain ⟨d, rfl⟩ := Int.eq_ofNat_of_zero_le h0
  have hd : d < n := by omega
  have hlt := at_lt hi hd
  rw [mget_mput]
  simp only [fullAt, Int.toNat_natCast]
  rw [nth_set (by rw [h.1.2]; exact hlt)]
  by_cases e : a * n + b = i * n + d
  · obtain ⟨rfl, rfl⟩ := idx_inj hb hd e
    simp
  · rw [if_neg e, if_neg (by
      rintro e'
      injection e' with q1 q2
      exact e (by rw [show a = i by omega, show b = d by omega])), h.2 a b ha hb]

theorem diag_eq {n : Nat} {st co : List Int} {va : List Nat} (h : Valid n st co va) {i : Nat} (hi : i < n) : diagF n st co va i = diagS n st co va i := by
  have key : Alike n (numsF n st co va) (openF st co va n n) := by
    unfold numsF openF
    refine foldl_rel _ _ _ ?_ ⟨⟨by simp [blankF], by simp [blankF]⟩, fun a b ha hb => ?_⟩
    · intro k hk l S hR
      have hk : k < n := by simpa using hk
      have b1 := h.bounds (i := k) (by omega)
      have b2 := h.bounds (i := k + 1) (by omega)
      unfold rowFold
      refine foldl_rel _ _ _ ?_ hR
      intro j hj l S hR
      have hj : j < (nth st (k + 1)).toNat - (nth st k).toNat := by simpa using hj
      have hc := h.cols (nth co ((nth st k).toNat + j)) (nth_mem (by omega))
      exact hR.step hk (by omega) (by omega) _
    · have := at_lt ha hb
      simp only [blankF, mget]
      rw [nth_replicate this]; rfl
  unfold diagF diagS
  rw [key.2 i i hi hi]

theorem foldl_congr {α β : Type} {f g : β → α → β} : ∀ (l : List α) (b : β), (∀ x ∈ l, ∀ b, f b x = g b x) → l.foldl f b = l.foldl g b
  | [], _, _ => rfl
  | x :: l, b, h => by
    rw [List.foldl_cons, List.foldl_cons, h x (by simp)]
    exact foldl_congr l _ fun y hy => h y (by simp [hy])
theorem roundF_congr {dg dg' : Nat → Nat} {n : Nat} (h : ∀ i, i < n → dg i = dg' i) (st co : List Int) (va bs : List Nat) (haste : Nat) (xs : List Nat) : roundF dg n st co va bs haste xs = roundF dg' n st co va bs haste xs := by
  unfold roundF
  refine foldl_congr _ _ fun i hi b => ?_
  unfold stepF
  rw [h i (by simpa using hi)]
theorem goF_congr {dg dg' : Nat → Nat} {n : Nat} (h : ∀ i, i < n → dg i = dg' i) (st co : List Int) (va bs : List Nat) (haste near : Nat) : ∀ (m : Nat) (r : Int) (xs : List Nat), goF dg n st co va bs haste near m r xs = goF dg' n st co va bs haste near m r xs
  | 0, _, _ => rfl
  | m + 1, r, xs => by simp only [goF, roundF_congr h, goF_congr h st co va bs haste near m]
theorem roundsF_congr {dg dg' : Nat → Nat} {n : Nat} (h : ∀ i, i < n → dg i = dg' i) (st co : List Int) (va bs : List Nat) (haste near : Nat) (most : Int) : roundsF dg n st co va bs haste near most = roundsF dg' n st co va bs haste near most := by
  unfold roundsF
  rw [goF_congr h]
  have : (List.range n).any (fun i => eqF .f32 (dg i) 0) = (List.range n).any (fun i => eqF .f32 (dg' i) 0) := by
    rw [Bool.eq_iff_iff, List.any_eq_true, List.any_eq_true]
    constructor
    · rintro ⟨i, hi, e⟩; exact ⟨i, hi, by rw [← h i (by simpa using hi)]; exact e⟩
    · rintro ⟨i, hi, e⟩; exact ⟨i, hi, by rw [h i (by simpa using hi)]; exact e⟩
  rw [this]

/-! tests on floats -/
theorem order_some {k : FloatKind} {a b : Nat} (ha : isNaNF k a = false) (hb : isNaNF k b = false) : ∃ o, k.format.order a b = some o := by
  unfold isNaNF at ha hb
  simp only [Ieee.Format.order]
  cases h1 : k.format.read a <;> cases h2 : k.format.read b <;> simp [h1, h2, Ieee.Datum.isNaN] at ha hb <;> exact ⟨_, rfl⟩
theorem fin_notNaN {k : FloatKind} {a : Nat} (h : isFin k a = true) : isNaNF k a = false := by
  rw [fin_iff] at h; simp at h; exact h.1
theorem not_le {k : FloatKind} {a b : Nat} (ha : isNaNF k a = false) (hb : isNaNF k b = false) : (!leF k a b) = gtF k a b ∧ (!geF k a b) = ltF k a b ∧ (!ltF k a b) = geF k a b := by
  obtain ⟨o, h⟩ := order_some ha hb
  unfold leF gtF geF ltF
  rw [h]
  cases o <;> decide
theorem between_fin {k : FloatKind} {a b c : Nat} (hb : isFin k b = true) (hc : isFin k c = true) (h1 : gtF k a b = true) (h2 : ltF k a c = true) : isFin k a = true := by
  unfold isFin at hb hc ⊢
  unfold gtF at h1
  unfold ltF at h2
  simp only [Ieee.Format.order] at h1 h2
  cases hq : k.format.read b <;> rw [hq] at hb h1 <;> simp at hb
  cases hr : k.format.read c <;> rw [hr] at hc h2 <;> simp at hc
  cases hs : k.format.read a with
  | number s m e => rfl
  | nan s t => rw [hs] at h1; simp [Ieee.Datum.order] at h1
  | infinity s =>
    rw [hs] at h1 h2
    cases s <;> simp [Ieee.Datum.order] at h1 h2
theorem okI_eq (side : Int) (st co : List Int) (va bs : List Nat) (haste near : Nat) (most : Int) : okI side st co va bs haste near most = okS side st co va bs haste near most := by
  have z0 : isFin .f32 0 = true := by decide
  have z2 : isFin .f32 1073741824 = true := by decide
  unfold okI okS
  have hA : (valid side st co va && (decide (1 ≤ bs.length ∧ bs.length ≤ 256) && allFin bs) && decide ((bs.length : Int) = side)) = (valid side st co va && decide ((bs.length : Int) = side) && allFin bs) := by
    cases hv : valid side st co va with
    | false => rfl
    | true =>
      by_cases hb : (bs.length : Int) = side
      · have h := valid_iff.1 hv
        have h1 := h.s1
        have h2 := h.s2
        have : (1 ≤ bs.length ∧ bs.length ≤ 256) := by omega
        simp [hb, this]
      · simp [hb]
  have hB : (isFin .f32 haste && !leF .f32 haste 0 && !geF .f32 haste 1073741824) = (gtF .f32 haste 0 && ltF .f32 haste 1073741824) := by
    cases hf : isFin .f32 haste with
    | true =>
      rw [(not_le (fin_notNaN hf) (fin_notNaN z0)).1, (not_le (fin_notNaN hf) (fin_notNaN z2)).2.1]; simp
    | false =>
      cases h1 : gtF .f32 haste 0 with
      | false => simp
      | true =>
        cases h2 : ltF .f32 haste 1073741824 with
        | false => simp
        | true => have := between_fin z0 z2 h1 h2; rw [hf] at this; cases this
  have hC : (isFin .f32 near && !ltF .f32 near 0) = (isFin .f32 near && geF .f32 near 0) := by
    cases hf : isFin .f32 near with
    | false => rfl
    | true => rw [(not_le (fin_notNaN hf) (fin_notNaN z0)).2.2]
  rw [hA, ← hB, ← hC]
  generalize (valid side st co va && decide ((bs.length : Int) = side) && allFin bs) = p1
  generalize (decide (1 ≤ most) && decide (most ≤ 128)) = p2
  clear hA hB hC z0 z2
  generalize isFin .f32 haste = q1
  generalize isFin .f32 near = q2
  generalize leF .f32 haste 0 = q3
  generalize geF .f32 haste 1073741824 = q4
  generalize ltF .f32 near 0 = q5
  revert p1 p2 q1 q2 q3 q4 q5
  decide

/-- What SparseRounds returns. -/
noncomputable def roundsO (side : Int) (st co : List Int) (va bs : List Nat) (haste near : Nat) (most : Int) : Option (List Nat × Int) :=
  if okS side st co va bs haste near most then roundsF (diagS side.toNat st co va) side.toNat st co va bs haste near most else none
theorem roundsO_eq (side : Int) (st co : List Int) (va bs : List Nat) (haste near : Nat) (most : Int) :
    (if okI side st co va bs haste near most then roundsF (diagF side.toNat st co va) side.toNat st co va bs haste near most else none) = roundsO side st co va bs haste near most := by
  unfold roundsO
  rw [okI_eq]
  cases h : okS side st co va bs haste near most with
  | false => rw [if_neg (by simp), if_neg (by simp)]
  | true =>
    simp only [if_true]
    have hv : Valid side st co va := by
      unfold okS at h
      simp only [Bool.and_eq_true] at h
      exact valid_iff.1 h.1.1.1.1.1
    obtain ⟨n, rfl⟩ := Int.eq_ofNat_of_zero_le (show 0 ≤ side by have := hv.s1; omega)
    rw [Int.toNat_natCast]
    exact roundsF_congr (fun i hi => diag_eq hv hi) _ _ _ _ _ _ _
theorem goF_len {dg : Nat → Nat} {n : Nat} {st co : List Int} {va bs : List Nat} {haste near : Nat} : ∀ (m : Nat) (r : Int) (xs ys : List Nat) (q : Int), goF dg n st co va bs haste near m r xs = some (ys, q) → ys.length = xs.length ∧ r ≤ q ∧ q < r + m
  | 0, _, _, _, _, h => by cases h
  | m + 1, r, xs, ys, q, h => by
    simp only [goF] at h
    split at h
    · cases h
    · split at h
      · cases h
      · split at h
        · cases h; exact ⟨roundF_length .., by omega, by omega⟩
        · have := goF_len m (r + 1) _ ys q h
          rw [roundF_length] at this
          exact ⟨this.1, by omega, by omega⟩
theorem roundsO_len {side : Int} {st co : List Int} {va bs : List Nat} {haste near : Nat} {most : Int} {xs : List Nat} {r : Int} (h : roundsO side st co va bs haste near most = some (xs, r)) : xs.length ≤ 32 ∧ 0 ≤ r ∧ r ≤ 128 := by
  unfold roundsO at h
  split at h
  · rename_i hk
    unfold okS at hk
    simp only [Bool.and_eq_true, decide_eq_true_eq] at hk
    have hv := valid_iff.1 hk.1.1.1.1.1
    have h2 := hv.s2
    unfold roundsF at h
    split at h
    · cases h
    · have := goF_len _ _ _ _ _ h
      simp only [List.length_replicate] at this
      omega
  · cases h
end Go.Ab
