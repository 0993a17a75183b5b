/- From abstract calls back to the model's calls, for a law whose arguments are slices of bytes. -/
import Derived.Test.YtdfoobfofjbjiaaAbLib
import Derived.Below
set_option linter.unusedSimpArgs false
set_option linter.unusedVariables false
namespace Go.Ab
open Go.RowKit


/-- At the start all memory is as it is, and nothing is owned. -/
theorem St.start (W : World) : St (fun b => W.heap[b]?) (fun _ => none) noHeap W :=
  ⟨fun _ _ h => h, fun _ _ h => (by cases h), fun _ _ _ _ h => absurd rfl h, ⟨0, fun _ _ => rfl⟩⟩

theorem Below.of_ext {W w' : World} {M' : Imm} {ρ' : Locs} {H' : AHeap} (he : Ext (fun b => W.heap[b]?) (fun _ => none) W M' ρ' w') (hs : St M' ρ' H' w') : Below W.heap.size W w' :=
  ⟨he.os, he.tape, he.output, he.size, fun k hk => by
    have h1 : W.heap[k]? = some W.heap[k] := Array.getElem?_eq_getElem hk
    rw [h1]; exact hs.imm k _ (he.imm k _ h1)⟩

theorem Calls.of_invokes {P : Program} {f : FuncId} {fn : Func} {args : Array Value} {w : World} {R : Value → World → Prop} (hf : P.funcs[f]? = some fn) (hb : (fn.body.isSome && !(fn.name == "runtime.NumGoroutine")) = true)
    (h : Invokes P f args w R) : Calls P f args w fun e w' => ∃ v, e = .returned v ∧ R v w' := by
  simp only [Bool.and_eq_true, Bool.not_eq_true'] at hb
  obtain ⟨c, hc⟩ := Option.isSome_iff_exists.1 hb.1
  have hname' : ¬ fn.name = "runtime.NumGoroutine" := by simpa using hb.2
  have hcall : (callFunc f args).run P w = .ok (.enter f args) w := by simp [callFunc, hf, hname', hc]
  unfold Invokes at h
  rw [hcall] at h
  exact h

/-- The cells of a slice of bytes that came in. -/
def ByteRow (w : World) (a : Option Addr) (len cap : Nat) (zs : List Int) : Prop :=
  (a = none ∧ len = 0 ∧ cap = 0 ∧ zs = []) ∨
  ∃ x, a = some x ∧ len ≤ cap ∧ zs.length = cap ∧ (∀ i, i < zs.length → w.cell? (x.add i) = some (.int .u8 (zs.getD i 0))) ∧ ∀ n ∈ zs, (Lit.int .u8 n).wf = true

theorem byteRow_rel {W : World} {a : Option Addr} {len cap : Nat} {zs : List Int} (h : ByteRow W a len cap zs) :
    ∃ (x : AV) (bs : List UInt8), bs.length = len ∧ Rel (fun b => W.heap[b]?) (fun _ => none) x (.slice a len cap) ∧ Sl noHeap u8 x bs := by
  rcases h with ⟨rfl, rfl, rfl, rfl⟩ | ⟨x, rfl, hl, hz, hc, hw⟩
  · exact ⟨.nilslice, [], rfl, .nilslice, Sl.nil⟩
  · have hbs : ∀ n ∈ zs, ((UInt8.ofNat n.toNat).toNat : Int) = n := by
      intro n hn
      have := hw n hn
      simp [Lit.wf, IntKind.min, IntKind.max, IntKind.signed, IntKind.bits] at this
      simp
      omega
    have hlen : (zs.take len).length = len := by simp; omega
    refine ⟨.sliceI (((zs.take len).map fun n => UInt8.ofNat n.toNat).map u8) len none, (zs.take len).map fun n => UInt8.ofNat n.toNat, by simp; omega, ?_, ?_⟩
    · rcases Nat.eq_zero_or_pos len with h0 | hpos
      · subst h0
        simp only [List.take_zero, List.map_nil]
        exact .sliceN _ _ _ _ hl (fun n hn => by cases hn)
      · have h0 := hc 0 (by omega)
        have e0 : x.add 0 = x := rfl
        rw [e0] at h0
        obtain ⟨b, o, sp⟩ := x
        simp only [World.cell?] at h0
        split at h0
        · rename_i cs t fz hb
          split at h0
          · cases h0
          · rename_i hsp
            have hsp' : sp = none := by cases sp <;> simp at hsp ⊢
            subst hsp'
            have hcell : ∀ i, i < zs.length → cs[o + i]? = some (.int .u8 (zs.getD i 0)) := by
              intro i hi
              have := hc i hi
              rw [Addr.add_none, cell_of_heap hb] at this
              exact this
            refine .sliceI _ _ _ b o _ cs t fz hl (fun n hn => by cases hn) hb ?_ (fun j h1 h2 => ?_)
            · have := hcell (zs.length - 1) (by omega)
              have h3 := (Array.getElem?_eq_some_iff.1 this).1
              simp; omega
            · simp at h1
              have h3 := hcell j (by omega)
              have h4 := (Array.getElem?_eq_some_iff.1 h3).2
              rw [h4]
              simp only [List.getElem_map, List.getElem_take, u8]
              have h5 : zs.getD j 0 = zs[j]'(by omega) := by simp [List.getD, List.getElem?_eq_getElem (show j < zs.length by omega)]
              rw [h5, hbs _ (List.getElem_mem _)]
              exact .int _ _
        · cases h0
    · have := Sl.imm (H := noHeap) (f := u8) ((zs.take len).map fun n => UInt8.ofNat n.toNat) none
      simpa [hlen, Nat.min_eq_left (show len ≤ zs.length by omega)] using this

theorem law2 {P : Program} {f : FuncId} {fn : Func} (hf : P.funcs[f]? = some fn) (hb : (fn.body.isSome && !(fn.name == "runtime.NumGoroutine")) = true)
    (h : ∀ (x y : AV) (xs ys : List UInt8), Sl noHeap u8 x xs → Sl noHeap u8 y ys → xs.length ≤ 140737488351232 → ys.length ≤ 140737488351232 → ACalls P f [x, y] noHeap fun v _ => v = .bool true)
    (W : World) (a a' : Option Addr) (len len' cap cap' : Nat) (zs zs' : List Int) (h1 : ByteRow W a len cap zs) (h2 : ByteRow W a' len' cap' zs') (l1 : len ≤ 140737488351232) (l2 : len' ≤ 140737488351232) :
    Calls P f #[.slice a len cap, .slice a' len' cap'] W fun e w' => e = .returned (.bool true) ∧ Below W.heap.size W w' := by
  obtain ⟨x, xs, e1, r1, s1⟩ := byteRow_rel h1
  obtain ⟨y, ys, e2, r2, s2⟩ := byteRow_rel h2
  have hc := h x y xs ys s1 s2 (by omega) (by omega) _ _ W #[.slice a len cap, .slice a' len' cap'] (St.start W) (by
    have := (RelL.one r1).append (RelL.one r2)
    simpa using this)
  refine (Calls.of_invokes hf hb hc).mono ?_
  rintro e w' ⟨v, rfl, v', M', ρ', H', he, hs, hr, rfl⟩
  exact ⟨by rw [hr.bool_inv], Below.of_ext he hs⟩
end Go.Ab
