/-
  No cell of these rows narrows 'for every input' (looked for: loops, veiled, ifaces, maps, wideKeys, modest, calm, conditions, laid).
  DERIVED. THE GIVEN ROWS OF THIS SEAT. 4 by the template 'for every input the law returns true; each argument reads behind the call as it read before'; 0 by the template 'total and deterministic' (their statements: YtdfoobfofjbjiaaTotals.lean).
  GIVEN WITH THE SEED: the statements are not yours to turn. If you find one false, say at which input.
  Laid BY PROGRAM, IN A SANDBOX (cutbox-rows.mjs): the forced cells as the released guide's own fill.sh prints them over the translation c6f51aa6aa2f42c7… (all of the seat's roots in one cut). By AI agents, Wed Nov 11 2026. No macro, syntax, notation, axiom, sorry.
-/
import Derived.Test.YtdfoobfofjbjiaaChecked
import GoSem.Claim
import GoSem.ClaimJoined
import GoSem.ClaimMapViews
import Derived.JoinedTies
import Derived.KernelRfl
namespace Go.Proofs.Ytdfoobfofjbjiaa
/- THE CELL 'sum', in the pinned program and in every row, IS THE sha256 OF THE DUMP (.gsa) THAT YtdfoobfofjbjiaaProg.lean LOADS. Nothing in Lean hashes anything: it is a label: what it is worth is what the hold of that sum in a sandbox is worth. -/
noncomputable def Try.pinned : Pinned := { name := "ytdfoobfofjbjiaa", sum := "c6f51aa6aa2f42c72780c78b5983a7a436598976276f10f5c25420397f5b17f1", checked := Try.checked }
namespace Rows
def none {H : Type} : Left H := { results := [], args := [] }

/-- 'laws.FnExactSparseRounds': WHATEVER THE INPUT: true; the input reads as it did. -/
def fnExactSparseRoundsSpec : ChangeSpec := { name := "fnExactSparseRounds", fn := fun _ => fun
  | [d1, d2, d3, d4, d5] => { results := [.lit (.bool true)], args := [d1, d2, d3, d4, d5] }
  | _ => none }
def fnExactSparseRoundsRow : OpenClaim := { program := "ytdfoobfofjbjiaa", sum := "c6f51aa6aa2f42c72780c78b5983a7a436598976276f10f5c25420397f5b17f1", func := "loop.example/g01327/laws.FnExactSparseRounds", spec := "fnExactSparseRounds", inPlace := ["math.sqrt", "math.Float64bits", "math.Float64frombits"], unfollowed := true, recurses := true, plainKeys := false, apart := false }
def FnExactSparseRoundsSaid : Prop := fnExactSparseRoundsRow.holds Try.pinned (OpenSpec.ofChange fnExactSparseRoundsSpec)

/-- ITS FALSE NEIGHBOUR: 'it returns false'. Refute it at one input. -/
def fnExactSparseRoundsWrong : ChangeSpec := { name := "fnExactSparseRounds", fn := fun _ => fun
  | [d1, d2, d3, d4, d5] => { results := [.lit (.bool false)], args := [d1, d2, d3, d4, d5] }
  | _ => none }
def FnExactSparseRoundsWrongFalsely : Prop := fnExactSparseRoundsRow.holds Try.pinned (OpenSpec.ofChange fnExactSparseRoundsWrong)

/-- 'laws.FnSparseForms': WHATEVER THE INPUT: true; the input reads as it did. -/
def fnSparseFormsSpec : ChangeSpec := { name := "fnSparseForms", fn := fun _ => fun
  | [d1, d2] => { results := [.lit (.bool true)], args := [d1, d2] }
  | _ => none }
def fnSparseFormsRow : OpenClaim := { program := "ytdfoobfofjbjiaa", sum := "c6f51aa6aa2f42c72780c78b5983a7a436598976276f10f5c25420397f5b17f1", func := "loop.example/g01327/laws.FnSparseForms", spec := "fnSparseForms", inPlace := ["math.Float64bits", "math.Float64frombits", "math.Float32bits"], unfollowed := true, recurses := true, plainKeys := false, apart := false }
def FnSparseFormsSaid : Prop := fnSparseFormsRow.holds Try.pinned (OpenSpec.ofChange fnSparseFormsSpec)

/-- ITS FALSE NEIGHBOUR: 'it returns false'. Refute it at one input. -/
def fnSparseFormsWrong : ChangeSpec := { name := "fnSparseForms", fn := fun _ => fun
  | [d1, d2] => { results := [.lit (.bool false)], args := [d1, d2] }
  | _ => none }
def FnSparseFormsWrongFalsely : Prop := fnSparseFormsRow.holds Try.pinned (OpenSpec.ofChange fnSparseFormsWrong)

/-- 'laws.FnWholes': WHATEVER THE INPUT: true; the input reads as it did. -/
def fnWholesSpec : ChangeSpec := { name := "fnWholes", fn := fun _ => fun
  | [d1, d2] => { results := [.lit (.bool true)], args := [d1, d2] }
  | _ => none }
def fnWholesRow : OpenClaim := { program := "ytdfoobfofjbjiaa", sum := "c6f51aa6aa2f42c72780c78b5983a7a436598976276f10f5c25420397f5b17f1", func := "loop.example/g01327/laws.FnWholes", spec := "fnWholes", inPlace := ["math.Float64bits", "math.Float64frombits", "math.archFloor", "math.archTrunc"], unfollowed := true, recurses := true, plainKeys := false, apart := false }
def FnWholesSaid : Prop := fnWholesRow.holds Try.pinned (OpenSpec.ofChange fnWholesSpec)

/-- ITS FALSE NEIGHBOUR: 'it returns false'. Refute it at one input. -/
def fnWholesWrong : ChangeSpec := { name := "fnWholes", fn := fun _ => fun
  | [d1, d2] => { results := [.lit (.bool false)], args := [d1, d2] }
  | _ => none }
def FnWholesWrongFalsely : Prop := fnWholesRow.holds Try.pinned (OpenSpec.ofChange fnWholesWrong)

/-- 'laws.FnOrders': WHATEVER THE INPUT: true; the input reads as it did. -/
def fnOrdersSpec : ChangeSpec := { name := "fnOrders", fn := fun _ => fun
  | [d1, d2] => { results := [.lit (.bool true)], args := [d1, d2] }
  | _ => none }
def fnOrdersRow : OpenClaim := { program := "ytdfoobfofjbjiaa", sum := "c6f51aa6aa2f42c72780c78b5983a7a436598976276f10f5c25420397f5b17f1", func := "loop.example/g01327/laws.FnOrders", spec := "fnOrders", inPlace := ["math.Float64bits", "math.Float64frombits"], unfollowed := true, recurses := true, plainKeys := false, apart := false }
def FnOrdersSaid : Prop := fnOrdersRow.holds Try.pinned (OpenSpec.ofChange fnOrdersSpec)

/-- ITS FALSE NEIGHBOUR: 'it returns false'. Refute it at one input. -/
def fnOrdersWrong : ChangeSpec := { name := "fnOrders", fn := fun _ => fun
  | [d1, d2] => { results := [.lit (.bool false)], args := [d1, d2] }
  | _ => none }
def FnOrdersWrongFalsely : Prop := fnOrdersRow.holds Try.pinned (OpenSpec.ofChange fnOrdersWrong)

/- THE SECOND FORM. 'bulk': how many values and letters a reading holds, each counted each time it is reached (what is shared counts as often as it is met; a slice's spare places count too). A statement '..UptoSaid' is the law's where the arguments, and the package variables that the reading takes, are together of bulk at most 1048576: NARROWER than '..Said'. Prove '..Said' where nothing that the law and all that it calls make is longer than what came in: it says more and counts as full. Else prove '..UptoSaid'. A law counts once. -/
mutual
def uptoBulk {H : Type} : DataW H → Nat
  | .lit (.string bytes) => bytes.length + 1
  | .lit _ => 1
  | .nil => 1
  | .ptr d => uptoBulk d + 1
  | .slice elems spare => uptoBulkAll elems + uptoBulkAll spare + 1
  | .agg parts => uptoBulkAll parts + 1
  | .iface _ d => uptoBulk d + 1
  | .map entries => uptoBulkEntries entries + 1
  | .held _ => 1
def uptoBulkAll {H : Type} : List (DataW H) → Nat
  | [] => 0
  | d :: r => uptoBulk d + uptoBulkAll r
def uptoBulkEntries {H : Type} : List (Lit × DataW H) → Nat
  | [] => 0
  | x :: r => uptoBulkEntry x + uptoBulkEntries r
def uptoBulkEntry {H : Type} : Lit × DataW H → Nat
  | (.string bytes, d) => bytes.length + uptoBulk d + 1
  | (_, d) => uptoBulk d + 1
 end
def uptoSmall : (H : Type) → List (DataW H) → Bool := fun _ ds => decide (uptoBulkAll ds ≤ 1048576)
def OpenSpec.upto (s : _root_.Go.ChangeSpec) : _root_.Go.OpenSpec := { _root_.Go.OpenSpec.ofChange s with cond := some uptoSmall }

/-- 'laws.FnExactSparseRounds', WHERE WHAT IT READS IS OF BULK AT MOST 1048576: true; the input reads as it did. -/
def fnExactSparseRoundsUptoRow : OpenClaim := { program := "ytdfoobfofjbjiaa", sum := "c6f51aa6aa2f42c72780c78b5983a7a436598976276f10f5c25420397f5b17f1", func := "loop.example/g01327/laws.FnExactSparseRounds", spec := "fnExactSparseRounds", inPlace := ["math.sqrt", "math.Float64bits", "math.Float64frombits"], unfollowed := true, recurses := true, plainKeys := false, apart := false, narrowed := true }
def FnExactSparseRoundsUptoSaid : Prop := fnExactSparseRoundsUptoRow.holds Try.pinned (OpenSpec.upto fnExactSparseRoundsSpec)

/-- 'laws.FnSparseForms', WHERE WHAT IT READS IS OF BULK AT MOST 1048576: true; the input reads as it did. -/
def fnSparseFormsUptoRow : OpenClaim := { program := "ytdfoobfofjbjiaa", sum := "c6f51aa6aa2f42c72780c78b5983a7a436598976276f10f5c25420397f5b17f1", func := "loop.example/g01327/laws.FnSparseForms", spec := "fnSparseForms", inPlace := ["math.Float64bits", "math.Float64frombits", "math.Float32bits"], unfollowed := true, recurses := true, plainKeys := false, apart := false, narrowed := true }
def FnSparseFormsUptoSaid : Prop := fnSparseFormsUptoRow.holds Try.pinned (OpenSpec.upto fnSparseFormsSpec)

/-- 'laws.FnWholes', WHERE WHAT IT READS IS OF BULK AT MOST 1048576: true; the input reads as it did. -/
def fnWholesUptoRow : OpenClaim := { program := "ytdfoobfofjbjiaa", sum := "c6f51aa6aa2f42c72780c78b5983a7a436598976276f10f5c25420397f5b17f1", func := "loop.example/g01327/laws.FnWholes", spec := "fnWholes", inPlace := ["math.Float64bits", "math.Float64frombits", "math.archFloor", "math.archTrunc"], unfollowed := true, recurses := true, plainKeys := false, apart := false, narrowed := true }
def FnWholesUptoSaid : Prop := fnWholesUptoRow.holds Try.pinned (OpenSpec.upto fnWholesSpec)

/-- 'laws.FnOrders', WHERE WHAT IT READS IS OF BULK AT MOST 1048576: true; the input reads as it did. -/
def fnOrdersUptoRow : OpenClaim := { program := "ytdfoobfofjbjiaa", sum := "c6f51aa6aa2f42c72780c78b5983a7a436598976276f10f5c25420397f5b17f1", func := "loop.example/g01327/laws.FnOrders", spec := "fnOrders", inPlace := ["math.Float64bits", "math.Float64frombits"], unfollowed := true, recurses := true, plainKeys := false, apart := false, narrowed := true }
def FnOrdersUptoSaid : Prop := fnOrdersUptoRow.holds Try.pinned (OpenSpec.upto fnOrdersSpec)

end Rows
end Go.Proofs.Ytdfoobfofjbjiaa
