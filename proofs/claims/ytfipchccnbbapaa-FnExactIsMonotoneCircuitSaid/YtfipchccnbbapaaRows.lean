/-
  No cell of these rows narrows 'for every input' (looked for: loops, veiled, ifaces, maps, wideKeys, modest, calm, conditions, laid).
  DERIVED. THE GIVEN ROWS OF THIS SEAT. 9 by the template 'for every input the law returns true; each argument reads behind the call as it read before'; 0 by the template 'total and deterministic' (their statements: YtfipchccnbbapaaTotals.lean).
  GIVEN WITH THE SEED: the statements are not yours to turn. If you find one false, say at which input.
  Laid BY PROGRAM, IN A SANDBOX (cutbox-rows.mjs): the forced cells as the released guide's own fill.sh prints them over the translation 48968889ef6506df… (all of the seat's roots in one cut). By AI agents, Wed Nov 11 2026. No macro, syntax, notation, axiom, sorry.
-/
import Derived.Test.YtfipchccnbbapaaChecked
import GoSem.Claim
import GoSem.ClaimJoined
import GoSem.ClaimMapViews
import Derived.JoinedTies
import Derived.KernelRfl
namespace Go.Proofs.Ytfipchccnbbapaa
/- THE CELL 'sum', in the pinned program and in every row, IS THE sha256 OF THE DUMP (.gsa) THAT YtfipchccnbbapaaProg.lean LOADS. Nothing in Lean hashes anything: it is a label: what it is worth is what the hold of that sum in a sandbox is worth. -/
noncomputable def Try.pinned : Pinned := { name := "ytfipchccnbbapaa", sum := "48968889ef6506dff5bab59a9e69e73a6efbd5148ddf2e434e313a9e31c258d1", checked := Try.checked }
namespace Rows
def none {H : Type} : Left H := { results := [], args := [] }

/-- 'laws.FnExactIsCircuit': WHATEVER THE INPUT: true; the input reads as it did. -/
def fnExactIsCircuitSpec : ChangeSpec := { name := "fnExactIsCircuit", fn := fun _ => fun
  | [d1, d2] => { results := [.lit (.bool true)], args := [d1, d2] }
  | _ => none }
def fnExactIsCircuitRow : OpenClaim := { program := "ytfipchccnbbapaa", sum := "48968889ef6506dff5bab59a9e69e73a6efbd5148ddf2e434e313a9e31c258d1", func := "loop.example/g01080/laws.FnExactIsCircuit", spec := "fnExactIsCircuit", apart := false }
def FnExactIsCircuitSaid : Prop := fnExactIsCircuitRow.holds Try.pinned (OpenSpec.ofChange fnExactIsCircuitSpec)

/-- ITS FALSE NEIGHBOUR: 'it returns false'. Refute it at one input. -/
def fnExactIsCircuitWrong : ChangeSpec := { name := "fnExactIsCircuit", fn := fun _ => fun
  | [d1, d2] => { results := [.lit (.bool false)], args := [d1, d2] }
  | _ => none }
def FnExactIsCircuitWrongFalsely : Prop := fnExactIsCircuitRow.holds Try.pinned (OpenSpec.ofChange fnExactIsCircuitWrong)

/-- 'laws.FnExactCircuitDepth': WHATEVER THE INPUT: true; the input reads as it did. -/
def fnExactCircuitDepthSpec : ChangeSpec := { name := "fnExactCircuitDepth", fn := fun _ => fun
  | [d1, d2] => { results := [.lit (.bool true)], args := [d1, d2] }
  | _ => none }
def fnExactCircuitDepthRow : OpenClaim := { program := "ytfipchccnbbapaa", sum := "48968889ef6506dff5bab59a9e69e73a6efbd5148ddf2e434e313a9e31c258d1", func := "loop.example/g01080/laws.FnExactCircuitDepth", spec := "fnExactCircuitDepth", apart := false }
def FnExactCircuitDepthSaid : Prop := fnExactCircuitDepthRow.holds Try.pinned (OpenSpec.ofChange fnExactCircuitDepthSpec)

/-- ITS FALSE NEIGHBOUR: 'it returns false'. Refute it at one input. -/
def fnExactCircuitDepthWrong : ChangeSpec := { name := "fnExactCircuitDepth", fn := fun _ => fun
  | [d1, d2] => { results := [.lit (.bool false)], args := [d1, d2] }
  | _ => none }
def FnExactCircuitDepthWrongFalsely : Prop := fnExactCircuitDepthRow.holds Try.pinned (OpenSpec.ofChange fnExactCircuitDepthWrong)

/-- 'laws.FnExactCircuitValue': WHATEVER THE INPUT: true; the input reads as it did. -/
def fnExactCircuitValueSpec : ChangeSpec := { name := "fnExactCircuitValue", fn := fun _ => fun
  | [d1, d2, d3] => { results := [.lit (.bool true)], args := [d1, d2, d3] }
  | _ => none }
def fnExactCircuitValueRow : OpenClaim := { program := "ytfipchccnbbapaa", sum := "48968889ef6506dff5bab59a9e69e73a6efbd5148ddf2e434e313a9e31c258d1", func := "loop.example/g01080/laws.FnExactCircuitValue", spec := "fnExactCircuitValue", apart := false }
def FnExactCircuitValueSaid : Prop := fnExactCircuitValueRow.holds Try.pinned (OpenSpec.ofChange fnExactCircuitValueSpec)

/-- ITS FALSE NEIGHBOUR: 'it returns false'. Refute it at one input. -/
def fnExactCircuitValueWrong : ChangeSpec := { name := "fnExactCircuitValue", fn := fun _ => fun
  | [d1, d2, d3] => { results := [.lit (.bool false)], args := [d1, d2, d3] }
  | _ => none }
def FnExactCircuitValueWrongFalsely : Prop := fnExactCircuitValueRow.holds Try.pinned (OpenSpec.ofChange fnExactCircuitValueWrong)

/-- 'laws.FnExactCountTrue': WHATEVER THE INPUT: true; the input reads as it did. -/
def fnExactCountTrueSpec : ChangeSpec := { name := "fnExactCountTrue", fn := fun _ => fun
  | [d1, d2] => { results := [.lit (.bool true)], args := [d1, d2] }
  | _ => none }
def fnExactCountTrueRow : OpenClaim := { program := "ytfipchccnbbapaa", sum := "48968889ef6506dff5bab59a9e69e73a6efbd5148ddf2e434e313a9e31c258d1", func := "loop.example/g01080/laws.FnExactCountTrue", spec := "fnExactCountTrue", apart := false }
def FnExactCountTrueSaid : Prop := fnExactCountTrueRow.holds Try.pinned (OpenSpec.ofChange fnExactCountTrueSpec)

/-- ITS FALSE NEIGHBOUR: 'it returns false'. Refute it at one input. -/
def fnExactCountTrueWrong : ChangeSpec := { name := "fnExactCountTrue", fn := fun _ => fun
  | [d1, d2] => { results := [.lit (.bool false)], args := [d1, d2] }
  | _ => none }
def FnExactCountTrueWrongFalsely : Prop := fnExactCountTrueRow.holds Try.pinned (OpenSpec.ofChange fnExactCountTrueWrong)

/-- 'laws.FnExactSameValues': WHATEVER THE INPUT: true; the input reads as it did. -/
def fnExactSameValuesSpec : ChangeSpec := { name := "fnExactSameValues", fn := fun _ => fun
  | [d1, d2, d3] => { results := [.lit (.bool true)], args := [d1, d2, d3] }
  | _ => none }
def fnExactSameValuesRow : OpenClaim := { program := "ytfipchccnbbapaa", sum := "48968889ef6506dff5bab59a9e69e73a6efbd5148ddf2e434e313a9e31c258d1", func := "loop.example/g01080/laws.FnExactSameValues", spec := "fnExactSameValues", apart := false }
def FnExactSameValuesSaid : Prop := fnExactSameValuesRow.holds Try.pinned (OpenSpec.ofChange fnExactSameValuesSpec)

/-- ITS FALSE NEIGHBOUR: 'it returns false'. Refute it at one input. -/
def fnExactSameValuesWrong : ChangeSpec := { name := "fnExactSameValues", fn := fun _ => fun
  | [d1, d2, d3] => { results := [.lit (.bool false)], args := [d1, d2, d3] }
  | _ => none }
def FnExactSameValuesWrongFalsely : Prop := fnExactSameValuesRow.holds Try.pinned (OpenSpec.ofChange fnExactSameValuesWrong)

/-- 'laws.FnExactRestrictCircuit': WHATEVER THE INPUT: true; the input reads as it did. -/
def fnExactRestrictCircuitSpec : ChangeSpec := { name := "fnExactRestrictCircuit", fn := fun _ => fun
  | [d1, d2, d3, d4] => { results := [.lit (.bool true)], args := [d1, d2, d3, d4] }
  | _ => none }
def fnExactRestrictCircuitRow : OpenClaim := { program := "ytfipchccnbbapaa", sum := "48968889ef6506dff5bab59a9e69e73a6efbd5148ddf2e434e313a9e31c258d1", func := "loop.example/g01080/laws.FnExactRestrictCircuit", spec := "fnExactRestrictCircuit", apart := false }
def FnExactRestrictCircuitSaid : Prop := fnExactRestrictCircuitRow.holds Try.pinned (OpenSpec.ofChange fnExactRestrictCircuitSpec)

/-- ITS FALSE NEIGHBOUR: 'it returns false'. Refute it at one input. -/
def fnExactRestrictCircuitWrong : ChangeSpec := { name := "fnExactRestrictCircuit", fn := fun _ => fun
  | [d1, d2, d3, d4] => { results := [.lit (.bool false)], args := [d1, d2, d3, d4] }
  | _ => none }
def FnExactRestrictCircuitWrongFalsely : Prop := fnExactRestrictCircuitRow.holds Try.pinned (OpenSpec.ofChange fnExactRestrictCircuitWrong)

/-- 'laws.FnExactFirstDifferent': WHATEVER THE INPUT: true; the input reads as it did. -/
def fnExactFirstDifferentSpec : ChangeSpec := { name := "fnExactFirstDifferent", fn := fun _ => fun
  | [d1, d2, d3] => { results := [.lit (.bool true)], args := [d1, d2, d3] }
  | _ => none }
def fnExactFirstDifferentRow : OpenClaim := { program := "ytfipchccnbbapaa", sum := "48968889ef6506dff5bab59a9e69e73a6efbd5148ddf2e434e313a9e31c258d1", func := "loop.example/g01080/laws.FnExactFirstDifferent", spec := "fnExactFirstDifferent", apart := false }
def FnExactFirstDifferentSaid : Prop := fnExactFirstDifferentRow.holds Try.pinned (OpenSpec.ofChange fnExactFirstDifferentSpec)

/-- ITS FALSE NEIGHBOUR: 'it returns false'. Refute it at one input. -/
def fnExactFirstDifferentWrong : ChangeSpec := { name := "fnExactFirstDifferent", fn := fun _ => fun
  | [d1, d2, d3] => { results := [.lit (.bool false)], args := [d1, d2, d3] }
  | _ => none }
def FnExactFirstDifferentWrongFalsely : Prop := fnExactFirstDifferentRow.holds Try.pinned (OpenSpec.ofChange fnExactFirstDifferentWrong)

/-- 'laws.FnExactDualCircuit': WHATEVER THE INPUT: true; the input reads as it did. -/
def fnExactDualCircuitSpec : ChangeSpec := { name := "fnExactDualCircuit", fn := fun _ => fun
  | [d1, d2] => { results := [.lit (.bool true)], args := [d1, d2] }
  | _ => none }
def fnExactDualCircuitRow : OpenClaim := { program := "ytfipchccnbbapaa", sum := "48968889ef6506dff5bab59a9e69e73a6efbd5148ddf2e434e313a9e31c258d1", func := "loop.example/g01080/laws.FnExactDualCircuit", spec := "fnExactDualCircuit", apart := false }
def FnExactDualCircuitSaid : Prop := fnExactDualCircuitRow.holds Try.pinned (OpenSpec.ofChange fnExactDualCircuitSpec)

/-- ITS FALSE NEIGHBOUR: 'it returns false'. Refute it at one input. -/
def fnExactDualCircuitWrong : ChangeSpec := { name := "fnExactDualCircuit", fn := fun _ => fun
  | [d1, d2] => { results := [.lit (.bool false)], args := [d1, d2] }
  | _ => none }
def FnExactDualCircuitWrongFalsely : Prop := fnExactDualCircuitRow.holds Try.pinned (OpenSpec.ofChange fnExactDualCircuitWrong)

/-- 'laws.FnExactIsMonotoneCircuit': WHATEVER THE INPUT: true; the input reads as it did. -/
def fnExactIsMonotoneCircuitSpec : ChangeSpec := { name := "fnExactIsMonotoneCircuit", fn := fun _ => fun
  | [d1, d2] => { results := [.lit (.bool true)], args := [d1, d2] }
  | _ => none }
def fnExactIsMonotoneCircuitRow : OpenClaim := { program := "ytfipchccnbbapaa", sum := "48968889ef6506dff5bab59a9e69e73a6efbd5148ddf2e434e313a9e31c258d1", func := "loop.example/g01080/laws.FnExactIsMonotoneCircuit", spec := "fnExactIsMonotoneCircuit", unfollowed := true, recurses := true, apart := false }
def FnExactIsMonotoneCircuitSaid : Prop := fnExactIsMonotoneCircuitRow.holds Try.pinned (OpenSpec.ofChange fnExactIsMonotoneCircuitSpec)

/-- ITS FALSE NEIGHBOUR: 'it returns false'. Refute it at one input. -/
def fnExactIsMonotoneCircuitWrong : ChangeSpec := { name := "fnExactIsMonotoneCircuit", fn := fun _ => fun
  | [d1, d2] => { results := [.lit (.bool false)], args := [d1, d2] }
  | _ => none }
def FnExactIsMonotoneCircuitWrongFalsely : Prop := fnExactIsMonotoneCircuitRow.holds Try.pinned (OpenSpec.ofChange fnExactIsMonotoneCircuitWrong)

/- THE SECOND FORM. 'bulk': how many values and letters a reading holds, each counted each time it is reached (what is shared counts as often as it is met; a slice's spare places count too). A statement '..UptoSaid' is the law's where the arguments, and the package variables that the reading takes, are together of bulk at most 1048576: NARROWER than '..Said'. Prove '..Said' where nothing that the law and all that it calls make is longer than what came in: it says more and counts as full. Else prove '..UptoSaid'. A law counts once. -/
mutual
def uptoBulk {H : Type} : DataW H → Nat
  | .lit (.string bytes) => bytes.length + 1
  | .lit _ => 1
  | .nil => 1
  | .ptr d => uptoBulk d + 1
  | .slice elems spare => uptoBulkAll elems + uptoBulkAll spare + 1
  | .agg parts => uptoBulkAll parts + 1
  | .iface _ d => uptoBulk d + 1
  | .map entries => uptoBulkEntries entries + 1
  | .held _ => 1
def uptoBulkAll {H : Type} : List (DataW H) → Nat
  | [] => 0
  | d :: r => uptoBulk d + uptoBulkAll r
def uptoBulkEntries {H : Type} : List (Lit × DataW H) → Nat
  | [] => 0
  | x :: r => uptoBulkEntry x + uptoBulkEntries r
def uptoBulkEntry {H : Type} : Lit × DataW H → Nat
  | (.string bytes, d) => bytes.length + uptoBulk d + 1
  | (_, d) => uptoBulk d + 1
 end
def uptoSmall : (H : Type) → List (DataW H) → Bool := fun _ ds => decide (uptoBulkAll ds ≤ 1048576)
def OpenSpec.upto (s : _root_.Go.ChangeSpec) : _root_.Go.OpenSpec := { _root_.Go.OpenSpec.ofChange s with cond := some uptoSmall }

/-- 'laws.FnExactIsCircuit', WHERE WHAT IT READS IS OF BULK AT MOST 1048576: true; the input reads as it did. -/
def fnExactIsCircuitUptoRow : OpenClaim := { program := "ytfipchccnbbapaa", sum := "48968889ef6506dff5bab59a9e69e73a6efbd5148ddf2e434e313a9e31c258d1", func := "loop.example/g01080/laws.FnExactIsCircuit", spec := "fnExactIsCircuit", apart := false, narrowed := true }
def FnExactIsCircuitUptoSaid : Prop := fnExactIsCircuitUptoRow.holds Try.pinned (OpenSpec.upto fnExactIsCircuitSpec)

/-- 'laws.FnExactCircuitDepth', WHERE WHAT IT READS IS OF BULK AT MOST 1048576: true; the input reads as it did. -/
def fnExactCircuitDepthUptoRow : OpenClaim := { program := "ytfipchccnbbapaa", sum := "48968889ef6506dff5bab59a9e69e73a6efbd5148ddf2e434e313a9e31c258d1", func := "loop.example/g01080/laws.FnExactCircuitDepth", spec := "fnExactCircuitDepth", apart := false, narrowed := true }
def FnExactCircuitDepthUptoSaid : Prop := fnExactCircuitDepthUptoRow.holds Try.pinned (OpenSpec.upto fnExactCircuitDepthSpec)

/-- 'laws.FnExactCircuitValue', WHERE WHAT IT READS IS OF BULK AT MOST 1048576: true; the input reads as it did. -/
def fnExactCircuitValueUptoRow : OpenClaim := { program := "ytfipchccnbbapaa", sum := "48968889ef6506dff5bab59a9e69e73a6efbd5148ddf2e434e313a9e31c258d1", func := "loop.example/g01080/laws.FnExactCircuitValue", spec := "fnExactCircuitValue", apart := false, narrowed := true }
def FnExactCircuitValueUptoSaid : Prop := fnExactCircuitValueUptoRow.holds Try.pinned (OpenSpec.upto fnExactCircuitValueSpec)

/-- 'laws.FnExactCountTrue', WHERE WHAT IT READS IS OF BULK AT MOST 1048576: true; the input reads as it did. -/
def fnExactCountTrueUptoRow : OpenClaim := { program := "ytfipchccnbbapaa", sum := "48968889ef6506dff5bab59a9e69e73a6efbd5148ddf2e434e313a9e31c258d1", func := "loop.example/g01080/laws.FnExactCountTrue", spec := "fnExactCountTrue", apart := false, narrowed := true }
def FnExactCountTrueUptoSaid : Prop := fnExactCountTrueUptoRow.holds Try.pinned (OpenSpec.upto fnExactCountTrueSpec)

/-- 'laws.FnExactSameValues', WHERE WHAT IT READS IS OF BULK AT MOST 1048576: true; the input reads as it did. -/
def fnExactSameValuesUptoRow : OpenClaim := { program := "ytfipchccnbbapaa", sum := "48968889ef6506dff5bab59a9e69e73a6efbd5148ddf2e434e313a9e31c258d1", func := "loop.example/g01080/laws.FnExactSameValues", spec := "fnExactSameValues", apart := false, narrowed := true }
def FnExactSameValuesUptoSaid : Prop := fnExactSameValuesUptoRow.holds Try.pinned (OpenSpec.upto fnExactSameValuesSpec)

/-- 'laws.FnExactRestrictCircuit', WHERE WHAT IT READS IS OF BULK AT MOST 1048576: true; the input reads as it did. -/
def fnExactRestrictCircuitUptoRow : OpenClaim := { program := "ytfipchccnbbapaa", sum := "48968889ef6506dff5bab59a9e69e73a6efbd5148ddf2e434e313a9e31c258d1", func := "loop.example/g01080/laws.FnExactRestrictCircuit", spec := "fnExactRestrictCircuit", apart := false, narrowed := true }
def FnExactRestrictCircuitUptoSaid : Prop := fnExactRestrictCircuitUptoRow.holds Try.pinned (OpenSpec.upto fnExactRestrictCircuitSpec)

/-- 'laws.FnExactFirstDifferent', WHERE WHAT IT READS IS OF BULK AT MOST 1048576: true; the input reads as it did. -/
def fnExactFirstDifferentUptoRow : OpenClaim := { program := "ytfipchccnbbapaa", sum := "48968889ef6506dff5bab59a9e69e73a6efbd5148ddf2e434e313a9e31c258d1", func := "loop.example/g01080/laws.FnExactFirstDifferent", spec := "fnExactFirstDifferent", apart := false, narrowed := true }
def FnExactFirstDifferentUptoSaid : Prop := fnExactFirstDifferentUptoRow.holds Try.pinned (OpenSpec.upto fnExactFirstDifferentSpec)

/-- 'laws.FnExactDualCircuit', WHERE WHAT IT READS IS OF BULK AT MOST 1048576: true; the input reads as it did. -/
def fnExactDualCircuitUptoRow : OpenClaim := { program := "ytfipchccnbbapaa", sum := "48968889ef6506dff5bab59a9e69e73a6efbd5148ddf2e434e313a9e31c258d1", func := "loop.example/g01080/laws.FnExactDualCircuit", spec := "fnExactDualCircuit", apart := false, narrowed := true }
def FnExactDualCircuitUptoSaid : Prop := fnExactDualCircuitUptoRow.holds Try.pinned (OpenSpec.upto fnExactDualCircuitSpec)

/-- 'laws.FnExactIsMonotoneCircuit', WHERE WHAT IT READS IS OF BULK AT MOST 1048576: true; the input reads as it did. -/
def fnExactIsMonotoneCircuitUptoRow : OpenClaim := { program := "ytfipchccnbbapaa", sum := "48968889ef6506dff5bab59a9e69e73a6efbd5148ddf2e434e313a9e31c258d1", func := "loop.example/g01080/laws.FnExactIsMonotoneCircuit", spec := "fnExactIsMonotoneCircuit", unfollowed := true, recurses := true, apart := false, narrowed := true }
def FnExactIsMonotoneCircuitUptoSaid : Prop := fnExactIsMonotoneCircuitUptoRow.holds Try.pinned (OpenSpec.upto fnExactIsMonotoneCircuitSpec)

end Rows
end Go.Proofs.Ytfipchccnbbapaa
