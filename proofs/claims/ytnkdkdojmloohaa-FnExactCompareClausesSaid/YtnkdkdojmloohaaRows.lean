/-
  No cell of these rows narrows 'for every input' (looked for: loops, veiled, ifaces, maps, wideKeys, modest, calm, conditions, laid).
  DERIVED. THE GIVEN ROWS OF THIS SEAT. 12 by the template 'for every input the law returns true; each argument reads behind the call as it read before'; 0 by the template 'total and deterministic' (their statements: YtnkdkdojmloohaaTotals.lean).
  GIVEN WITH THE SEED: the statements are not yours to turn. If you find one false, say at which input.
  Laid BY PROGRAM, IN A SANDBOX (cutbox-rows.mjs): the forced cells as the released guide's own fill.sh prints them over the translation 66e4b5ec3eeb42a0… (all of the seat's roots in one cut). By AI agents, Wed Nov 11 2026. No macro, syntax, notation, axiom, sorry.
-/
import Derived.Test.YtnkdkdojmloohaaChecked
import GoSem.Claim
import GoSem.ClaimJoined
import GoSem.ClaimMapViews
import Derived.JoinedTies
import Derived.KernelRfl
namespace Go.Proofs.Ytnkdkdojmloohaa
/- THE CELL 'sum', in the pinned program and in every row, IS THE sha256 OF THE DUMP (.gsa) THAT YtnkdkdojmloohaaProg.lean LOADS. Nothing in Lean hashes anything: it is a label: what it is worth is what the hold of that sum in a sandbox is worth. -/
noncomputable def Try.pinned : Pinned := { name := "ytnkdkdojmloohaa", sum := "66e4b5ec3eeb42a049c768d9373dae3abb2c50ac71cac0e44d992031f9f5f718", checked := Try.checked }
namespace Rows
def none {H : Type} : Left H := { results := [], args := [] }

/-- 'laws.FnExactIsCnf': WHATEVER THE INPUT: true; the input reads as it did. -/
def fnExactIsCnfSpec : ChangeSpec := { name := "fnExactIsCnf", fn := fun _ => fun
  | [d] => { results := [.lit (.bool true)], args := [d] }
  | _ => none }
def fnExactIsCnfRow : OpenClaim := { program := "ytnkdkdojmloohaa", sum := "66e4b5ec3eeb42a049c768d9373dae3abb2c50ac71cac0e44d992031f9f5f718", func := "loop.example/g01080/laws.FnExactIsCnf", spec := "fnExactIsCnf", apart := false }
def FnExactIsCnfSaid : Prop := fnExactIsCnfRow.holds Try.pinned (OpenSpec.ofChange fnExactIsCnfSpec)

/-- ITS FALSE NEIGHBOUR: 'it returns false'. Refute it at one input. -/
def fnExactIsCnfWrong : ChangeSpec := { name := "fnExactIsCnf", fn := fun _ => fun
  | [d] => { results := [.lit (.bool false)], args := [d] }
  | _ => none }
def FnExactIsCnfWrongFalsely : Prop := fnExactIsCnfRow.holds Try.pinned (OpenSpec.ofChange fnExactIsCnfWrong)

/-- 'laws.FnExactCompareClauses': WHATEVER THE INPUT: true; the input reads as it did. -/
def fnExactCompareClausesSpec : ChangeSpec := { name := "fnExactCompareClauses", fn := fun _ => fun
  | [d1, d2, d3] => { results := [.lit (.bool true)], args := [d1, d2, d3] }
  | _ => none }
def fnExactCompareClausesRow : OpenClaim := { program := "ytnkdkdojmloohaa", sum := "66e4b5ec3eeb42a049c768d9373dae3abb2c50ac71cac0e44d992031f9f5f718", func := "loop.example/g01080/laws.FnExactCompareClauses", spec := "fnExactCompareClauses", unfollowed := true, recurses := true, apart := false }
def FnExactCompareClausesSaid : Prop := fnExactCompareClausesRow.holds Try.pinned (OpenSpec.ofChange fnExactCompareClausesSpec)

/-- ITS FALSE NEIGHBOUR: 'it returns false'. Refute it at one input. -/
def fnExactCompareClausesWrong : ChangeSpec := { name := "fnExactCompareClauses", fn := fun _ => fun
  | [d1, d2, d3] => { results := [.lit (.bool false)], args := [d1, d2, d3] }
  | _ => none }
def FnExactCompareClausesWrongFalsely : Prop := fnExactCompareClausesRow.holds Try.pinned (OpenSpec.ofChange fnExactCompareClausesWrong)

/-- 'laws.FnExactWidthOfCnf': WHATEVER THE INPUT: true; the input reads as it did. -/
def fnExactWidthOfCnfSpec : ChangeSpec := { name := "fnExactWidthOfCnf", fn := fun _ => fun
  | [d] => { results := [.lit (.bool true)], args := [d] }
  | _ => none }
def fnExactWidthOfCnfRow : OpenClaim := { program := "ytnkdkdojmloohaa", sum := "66e4b5ec3eeb42a049c768d9373dae3abb2c50ac71cac0e44d992031f9f5f718", func := "loop.example/g01080/laws.FnExactWidthOfCnf", spec := "fnExactWidthOfCnf", apart := false }
def FnExactWidthOfCnfSaid : Prop := fnExactWidthOfCnfRow.holds Try.pinned (OpenSpec.ofChange fnExactWidthOfCnfSpec)

/-- ITS FALSE NEIGHBOUR: 'it returns false'. Refute it at one input. -/
def fnExactWidthOfCnfWrong : ChangeSpec := { name := "fnExactWidthOfCnf", fn := fun _ => fun
  | [d] => { results := [.lit (.bool false)], args := [d] }
  | _ => none }
def FnExactWidthOfCnfWrongFalsely : Prop := fnExactWidthOfCnfRow.holds Try.pinned (OpenSpec.ofChange fnExactWidthOfCnfWrong)

/-- 'laws.FnExactIsModel': WHATEVER THE INPUT: true; the input reads as it did. -/
def fnExactIsModelSpec : ChangeSpec := { name := "fnExactIsModel", fn := fun _ => fun
  | [d1, d2] => { results := [.lit (.bool true)], args := [d1, d2] }
  | _ => none }
def fnExactIsModelRow : OpenClaim := { program := "ytnkdkdojmloohaa", sum := "66e4b5ec3eeb42a049c768d9373dae3abb2c50ac71cac0e44d992031f9f5f718", func := "loop.example/g01080/laws.FnExactIsModel", spec := "fnExactIsModel", unfollowed := true, recurses := true, apart := false }
def FnExactIsModelSaid : Prop := fnExactIsModelRow.holds Try.pinned (OpenSpec.ofChange fnExactIsModelSpec)

/-- ITS FALSE NEIGHBOUR: 'it returns false'. Refute it at one input. -/
def fnExactIsModelWrong : ChangeSpec := { name := "fnExactIsModel", fn := fun _ => fun
  | [d1, d2] => { results := [.lit (.bool false)], args := [d1, d2] }
  | _ => none }
def FnExactIsModelWrongFalsely : Prop := fnExactIsModelRow.holds Try.pinned (OpenSpec.ofChange fnExactIsModelWrong)

/-- 'laws.FnExactAreEquivalentCnfs': WHATEVER THE INPUT: true; the input reads as it did. -/
def fnExactAreEquivalentCnfsSpec : ChangeSpec := { name := "fnExactAreEquivalentCnfs", fn := fun _ => fun
  | [d1, d2] => { results := [.lit (.bool true)], args := [d1, d2] }
  | _ => none }
def fnExactAreEquivalentCnfsRow : OpenClaim := { program := "ytnkdkdojmloohaa", sum := "66e4b5ec3eeb42a049c768d9373dae3abb2c50ac71cac0e44d992031f9f5f718", func := "loop.example/g01080/laws.FnExactAreEquivalentCnfs", spec := "fnExactAreEquivalentCnfs", unfollowed := true, recurses := true, apart := false }
def FnExactAreEquivalentCnfsSaid : Prop := fnExactAreEquivalentCnfsRow.holds Try.pinned (OpenSpec.ofChange fnExactAreEquivalentCnfsSpec)

/-- ITS FALSE NEIGHBOUR: 'it returns false'. Refute it at one input. -/
def fnExactAreEquivalentCnfsWrong : ChangeSpec := { name := "fnExactAreEquivalentCnfs", fn := fun _ => fun
  | [d1, d2] => { results := [.lit (.bool false)], args := [d1, d2] }
  | _ => none }
def FnExactAreEquivalentCnfsWrongFalsely : Prop := fnExactAreEquivalentCnfsRow.holds Try.pinned (OpenSpec.ofChange fnExactAreEquivalentCnfsWrong)

/-- 'laws.FnExactCountCnfModels': WHATEVER THE INPUT: true; the input reads as it did. -/
def fnExactCountCnfModelsSpec : ChangeSpec := { name := "fnExactCountCnfModels", fn := fun _ => fun
  | [d] => { results := [.lit (.bool true)], args := [d] }
  | _ => none }
def fnExactCountCnfModelsRow : OpenClaim := { program := "ytnkdkdojmloohaa", sum := "66e4b5ec3eeb42a049c768d9373dae3abb2c50ac71cac0e44d992031f9f5f718", func := "loop.example/g01080/laws.FnExactCountCnfModels", spec := "fnExactCountCnfModels", unfollowed := true, recurses := true, apart := false }
def FnExactCountCnfModelsSaid : Prop := fnExactCountCnfModelsRow.holds Try.pinned (OpenSpec.ofChange fnExactCountCnfModelsSpec)

/-- ITS FALSE NEIGHBOUR: 'it returns false'. Refute it at one input. -/
def fnExactCountCnfModelsWrong : ChangeSpec := { name := "fnExactCountCnfModels", fn := fun _ => fun
  | [d] => { results := [.lit (.bool false)], args := [d] }
  | _ => none }
def FnExactCountCnfModelsWrongFalsely : Prop := fnExactCountCnfModelsRow.holds Try.pinned (OpenSpec.ofChange fnExactCountCnfModelsWrong)

/-- 'laws.FnExactIsSatisfiable': WHATEVER THE INPUT: true; the input reads as it did. -/
def fnExactIsSatisfiableSpec : ChangeSpec := { name := "fnExactIsSatisfiable", fn := fun _ => fun
  | [d] => { results := [.lit (.bool true)], args := [d] }
  | _ => none }
def fnExactIsSatisfiableRow : OpenClaim := { program := "ytnkdkdojmloohaa", sum := "66e4b5ec3eeb42a049c768d9373dae3abb2c50ac71cac0e44d992031f9f5f718", func := "loop.example/g01080/laws.FnExactIsSatisfiable", spec := "fnExactIsSatisfiable", unfollowed := true, recurses := true, apart := false }
def FnExactIsSatisfiableSaid : Prop := fnExactIsSatisfiableRow.holds Try.pinned (OpenSpec.ofChange fnExactIsSatisfiableSpec)

/-- ITS FALSE NEIGHBOUR: 'it returns false'. Refute it at one input. -/
def fnExactIsSatisfiableWrong : ChangeSpec := { name := "fnExactIsSatisfiable", fn := fun _ => fun
  | [d] => { results := [.lit (.bool false)], args := [d] }
  | _ => none }
def FnExactIsSatisfiableWrongFalsely : Prop := fnExactIsSatisfiableRow.holds Try.pinned (OpenSpec.ofChange fnExactIsSatisfiableWrong)

/-- 'laws.FnExactFirstModel': WHATEVER THE INPUT: true; the input reads as it did. -/
def fnExactFirstModelSpec : ChangeSpec := { name := "fnExactFirstModel", fn := fun _ => fun
  | [d] => { results := [.lit (.bool true)], args := [d] }
  | _ => none }
def fnExactFirstModelRow : OpenClaim := { program := "ytnkdkdojmloohaa", sum := "66e4b5ec3eeb42a049c768d9373dae3abb2c50ac71cac0e44d992031f9f5f718", func := "loop.example/g01080/laws.FnExactFirstModel", spec := "fnExactFirstModel", unfollowed := true, recurses := true, apart := false }
def FnExactFirstModelSaid : Prop := fnExactFirstModelRow.holds Try.pinned (OpenSpec.ofChange fnExactFirstModelSpec)

/-- ITS FALSE NEIGHBOUR: 'it returns false'. Refute it at one input. -/
def fnExactFirstModelWrong : ChangeSpec := { name := "fnExactFirstModel", fn := fun _ => fun
  | [d] => { results := [.lit (.bool false)], args := [d] }
  | _ => none }
def FnExactFirstModelWrongFalsely : Prop := fnExactFirstModelRow.holds Try.pinned (OpenSpec.ofChange fnExactFirstModelWrong)

/-- 'laws.FnExactValueOfCnf': WHATEVER THE INPUT: true; the input reads as it did. -/
def fnExactValueOfCnfSpec : ChangeSpec := { name := "fnExactValueOfCnf", fn := fun _ => fun
  | [d1, d2] => { results := [.lit (.bool true)], args := [d1, d2] }
  | _ => none }
def fnExactValueOfCnfRow : OpenClaim := { program := "ytnkdkdojmloohaa", sum := "66e4b5ec3eeb42a049c768d9373dae3abb2c50ac71cac0e44d992031f9f5f718", func := "loop.example/g01080/laws.FnExactValueOfCnf", spec := "fnExactValueOfCnf", apart := false }
def FnExactValueOfCnfSaid : Prop := fnExactValueOfCnfRow.holds Try.pinned (OpenSpec.ofChange fnExactValueOfCnfSpec)

/-- ITS FALSE NEIGHBOUR: 'it returns false'. Refute it at one input. -/
def fnExactValueOfCnfWrong : ChangeSpec := { name := "fnExactValueOfCnf", fn := fun _ => fun
  | [d1, d2] => { results := [.lit (.bool false)], args := [d1, d2] }
  | _ => none }
def FnExactValueOfCnfWrongFalsely : Prop := fnExactValueOfCnfRow.holds Try.pinned (OpenSpec.ofChange fnExactValueOfCnfWrong)

/-- 'laws.FnExactImpliesClause': WHATEVER THE INPUT: true; the input reads as it did. -/
def fnExactImpliesClauseSpec : ChangeSpec := { name := "fnExactImpliesClause", fn := fun _ => fun
  | [d1, d2] => { results := [.lit (.bool true)], args := [d1, d2] }
  | _ => none }
def fnExactImpliesClauseRow : OpenClaim := { program := "ytnkdkdojmloohaa", sum := "66e4b5ec3eeb42a049c768d9373dae3abb2c50ac71cac0e44d992031f9f5f718", func := "loop.example/g01080/laws.FnExactImpliesClause", spec := "fnExactImpliesClause", unfollowed := true, recurses := true, apart := false }
def FnExactImpliesClauseSaid : Prop := fnExactImpliesClauseRow.holds Try.pinned (OpenSpec.ofChange fnExactImpliesClauseSpec)

/-- ITS FALSE NEIGHBOUR: 'it returns false'. Refute it at one input. -/
def fnExactImpliesClauseWrong : ChangeSpec := { name := "fnExactImpliesClause", fn := fun _ => fun
  | [d1, d2] => { results := [.lit (.bool false)], args := [d1, d2] }
  | _ => none }
def FnExactImpliesClauseWrongFalsely : Prop := fnExactImpliesClauseRow.holds Try.pinned (OpenSpec.ofChange fnExactImpliesClauseWrong)

/-- 'laws.FnExactIsAutarky': WHATEVER THE INPUT: true; the input reads as it did. -/
def fnExactIsAutarkySpec : ChangeSpec := { name := "fnExactIsAutarky", fn := fun _ => fun
  | [d1, d2] => { results := [.lit (.bool true)], args := [d1, d2] }
  | _ => none }
def fnExactIsAutarkyRow : OpenClaim := { program := "ytnkdkdojmloohaa", sum := "66e4b5ec3eeb42a049c768d9373dae3abb2c50ac71cac0e44d992031f9f5f718", func := "loop.example/g01080/laws.FnExactIsAutarky", spec := "fnExactIsAutarky", unfollowed := true, recurses := true, apart := false }
def FnExactIsAutarkySaid : Prop := fnExactIsAutarkyRow.holds Try.pinned (OpenSpec.ofChange fnExactIsAutarkySpec)

/-- ITS FALSE NEIGHBOUR: 'it returns false'. Refute it at one input. -/
def fnExactIsAutarkyWrong : ChangeSpec := { name := "fnExactIsAutarky", fn := fun _ => fun
  | [d1, d2] => { results := [.lit (.bool false)], args := [d1, d2] }
  | _ => none }
def FnExactIsAutarkyWrongFalsely : Prop := fnExactIsAutarkyRow.holds Try.pinned (OpenSpec.ofChange fnExactIsAutarkyWrong)

/-- 'laws.FnExactAllModels': WHATEVER THE INPUT: true; the input reads as it did. -/
def fnExactAllModelsSpec : ChangeSpec := { name := "fnExactAllModels", fn := fun _ => fun
  | [d] => { results := [.lit (.bool true)], args := [d] }
  | _ => none }
def fnExactAllModelsRow : OpenClaim := { program := "ytnkdkdojmloohaa", sum := "66e4b5ec3eeb42a049c768d9373dae3abb2c50ac71cac0e44d992031f9f5f718", func := "loop.example/g01080/laws.FnExactAllModels", spec := "fnExactAllModels", unfollowed := true, recurses := true, apart := false }
def FnExactAllModelsSaid : Prop := fnExactAllModelsRow.holds Try.pinned (OpenSpec.ofChange fnExactAllModelsSpec)

/-- ITS FALSE NEIGHBOUR: 'it returns false'. Refute it at one input. -/
def fnExactAllModelsWrong : ChangeSpec := { name := "fnExactAllModels", fn := fun _ => fun
  | [d] => { results := [.lit (.bool false)], args := [d] }
  | _ => none }
def FnExactAllModelsWrongFalsely : Prop := fnExactAllModelsRow.holds Try.pinned (OpenSpec.ofChange fnExactAllModelsWrong)

/- THE SECOND FORM. 'bulk': how many values and letters a reading holds, each counted each time it is reached (what is shared counts as often as it is met; a slice's spare places count too). A statement '..UptoSaid' is the law's where the arguments, and the package variables that the reading takes, are together of bulk at most 1048576: NARROWER than '..Said'. Prove '..Said' where nothing that the law and all that it calls make is longer than what came in: it says more and counts as full. Else prove '..UptoSaid'. A law counts once. -/
mutual
def uptoBulk {H : Type} : DataW H → Nat
  | .lit (.string bytes) => bytes.length + 1
  | .lit _ => 1
  | .nil => 1
  | .ptr d => uptoBulk d + 1
  | .slice elems spare => uptoBulkAll elems + uptoBulkAll spare + 1
  | .agg parts => uptoBulkAll parts + 1
  | .iface _ d => uptoBulk d + 1
  | .map entries => uptoBulkEntries entries + 1
  | .held _ => 1
def uptoBulkAll {H : Type} : List (DataW H) → Nat
  | [] => 0
  | d :: r => uptoBulk d + uptoBulkAll r
def uptoBulkEntries {H : Type} : List (Lit × DataW H) → Nat
  | [] => 0
  | x :: r => uptoBulkEntry x + uptoBulkEntries r
def uptoBulkEntry {H : Type} : Lit × DataW H → Nat
  | (.string bytes, d) => bytes.length + uptoBulk d + 1
  | (_, d) => uptoBulk d + 1
 end
def uptoSmall : (H : Type) → List (DataW H) → Bool := fun _ ds => decide (uptoBulkAll ds ≤ 1048576)
def OpenSpec.upto (s : _root_.Go.ChangeSpec) : _root_.Go.OpenSpec := { _root_.Go.OpenSpec.ofChange s with cond := some uptoSmall }

/-- 'laws.FnExactIsCnf', WHERE WHAT IT READS IS OF BULK AT MOST 1048576: true; the input reads as it did. -/
def fnExactIsCnfUptoRow : OpenClaim := { program := "ytnkdkdojmloohaa", sum := "66e4b5ec3eeb42a049c768d9373dae3abb2c50ac71cac0e44d992031f9f5f718", func := "loop.example/g01080/laws.FnExactIsCnf", spec := "fnExactIsCnf", apart := false, narrowed := true }
def FnExactIsCnfUptoSaid : Prop := fnExactIsCnfUptoRow.holds Try.pinned (OpenSpec.upto fnExactIsCnfSpec)

/-- 'laws.FnExactCompareClauses', WHERE WHAT IT READS IS OF BULK AT MOST 1048576: true; the input reads as it did. -/
def fnExactCompareClausesUptoRow : OpenClaim := { program := "ytnkdkdojmloohaa", sum := "66e4b5ec3eeb42a049c768d9373dae3abb2c50ac71cac0e44d992031f9f5f718", func := "loop.example/g01080/laws.FnExactCompareClauses", spec := "fnExactCompareClauses", unfollowed := true, recurses := true, apart := false, narrowed := true }
def FnExactCompareClausesUptoSaid : Prop := fnExactCompareClausesUptoRow.holds Try.pinned (OpenSpec.upto fnExactCompareClausesSpec)

/-- 'laws.FnExactWidthOfCnf', WHERE WHAT IT READS IS OF BULK AT MOST 1048576: true; the input reads as it did. -/
def fnExactWidthOfCnfUptoRow : OpenClaim := { program := "ytnkdkdojmloohaa", sum := "66e4b5ec3eeb42a049c768d9373dae3abb2c50ac71cac0e44d992031f9f5f718", func := "loop.example/g01080/laws.FnExactWidthOfCnf", spec := "fnExactWidthOfCnf", apart := false, narrowed := true }
def FnExactWidthOfCnfUptoSaid : Prop := fnExactWidthOfCnfUptoRow.holds Try.pinned (OpenSpec.upto fnExactWidthOfCnfSpec)

/-- 'laws.FnExactIsModel', WHERE WHAT IT READS IS OF BULK AT MOST 1048576: true; the input reads as it did. -/
def fnExactIsModelUptoRow : OpenClaim := { program := "ytnkdkdojmloohaa", sum := "66e4b5ec3eeb42a049c768d9373dae3abb2c50ac71cac0e44d992031f9f5f718", func := "loop.example/g01080/laws.FnExactIsModel", spec := "fnExactIsModel", unfollowed := true, recurses := true, apart := false, narrowed := true }
def FnExactIsModelUptoSaid : Prop := fnExactIsModelUptoRow.holds Try.pinned (OpenSpec.upto fnExactIsModelSpec)

/-- 'laws.FnExactAreEquivalentCnfs', WHERE WHAT IT READS IS OF BULK AT MOST 1048576: true; the input reads as it did. -/
def fnExactAreEquivalentCnfsUptoRow : OpenClaim := { program := "ytnkdkdojmloohaa", sum := "66e4b5ec3eeb42a049c768d9373dae3abb2c50ac71cac0e44d992031f9f5f718", func := "loop.example/g01080/laws.FnExactAreEquivalentCnfs", spec := "fnExactAreEquivalentCnfs", unfollowed := true, recurses := true, apart := false, narrowed := true }
def FnExactAreEquivalentCnfsUptoSaid : Prop := fnExactAreEquivalentCnfsUptoRow.holds Try.pinned (OpenSpec.upto fnExactAreEquivalentCnfsSpec)

/-- 'laws.FnExactCountCnfModels', WHERE WHAT IT READS IS OF BULK AT MOST 1048576: true; the input reads as it did. -/
def fnExactCountCnfModelsUptoRow : OpenClaim := { program := "ytnkdkdojmloohaa", sum := "66e4b5ec3eeb42a049c768d9373dae3abb2c50ac71cac0e44d992031f9f5f718", func := "loop.example/g01080/laws.FnExactCountCnfModels", spec := "fnExactCountCnfModels", unfollowed := true, recurses := true, apart := false, narrowed := true }
def FnExactCountCnfModelsUptoSaid : Prop := fnExactCountCnfModelsUptoRow.holds Try.pinned (OpenSpec.upto fnExactCountCnfModelsSpec)

/-- 'laws.FnExactIsSatisfiable', WHERE WHAT IT READS IS OF BULK AT MOST 1048576: true; the input reads as it did. -/
def fnExactIsSatisfiableUptoRow : OpenClaim := { program := "ytnkdkdojmloohaa", sum := "66e4b5ec3eeb42a049c768d9373dae3abb2c50ac71cac0e44d992031f9f5f718", func := "loop.example/g01080/laws.FnExactIsSatisfiable", spec := "fnExactIsSatisfiable", unfollowed := true, recurses := true, apart := false, narrowed := true }
def FnExactIsSatisfiableUptoSaid : Prop := fnExactIsSatisfiableUptoRow.holds Try.pinned (OpenSpec.upto fnExactIsSatisfiableSpec)

/-- 'laws.FnExactFirstModel', WHERE WHAT IT READS IS OF BULK AT MOST 1048576: true; the input reads as it did. -/
def fnExactFirstModelUptoRow : OpenClaim := { program := "ytnkdkdojmloohaa", sum := "66e4b5ec3eeb42a049c768d9373dae3abb2c50ac71cac0e44d992031f9f5f718", func := "loop.example/g01080/laws.FnExactFirstModel", spec := "fnExactFirstModel", unfollowed := true, recurses := true, apart := false, narrowed := true }
def FnExactFirstModelUptoSaid : Prop := fnExactFirstModelUptoRow.holds Try.pinned (OpenSpec.upto fnExactFirstModelSpec)

/-- 'laws.FnExactValueOfCnf', WHERE WHAT IT READS IS OF BULK AT MOST 1048576: true; the input reads as it did. -/
def fnExactValueOfCnfUptoRow : OpenClaim := { program := "ytnkdkdojmloohaa", sum := "66e4b5ec3eeb42a049c768d9373dae3abb2c50ac71cac0e44d992031f9f5f718", func := "loop.example/g01080/laws.FnExactValueOfCnf", spec := "fnExactValueOfCnf", apart := false, narrowed := true }
def FnExactValueOfCnfUptoSaid : Prop := fnExactValueOfCnfUptoRow.holds Try.pinned (OpenSpec.upto fnExactValueOfCnfSpec)

/-- 'laws.FnExactImpliesClause', WHERE WHAT IT READS IS OF BULK AT MOST 1048576: true; the input reads as it did. -/
def fnExactImpliesClauseUptoRow : OpenClaim := { program := "ytnkdkdojmloohaa", sum := "66e4b5ec3eeb42a049c768d9373dae3abb2c50ac71cac0e44d992031f9f5f718", func := "loop.example/g01080/laws.FnExactImpliesClause", spec := "fnExactImpliesClause", unfollowed := true, recurses := true, apart := false, narrowed := true }
def FnExactImpliesClauseUptoSaid : Prop := fnExactImpliesClauseUptoRow.holds Try.pinned (OpenSpec.upto fnExactImpliesClauseSpec)

/-- 'laws.FnExactIsAutarky', WHERE WHAT IT READS IS OF BULK AT MOST 1048576: true; the input reads as it did. -/
def fnExactIsAutarkyUptoRow : OpenClaim := { program := "ytnkdkdojmloohaa", sum := "66e4b5ec3eeb42a049c768d9373dae3abb2c50ac71cac0e44d992031f9f5f718", func := "loop.example/g01080/laws.FnExactIsAutarky", spec := "fnExactIsAutarky", unfollowed := true, recurses := true, apart := false, narrowed := true }
def FnExactIsAutarkyUptoSaid : Prop := fnExactIsAutarkyUptoRow.holds Try.pinned (OpenSpec.upto fnExactIsAutarkySpec)

/-- 'laws.FnExactAllModels', WHERE WHAT IT READS IS OF BULK AT MOST 1048576: true; the input reads as it did. -/
def fnExactAllModelsUptoRow : OpenClaim := { program := "ytnkdkdojmloohaa", sum := "66e4b5ec3eeb42a049c768d9373dae3abb2c50ac71cac0e44d992031f9f5f718", func := "loop.example/g01080/laws.FnExactAllModels", spec := "fnExactAllModels", unfollowed := true, recurses := true, apart := false, narrowed := true }
def FnExactAllModelsUptoSaid : Prop := fnExactAllModelsUptoRow.holds Try.pinned (OpenSpec.upto fnExactAllModelsSpec)

end Rows
end Go.Proofs.Ytnkdkdojmloohaa
