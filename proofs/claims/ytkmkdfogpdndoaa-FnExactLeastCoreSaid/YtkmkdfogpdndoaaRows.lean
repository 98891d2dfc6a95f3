/-
  No cell of these rows narrows 'for every input' (looked for: loops, veiled, ifaces, maps, wideKeys, modest, calm, conditions, laid).
  DERIVED. THE GIVEN ROWS OF THIS SEAT. 12 by the template 'for every input the law returns true; each argument reads behind the call as it read before'; 0 by the template 'total and deterministic' (their statements: YtkmkdfogpdndoaaTotals.lean).
  GIVEN WITH THE SEED: the statements are not yours to turn. If you find one false, say at which input.
  Laid BY PROGRAM, IN A SANDBOX (cutbox-rows.mjs): the forced cells as the released guide's own fill.sh prints them over the translation af8a52687ae51b4e… (all of the seat's roots in one cut). By AI agents, Wed Nov 11 2026. No macro, syntax, notation, axiom, sorry.
-/
import Derived.Test.YtkmkdfogpdndoaaChecked
import GoSem.Claim
import GoSem.ClaimJoined
import GoSem.ClaimMapViews
import Derived.JoinedTies
import Derived.KernelRfl
namespace Go.Proofs.Ytkmkdfogpdndoaa
/- THE CELL 'sum', in the pinned program and in every row, IS THE sha256 OF THE DUMP (.gsa) THAT YtkmkdfogpdndoaaProg.lean LOADS. Nothing in Lean hashes anything: it is a label: what it is worth is what the hold of that sum in a sandbox is worth. -/
noncomputable def Try.pinned : Pinned := { name := "ytkmkdfogpdndoaa", sum := "af8a52687ae51b4ead77c4de08eced5d5e2f9a44622aa99ffa3d6e3f2c5041bf", checked := Try.checked }
namespace Rows
def none {H : Type} : Left H := { results := [], args := [] }

/-- 'laws.FnExactFalseClauses': WHATEVER THE INPUT: true; the input reads as it did. -/
def fnExactFalseClausesSpec : ChangeSpec := { name := "fnExactFalseClauses", fn := fun _ => fun
  | [d1, d2] => { results := [.lit (.bool true)], args := [d1, d2] }
  | _ => none }
def fnExactFalseClausesRow : OpenClaim := { program := "ytkmkdfogpdndoaa", sum := "af8a52687ae51b4ead77c4de08eced5d5e2f9a44622aa99ffa3d6e3f2c5041bf", func := "loop.example/g01080/laws.FnExactFalseClauses", spec := "fnExactFalseClauses", apart := false }
def FnExactFalseClausesSaid : Prop := fnExactFalseClausesRow.holds Try.pinned (OpenSpec.ofChange fnExactFalseClausesSpec)

/-- ITS FALSE NEIGHBOUR: 'it returns false'. Refute it at one input. -/
def fnExactFalseClausesWrong : ChangeSpec := { name := "fnExactFalseClauses", fn := fun _ => fun
  | [d1, d2] => { results := [.lit (.bool false)], args := [d1, d2] }
  | _ => none }
def FnExactFalseClausesWrongFalsely : Prop := fnExactFalseClausesRow.holds Try.pinned (OpenSpec.ofChange fnExactFalseClausesWrong)

/-- 'laws.FnExactIsCore': WHATEVER THE INPUT: true; the input reads as it did. -/
def fnExactIsCoreSpec : ChangeSpec := { name := "fnExactIsCore", fn := fun _ => fun
  | [d1, d2] => { results := [.lit (.bool true)], args := [d1, d2] }
  | _ => none }
def fnExactIsCoreRow : OpenClaim := { program := "ytkmkdfogpdndoaa", sum := "af8a52687ae51b4ead77c4de08eced5d5e2f9a44622aa99ffa3d6e3f2c5041bf", func := "loop.example/g01080/laws.FnExactIsCore", spec := "fnExactIsCore", unfollowed := true, recurses := true, apart := false }
def FnExactIsCoreSaid : Prop := fnExactIsCoreRow.holds Try.pinned (OpenSpec.ofChange fnExactIsCoreSpec)

/-- ITS FALSE NEIGHBOUR: 'it returns false'. Refute it at one input. -/
def fnExactIsCoreWrong : ChangeSpec := { name := "fnExactIsCore", fn := fun _ => fun
  | [d1, d2] => { results := [.lit (.bool false)], args := [d1, d2] }
  | _ => none }
def FnExactIsCoreWrongFalsely : Prop := fnExactIsCoreRow.holds Try.pinned (OpenSpec.ofChange fnExactIsCoreWrong)

/-- 'laws.FnExactApartCnfs': WHATEVER THE INPUT: true; the input reads as it did. -/
def fnExactApartCnfsSpec : ChangeSpec := { name := "fnExactApartCnfs", fn := fun _ => fun
  | [d1, d2] => { results := [.lit (.bool true)], args := [d1, d2] }
  | _ => none }
def fnExactApartCnfsRow : OpenClaim := { program := "ytkmkdfogpdndoaa", sum := "af8a52687ae51b4ead77c4de08eced5d5e2f9a44622aa99ffa3d6e3f2c5041bf", func := "loop.example/g01080/laws.FnExactApartCnfs", spec := "fnExactApartCnfs", apart := false }
def FnExactApartCnfsSaid : Prop := fnExactApartCnfsRow.holds Try.pinned (OpenSpec.ofChange fnExactApartCnfsSpec)

/-- ITS FALSE NEIGHBOUR: 'it returns false'. Refute it at one input. -/
def fnExactApartCnfsWrong : ChangeSpec := { name := "fnExactApartCnfs", fn := fun _ => fun
  | [d1, d2] => { results := [.lit (.bool false)], args := [d1, d2] }
  | _ => none }
def FnExactApartCnfsWrongFalsely : Prop := fnExactApartCnfsRow.holds Try.pinned (OpenSpec.ofChange fnExactApartCnfsWrong)

/-- 'laws.FnExactFullCnf': WHATEVER THE INPUT: true; the input reads as it did. -/
def fnExactFullCnfSpec : ChangeSpec := { name := "fnExactFullCnf", fn := fun _ => fun
  | [d] => { results := [.lit (.bool true)], args := [d] }
  | _ => none }
def fnExactFullCnfRow : OpenClaim := { program := "ytkmkdfogpdndoaa", sum := "af8a52687ae51b4ead77c4de08eced5d5e2f9a44622aa99ffa3d6e3f2c5041bf", func := "loop.example/g01080/laws.FnExactFullCnf", spec := "fnExactFullCnf", apart := false }
def FnExactFullCnfSaid : Prop := fnExactFullCnfRow.holds Try.pinned (OpenSpec.ofChange fnExactFullCnfSpec)

/-- ITS FALSE NEIGHBOUR: 'it returns false'. Refute it at one input. -/
def fnExactFullCnfWrong : ChangeSpec := { name := "fnExactFullCnf", fn := fun _ => fun
  | [d] => { results := [.lit (.bool false)], args := [d] }
  | _ => none }
def FnExactFullCnfWrongFalsely : Prop := fnExactFullCnfRow.holds Try.pinned (OpenSpec.ofChange fnExactFullCnfWrong)

/-- 'laws.FnExactBothCnfs': WHATEVER THE INPUT: true; the input reads as it did. -/
def fnExactBothCnfsSpec : ChangeSpec := { name := "fnExactBothCnfs", fn := fun _ => fun
  | [d1, d2] => { results := [.lit (.bool true)], args := [d1, d2] }
  | _ => none }
def fnExactBothCnfsRow : OpenClaim := { program := "ytkmkdfogpdndoaa", sum := "af8a52687ae51b4ead77c4de08eced5d5e2f9a44622aa99ffa3d6e3f2c5041bf", func := "loop.example/g01080/laws.FnExactBothCnfs", spec := "fnExactBothCnfs", apart := false }
def FnExactBothCnfsSaid : Prop := fnExactBothCnfsRow.holds Try.pinned (OpenSpec.ofChange fnExactBothCnfsSpec)

/-- ITS FALSE NEIGHBOUR: 'it returns false'. Refute it at one input. -/
def fnExactBothCnfsWrong : ChangeSpec := { name := "fnExactBothCnfs", fn := fun _ => fun
  | [d1, d2] => { results := [.lit (.bool false)], args := [d1, d2] }
  | _ => none }
def FnExactBothCnfsWrongFalsely : Prop := fnExactBothCnfsRow.holds Try.pinned (OpenSpec.ofChange fnExactBothCnfsWrong)

/-- 'laws.FnExactIsMinimalCore': WHATEVER THE INPUT: true; the input reads as it did. -/
def fnExactIsMinimalCoreSpec : ChangeSpec := { name := "fnExactIsMinimalCore", fn := fun _ => fun
  | [d1, d2] => { results := [.lit (.bool true)], args := [d1, d2] }
  | _ => none }
def fnExactIsMinimalCoreRow : OpenClaim := { program := "ytkmkdfogpdndoaa", sum := "af8a52687ae51b4ead77c4de08eced5d5e2f9a44622aa99ffa3d6e3f2c5041bf", func := "loop.example/g01080/laws.FnExactIsMinimalCore", spec := "fnExactIsMinimalCore", unfollowed := true, recurses := true, apart := false }
def FnExactIsMinimalCoreSaid : Prop := fnExactIsMinimalCoreRow.holds Try.pinned (OpenSpec.ofChange fnExactIsMinimalCoreSpec)

/-- ITS FALSE NEIGHBOUR: 'it returns false'. Refute it at one input. -/
def fnExactIsMinimalCoreWrong : ChangeSpec := { name := "fnExactIsMinimalCore", fn := fun _ => fun
  | [d1, d2] => { results := [.lit (.bool false)], args := [d1, d2] }
  | _ => none }
def FnExactIsMinimalCoreWrongFalsely : Prop := fnExactIsMinimalCoreRow.holds Try.pinned (OpenSpec.ofChange fnExactIsMinimalCoreWrong)

/-- 'laws.FnExactBackboneOf': WHATEVER THE INPUT: true; the input reads as it did. -/
def fnExactBackboneOfSpec : ChangeSpec := { name := "fnExactBackboneOf", fn := fun _ => fun
  | [d] => { results := [.lit (.bool true)], args := [d] }
  | _ => none }
def fnExactBackboneOfRow : OpenClaim := { program := "ytkmkdfogpdndoaa", sum := "af8a52687ae51b4ead77c4de08eced5d5e2f9a44622aa99ffa3d6e3f2c5041bf", func := "loop.example/g01080/laws.FnExactBackboneOf", spec := "fnExactBackboneOf", unfollowed := true, recurses := true, apart := false }
def FnExactBackboneOfSaid : Prop := fnExactBackboneOfRow.holds Try.pinned (OpenSpec.ofChange fnExactBackboneOfSpec)

/-- ITS FALSE NEIGHBOUR: 'it returns false'. Refute it at one input. -/
def fnExactBackboneOfWrong : ChangeSpec := { name := "fnExactBackboneOf", fn := fun _ => fun
  | [d] => { results := [.lit (.bool false)], args := [d] }
  | _ => none }
def FnExactBackboneOfWrongFalsely : Prop := fnExactBackboneOfRow.holds Try.pinned (OpenSpec.ofChange fnExactBackboneOfWrong)

/-- 'laws.FnExactXorCnf': WHATEVER THE INPUT: true; the input reads as it did. -/
def fnExactXorCnfSpec : ChangeSpec := { name := "fnExactXorCnf", fn := fun _ => fun
  | [d1, d2, d3] => { results := [.lit (.bool true)], args := [d1, d2, d3] }
  | _ => none }
def fnExactXorCnfRow : OpenClaim := { program := "ytkmkdfogpdndoaa", sum := "af8a52687ae51b4ead77c4de08eced5d5e2f9a44622aa99ffa3d6e3f2c5041bf", func := "loop.example/g01080/laws.FnExactXorCnf", spec := "fnExactXorCnf", unfollowed := true, recurses := true, apart := false }
def FnExactXorCnfSaid : Prop := fnExactXorCnfRow.holds Try.pinned (OpenSpec.ofChange fnExactXorCnfSpec)

/-- ITS FALSE NEIGHBOUR: 'it returns false'. Refute it at one input. -/
def fnExactXorCnfWrong : ChangeSpec := { name := "fnExactXorCnf", fn := fun _ => fun
  | [d1, d2, d3] => { results := [.lit (.bool false)], args := [d1, d2, d3] }
  | _ => none }
def FnExactXorCnfWrongFalsely : Prop := fnExactXorCnfRow.holds Try.pinned (OpenSpec.ofChange fnExactXorCnfWrong)

/-- 'laws.FnExactDropWeaker': WHATEVER THE INPUT: true; the input reads as it did. -/
def fnExactDropWeakerSpec : ChangeSpec := { name := "fnExactDropWeaker", fn := fun _ => fun
  | [d] => { results := [.lit (.bool true)], args := [d] }
  | _ => none }
def fnExactDropWeakerRow : OpenClaim := { program := "ytkmkdfogpdndoaa", sum := "af8a52687ae51b4ead77c4de08eced5d5e2f9a44622aa99ffa3d6e3f2c5041bf", func := "loop.example/g01080/laws.FnExactDropWeaker", spec := "fnExactDropWeaker", unfollowed := true, recurses := true, apart := false }
def FnExactDropWeakerSaid : Prop := fnExactDropWeakerRow.holds Try.pinned (OpenSpec.ofChange fnExactDropWeakerSpec)

/-- ITS FALSE NEIGHBOUR: 'it returns false'. Refute it at one input. -/
def fnExactDropWeakerWrong : ChangeSpec := { name := "fnExactDropWeaker", fn := fun _ => fun
  | [d] => { results := [.lit (.bool false)], args := [d] }
  | _ => none }
def FnExactDropWeakerWrongFalsely : Prop := fnExactDropWeakerRow.holds Try.pinned (OpenSpec.ofChange fnExactDropWeakerWrong)

/-- 'laws.FnExactImpliedClauses': WHATEVER THE INPUT: true; the input reads as it did. -/
def fnExactImpliedClausesSpec : ChangeSpec := { name := "fnExactImpliedClauses", fn := fun _ => fun
  | [d] => { results := [.lit (.bool true)], args := [d] }
  | _ => none }
def fnExactImpliedClausesRow : OpenClaim := { program := "ytkmkdfogpdndoaa", sum := "af8a52687ae51b4ead77c4de08eced5d5e2f9a44622aa99ffa3d6e3f2c5041bf", func := "loop.example/g01080/laws.FnExactImpliedClauses", spec := "fnExactImpliedClauses", unfollowed := true, recurses := true, apart := false }
def FnExactImpliedClausesSaid : Prop := fnExactImpliedClausesRow.holds Try.pinned (OpenSpec.ofChange fnExactImpliedClausesSpec)

/-- ITS FALSE NEIGHBOUR: 'it returns false'. Refute it at one input. -/
def fnExactImpliedClausesWrong : ChangeSpec := { name := "fnExactImpliedClauses", fn := fun _ => fun
  | [d] => { results := [.lit (.bool false)], args := [d] }
  | _ => none }
def FnExactImpliedClausesWrongFalsely : Prop := fnExactImpliedClausesRow.holds Try.pinned (OpenSpec.ofChange fnExactImpliedClausesWrong)

/-- 'laws.FnExactLeastCore': WHATEVER THE INPUT: true; the input reads as it did. -/
def fnExactLeastCoreSpec : ChangeSpec := { name := "fnExactLeastCore", fn := fun _ => fun
  | [d] => { results := [.lit (.bool true)], args := [d] }
  | _ => none }
def fnExactLeastCoreRow : OpenClaim := { program := "ytkmkdfogpdndoaa", sum := "af8a52687ae51b4ead77c4de08eced5d5e2f9a44622aa99ffa3d6e3f2c5041bf", func := "loop.example/g01080/laws.FnExactLeastCore", spec := "fnExactLeastCore", unfollowed := true, recurses := true, apart := false }
def FnExactLeastCoreSaid : Prop := fnExactLeastCoreRow.holds Try.pinned (OpenSpec.ofChange fnExactLeastCoreSpec)

/-- ITS FALSE NEIGHBOUR: 'it returns false'. Refute it at one input. -/
def fnExactLeastCoreWrong : ChangeSpec := { name := "fnExactLeastCore", fn := fun _ => fun
  | [d] => { results := [.lit (.bool false)], args := [d] }
  | _ => none }
def FnExactLeastCoreWrongFalsely : Prop := fnExactLeastCoreRow.holds Try.pinned (OpenSpec.ofChange fnExactLeastCoreWrong)

/-- 'laws.FnExactCoreOf': WHATEVER THE INPUT: true; the input reads as it did. -/
def fnExactCoreOfSpec : ChangeSpec := { name := "fnExactCoreOf", fn := fun _ => fun
  | [d] => { results := [.lit (.bool true)], args := [d] }
  | _ => none }
def fnExactCoreOfRow : OpenClaim := { program := "ytkmkdfogpdndoaa", sum := "af8a52687ae51b4ead77c4de08eced5d5e2f9a44622aa99ffa3d6e3f2c5041bf", func := "loop.example/g01080/laws.FnExactCoreOf", spec := "fnExactCoreOf", unfollowed := true, recurses := true, apart := false }
def FnExactCoreOfSaid : Prop := fnExactCoreOfRow.holds Try.pinned (OpenSpec.ofChange fnExactCoreOfSpec)

/-- ITS FALSE NEIGHBOUR: 'it returns false'. Refute it at one input. -/
def fnExactCoreOfWrong : ChangeSpec := { name := "fnExactCoreOf", fn := fun _ => fun
  | [d] => { results := [.lit (.bool false)], args := [d] }
  | _ => none }
def FnExactCoreOfWrongFalsely : Prop := fnExactCoreOfRow.holds Try.pinned (OpenSpec.ofChange fnExactCoreOfWrong)

/- THE SECOND FORM. 'bulk': how many values and letters a reading holds, each counted each time it is reached (what is shared counts as often as it is met; a slice's spare places count too). A statement '..UptoSaid' is the law's where the arguments, and the package variables that the reading takes, are together of bulk at most 1048576: NARROWER than '..Said'. Prove '..Said' where nothing that the law and all that it calls make is longer than what came in: it says more and counts as full. Else prove '..UptoSaid'. A law counts once. -/
mutual
def uptoBulk {H : Type} : DataW H → Nat
  | .lit (.string bytes) => bytes.length + 1
  | .lit _ => 1
  | .nil => 1
  | .ptr d => uptoBulk d + 1
  | .slice elems spare => uptoBulkAll elems + uptoBulkAll spare + 1
  | .agg parts => uptoBulkAll parts + 1
  | .iface _ d => uptoBulk d + 1
  | .map entries => uptoBulkEntries entries + 1
  | .held _ => 1
def uptoBulkAll {H : Type} : List (DataW H) → Nat
  | [] => 0
  | d :: r => uptoBulk d + uptoBulkAll r
def uptoBulkEntries {H : Type} : List (Lit × DataW H) → Nat
  | [] => 0
  | x :: r => uptoBulkEntry x + uptoBulkEntries r
def uptoBulkEntry {H : Type} : Lit × DataW H → Nat
  | (.string bytes, d) => bytes.length + uptoBulk d + 1
  | (_, d) => uptoBulk d + 1
 end
def uptoSmall : (H : Type) → List (DataW H) → Bool := fun _ ds => decide (uptoBulkAll ds ≤ 1048576)
def OpenSpec.upto (s : _root_.Go.ChangeSpec) : _root_.Go.OpenSpec := { _root_.Go.OpenSpec.ofChange s with cond := some uptoSmall }

/-- 'laws.FnExactFalseClauses', WHERE WHAT IT READS IS OF BULK AT MOST 1048576: true; the input reads as it did. -/
def fnExactFalseClausesUptoRow : OpenClaim := { program := "ytkmkdfogpdndoaa", sum := "af8a52687ae51b4ead77c4de08eced5d5e2f9a44622aa99ffa3d6e3f2c5041bf", func := "loop.example/g01080/laws.FnExactFalseClauses", spec := "fnExactFalseClauses", apart := false, narrowed := true }
def FnExactFalseClausesUptoSaid : Prop := fnExactFalseClausesUptoRow.holds Try.pinned (OpenSpec.upto fnExactFalseClausesSpec)

/-- 'laws.FnExactIsCore', WHERE WHAT IT READS IS OF BULK AT MOST 1048576: true; the input reads as it did. -/
def fnExactIsCoreUptoRow : OpenClaim := { program := "ytkmkdfogpdndoaa", sum := "af8a52687ae51b4ead77c4de08eced5d5e2f9a44622aa99ffa3d6e3f2c5041bf", func := "loop.example/g01080/laws.FnExactIsCore", spec := "fnExactIsCore", unfollowed := true, recurses := true, apart := false, narrowed := true }
def FnExactIsCoreUptoSaid : Prop := fnExactIsCoreUptoRow.holds Try.pinned (OpenSpec.upto fnExactIsCoreSpec)

/-- 'laws.FnExactApartCnfs', WHERE WHAT IT READS IS OF BULK AT MOST 1048576: true; the input reads as it did. -/
def fnExactApartCnfsUptoRow : OpenClaim := { program := "ytkmkdfogpdndoaa", sum := "af8a52687ae51b4ead77c4de08eced5d5e2f9a44622aa99ffa3d6e3f2c5041bf", func := "loop.example/g01080/laws.FnExactApartCnfs", spec := "fnExactApartCnfs", apart := false, narrowed := true }
def FnExactApartCnfsUptoSaid : Prop := fnExactApartCnfsUptoRow.holds Try.pinned (OpenSpec.upto fnExactApartCnfsSpec)

/-- 'laws.FnExactFullCnf', WHERE WHAT IT READS IS OF BULK AT MOST 1048576: true; the input reads as it did. -/
def fnExactFullCnfUptoRow : OpenClaim := { program := "ytkmkdfogpdndoaa", sum := "af8a52687ae51b4ead77c4de08eced5d5e2f9a44622aa99ffa3d6e3f2c5041bf", func := "loop.example/g01080/laws.FnExactFullCnf", spec := "fnExactFullCnf", apart := false, narrowed := true }
def FnExactFullCnfUptoSaid : Prop := fnExactFullCnfUptoRow.holds Try.pinned (OpenSpec.upto fnExactFullCnfSpec)

/-- 'laws.FnExactBothCnfs', WHERE WHAT IT READS IS OF BULK AT MOST 1048576: true; the input reads as it did. -/
def fnExactBothCnfsUptoRow : OpenClaim := { program := "ytkmkdfogpdndoaa", sum := "af8a52687ae51b4ead77c4de08eced5d5e2f9a44622aa99ffa3d6e3f2c5041bf", func := "loop.example/g01080/laws.FnExactBothCnfs", spec := "fnExactBothCnfs", apart := false, narrowed := true }
def FnExactBothCnfsUptoSaid : Prop := fnExactBothCnfsUptoRow.holds Try.pinned (OpenSpec.upto fnExactBothCnfsSpec)

/-- 'laws.FnExactIsMinimalCore', WHERE WHAT IT READS IS OF BULK AT MOST 1048576: true; the input reads as it did. -/
def fnExactIsMinimalCoreUptoRow : OpenClaim := { program := "ytkmkdfogpdndoaa", sum := "af8a52687ae51b4ead77c4de08eced5d5e2f9a44622aa99ffa3d6e3f2c5041bf", func := "loop.example/g01080/laws.FnExactIsMinimalCore", spec := "fnExactIsMinimalCore", unfollowed := true, recurses := true, apart := false, narrowed := true }
def FnExactIsMinimalCoreUptoSaid : Prop := fnExactIsMinimalCoreUptoRow.holds Try.pinned (OpenSpec.upto fnExactIsMinimalCoreSpec)

/-- 'laws.FnExactBackboneOf', WHERE WHAT IT READS IS OF BULK AT MOST 1048576: true; the input reads as it did. -/
def fnExactBackboneOfUptoRow : OpenClaim := { program := "ytkmkdfogpdndoaa", sum := "af8a52687ae51b4ead77c4de08eced5d5e2f9a44622aa99ffa3d6e3f2c5041bf", func := "loop.example/g01080/laws.FnExactBackboneOf", spec := "fnExactBackboneOf", unfollowed := true, recurses := true, apart := false, narrowed := true }
def FnExactBackboneOfUptoSaid : Prop := fnExactBackboneOfUptoRow.holds Try.pinned (OpenSpec.upto fnExactBackboneOfSpec)

/-- 'laws.FnExactXorCnf', WHERE WHAT IT READS IS OF BULK AT MOST 1048576: true; the input reads as it did. -/
def fnExactXorCnfUptoRow : OpenClaim := { program := "ytkmkdfogpdndoaa", sum := "af8a52687ae51b4ead77c4de08eced5d5e2f9a44622aa99ffa3d6e3f2c5041bf", func := "loop.example/g01080/laws.FnExactXorCnf", spec := "fnExactXorCnf", unfollowed := true, recurses := true, apart := false, narrowed := true }
def FnExactXorCnfUptoSaid : Prop := fnExactXorCnfUptoRow.holds Try.pinned (OpenSpec.upto fnExactXorCnfSpec)

/-- 'laws.FnExactDropWeaker', WHERE WHAT IT READS IS OF BULK AT MOST 1048576: true; the input reads as it did. -/
def fnExactDropWeakerUptoRow : OpenClaim := { program := "ytkmkdfogpdndoaa", sum := "af8a52687ae51b4ead77c4de08eced5d5e2f9a44622aa99ffa3d6e3f2c5041bf", func := "loop.example/g01080/laws.FnExactDropWeaker", spec := "fnExactDropWeaker", unfollowed := true, recurses := true, apart := false, narrowed := true }
def FnExactDropWeakerUptoSaid : Prop := fnExactDropWeakerUptoRow.holds Try.pinned (OpenSpec.upto fnExactDropWeakerSpec)

/-- 'laws.FnExactImpliedClauses', WHERE WHAT IT READS IS OF BULK AT MOST 1048576: true; the input reads as it did. -/
def fnExactImpliedClausesUptoRow : OpenClaim := { program := "ytkmkdfogpdndoaa", sum := "af8a52687ae51b4ead77c4de08eced5d5e2f9a44622aa99ffa3d6e3f2c5041bf", func := "loop.example/g01080/laws.FnExactImpliedClauses", spec := "fnExactImpliedClauses", unfollowed := true, recurses := true, apart := false, narrowed := true }
def FnExactImpliedClausesUptoSaid : Prop := fnExactImpliedClausesUptoRow.holds Try.pinned (OpenSpec.upto fnExactImpliedClausesSpec)

/-- 'laws.FnExactLeastCore', WHERE WHAT IT READS IS OF BULK AT MOST 1048576: true; the input reads as it did. -/
def fnExactLeastCoreUptoRow : OpenClaim := { program := "ytkmkdfogpdndoaa", sum := "af8a52687ae51b4ead77c4de08eced5d5e2f9a44622aa99ffa3d6e3f2c5041bf", func := "loop.example/g01080/laws.FnExactLeastCore", spec := "fnExactLeastCore", unfollowed := true, recurses := true, apart := false, narrowed := true }
def FnExactLeastCoreUptoSaid : Prop := fnExactLeastCoreUptoRow.holds Try.pinned (OpenSpec.upto fnExactLeastCoreSpec)

/-- 'laws.FnExactCoreOf', WHERE WHAT IT READS IS OF BULK AT MOST 1048576: true; the input reads as it did. -/
def fnExactCoreOfUptoRow : OpenClaim := { program := "ytkmkdfogpdndoaa", sum := "af8a52687ae51b4ead77c4de08eced5d5e2f9a44622aa99ffa3d6e3f2c5041bf", func := "loop.example/g01080/laws.FnExactCoreOf", spec := "fnExactCoreOf", unfollowed := true, recurses := true, apart := false, narrowed := true }
def FnExactCoreOfUptoSaid : Prop := fnExactCoreOfUptoRow.holds Try.pinned (OpenSpec.upto fnExactCoreOfSpec)

end Rows
end Go.Proofs.Ytkmkdfogpdndoaa
