/-
  No cell of these rows narrows 'for every input' (looked for: loops, veiled, ifaces, maps, wideKeys, modest, calm, conditions, laid).
  DERIVED. THE GIVEN ROWS OF THIS SEAT. 12 by the template 'for every input the law returns true; each argument reads behind the call as it read before'; 0 by the template 'total and deterministic' (their statements: YtojppgkhnebipaaTotals.lean).
  GIVEN WITH THE SEED: the statements are not yours to turn. If you find one false, say at which input.
  Laid BY PROGRAM, IN A SANDBOX (cutbox-rows.mjs): the forced cells as the released guide's own fill.sh prints them over the translation ee68e4ad15e5476b… (all of the seat's roots in one cut). By AI agents, Wed Nov 11 2026. No macro, syntax, notation, axiom, sorry.
-/
import Derived.Test.YtojppgkhnebipaaChecked
import GoSem.Claim
import GoSem.ClaimJoined
import GoSem.ClaimMapViews
import Derived.JoinedTies
import Derived.KernelRfl
namespace Go.Proofs.Ytojppgkhnebipaa
/- THE CELL 'sum', in the pinned program and in every row, IS THE sha256 OF THE DUMP (.gsa) THAT YtojppgkhnebipaaProg.lean LOADS. Nothing in Lean hashes anything: it is a label: what it is worth is what the hold of that sum in a sandbox is worth. -/
noncomputable def Try.pinned : Pinned := { name := "ytojppgkhnebipaa", sum := "ee68e4ad15e5476ba502eda7d803d8d730d9df13177165af92685a1b3725899e", checked := Try.checked }
namespace Rows
def none {H : Type} : Left H := { results := [], args := [] }

/-- 'laws.FnExactConstants': WHATEVER THE INPUT: true; the input reads as it did. -/
def fnExactConstantsSpec : ChangeSpec := { name := "fnExactConstants", fn := fun _ => fun
  | [] => { results := [.lit (.bool true)], args := [] }
  | _ => none }
def fnExactConstantsRow : OpenClaim := { program := "ytojppgkhnebipaa", sum := "ee68e4ad15e5476ba502eda7d803d8d730d9df13177165af92685a1b3725899e", func := "loop.example/g01080/laws.FnExactConstants", spec := "fnExactConstants", apart := false }
def FnExactConstantsSaid : Prop := fnExactConstantsRow.holds Try.pinned (OpenSpec.ofChange fnExactConstantsSpec)

/-- ITS FALSE NEIGHBOUR: 'it returns false'. Refute it at one input. -/
def fnExactConstantsWrong : ChangeSpec := { name := "fnExactConstants", fn := fun _ => fun
  | [] => { results := [.lit (.bool false)], args := [] }
  | _ => none }
def FnExactConstantsWrongFalsely : Prop := fnExactConstantsRow.holds Try.pinned (OpenSpec.ofChange fnExactConstantsWrong)

/-- 'laws.FnExactLessString': WHATEVER THE INPUT: true; the input reads as it did. -/
def fnExactLessStringSpec : ChangeSpec := { name := "fnExactLessString", fn := fun _ => fun
  | [d1, d2] => { results := [.lit (.bool true)], args := [d1, d2] }
  | _ => none }
def fnExactLessStringRow : OpenClaim := { program := "ytojppgkhnebipaa", sum := "ee68e4ad15e5476ba502eda7d803d8d730d9df13177165af92685a1b3725899e", func := "loop.example/g01080/laws.FnExactLessString", spec := "fnExactLessString", apart := false }
def FnExactLessStringSaid : Prop := fnExactLessStringRow.holds Try.pinned (OpenSpec.ofChange fnExactLessStringSpec)

/-- ITS FALSE NEIGHBOUR: 'it returns false'. Refute it at one input. -/
def fnExactLessStringWrong : ChangeSpec := { name := "fnExactLessString", fn := fun _ => fun
  | [d1, d2] => { results := [.lit (.bool false)], args := [d1, d2] }
  | _ => none }
def FnExactLessStringWrongFalsely : Prop := fnExactLessStringRow.holds Try.pinned (OpenSpec.ofChange fnExactLessStringWrong)

/-- 'laws.FnExactChecksum': WHATEVER THE INPUT: true; the input reads as it did. -/
def fnExactChecksumSpec : ChangeSpec := { name := "fnExactChecksum", fn := fun _ => fun
  | [d] => { results := [.lit (.bool true)], args := [d] }
  | _ => none }
def fnExactChecksumRow : OpenClaim := { program := "ytojppgkhnebipaa", sum := "ee68e4ad15e5476ba502eda7d803d8d730d9df13177165af92685a1b3725899e", func := "loop.example/g01080/laws.FnExactChecksum", spec := "fnExactChecksum", apart := false }
def FnExactChecksumSaid : Prop := fnExactChecksumRow.holds Try.pinned (OpenSpec.ofChange fnExactChecksumSpec)

/-- ITS FALSE NEIGHBOUR: 'it returns false'. Refute it at one input. -/
def fnExactChecksumWrong : ChangeSpec := { name := "fnExactChecksum", fn := fun _ => fun
  | [d] => { results := [.lit (.bool false)], args := [d] }
  | _ => none }
def FnExactChecksumWrongFalsely : Prop := fnExactChecksumRow.holds Try.pinned (OpenSpec.ofChange fnExactChecksumWrong)

/-- 'laws.FnExactIsClause': WHATEVER THE INPUT: true; the input reads as it did. -/
def fnExactIsClauseSpec : ChangeSpec := { name := "fnExactIsClause", fn := fun _ => fun
  | [d1, d2] => { results := [.lit (.bool true)], args := [d1, d2] }
  | _ => none }
def fnExactIsClauseRow : OpenClaim := { program := "ytojppgkhnebipaa", sum := "ee68e4ad15e5476ba502eda7d803d8d730d9df13177165af92685a1b3725899e", func := "loop.example/g01080/laws.FnExactIsClause", spec := "fnExactIsClause", apart := false }
def FnExactIsClauseSaid : Prop := fnExactIsClauseRow.holds Try.pinned (OpenSpec.ofChange fnExactIsClauseSpec)

/-- ITS FALSE NEIGHBOUR: 'it returns false'. Refute it at one input. -/
def fnExactIsClauseWrong : ChangeSpec := { name := "fnExactIsClause", fn := fun _ => fun
  | [d1, d2] => { results := [.lit (.bool false)], args := [d1, d2] }
  | _ => none }
def FnExactIsClauseWrongFalsely : Prop := fnExactIsClauseRow.holds Try.pinned (OpenSpec.ofChange fnExactIsClauseWrong)

/-- 'laws.FnExactIsAssignment': WHATEVER THE INPUT: true; the input reads as it did. -/
def fnExactIsAssignmentSpec : ChangeSpec := { name := "fnExactIsAssignment", fn := fun _ => fun
  | [d1, d2] => { results := [.lit (.bool true)], args := [d1, d2] }
  | _ => none }
def fnExactIsAssignmentRow : OpenClaim := { program := "ytojppgkhnebipaa", sum := "ee68e4ad15e5476ba502eda7d803d8d730d9df13177165af92685a1b3725899e", func := "loop.example/g01080/laws.FnExactIsAssignment", spec := "fnExactIsAssignment", apart := false }
def FnExactIsAssignmentSaid : Prop := fnExactIsAssignmentRow.holds Try.pinned (OpenSpec.ofChange fnExactIsAssignmentSpec)

/-- ITS FALSE NEIGHBOUR: 'it returns false'. Refute it at one input. -/
def fnExactIsAssignmentWrong : ChangeSpec := { name := "fnExactIsAssignment", fn := fun _ => fun
  | [d1, d2] => { results := [.lit (.bool false)], args := [d1, d2] }
  | _ => none }
def FnExactIsAssignmentWrongFalsely : Prop := fnExactIsAssignmentRow.holds Try.pinned (OpenSpec.ofChange fnExactIsAssignmentWrong)

/-- 'laws.FnExactTotalOf': WHATEVER THE INPUT: true; the input reads as it did. -/
def fnExactTotalOfSpec : ChangeSpec := { name := "fnExactTotalOf", fn := fun _ => fun
  | [d1, d2] => { results := [.lit (.bool true)], args := [d1, d2] }
  | _ => none }
def fnExactTotalOfRow : OpenClaim := { program := "ytojppgkhnebipaa", sum := "ee68e4ad15e5476ba502eda7d803d8d730d9df13177165af92685a1b3725899e", func := "loop.example/g01080/laws.FnExactTotalOf", spec := "fnExactTotalOf", apart := false }
def FnExactTotalOfSaid : Prop := fnExactTotalOfRow.holds Try.pinned (OpenSpec.ofChange fnExactTotalOfSpec)

/-- ITS FALSE NEIGHBOUR: 'it returns false'. Refute it at one input. -/
def fnExactTotalOfWrong : ChangeSpec := { name := "fnExactTotalOf", fn := fun _ => fun
  | [d1, d2] => { results := [.lit (.bool false)], args := [d1, d2] }
  | _ => none }
def FnExactTotalOfWrongFalsely : Prop := fnExactTotalOfRow.holds Try.pinned (OpenSpec.ofChange fnExactTotalOfWrong)

/-- 'laws.FnExactBitsOfTotal': WHATEVER THE INPUT: true; the input reads as it did. -/
def fnExactBitsOfTotalSpec : ChangeSpec := { name := "fnExactBitsOfTotal", fn := fun _ => fun
  | [d1, d2] => { results := [.lit (.bool true)], args := [d1, d2] }
  | _ => none }
def fnExactBitsOfTotalRow : OpenClaim := { program := "ytojppgkhnebipaa", sum := "ee68e4ad15e5476ba502eda7d803d8d730d9df13177165af92685a1b3725899e", func := "loop.example/g01080/laws.FnExactBitsOfTotal", spec := "fnExactBitsOfTotal", apart := false }
def FnExactBitsOfTotalSaid : Prop := fnExactBitsOfTotalRow.holds Try.pinned (OpenSpec.ofChange fnExactBitsOfTotalSpec)

/-- ITS FALSE NEIGHBOUR: 'it returns false'. Refute it at one input. -/
def fnExactBitsOfTotalWrong : ChangeSpec := { name := "fnExactBitsOfTotal", fn := fun _ => fun
  | [d1, d2] => { results := [.lit (.bool false)], args := [d1, d2] }
  | _ => none }
def FnExactBitsOfTotalWrongFalsely : Prop := fnExactBitsOfTotalRow.holds Try.pinned (OpenSpec.ofChange fnExactBitsOfTotalWrong)

/-- 'laws.FnExactIsPart': WHATEVER THE INPUT: true; the input reads as it did. -/
def fnExactIsPartSpec : ChangeSpec := { name := "fnExactIsPart", fn := fun _ => fun
  | [d1, d2, d3] => { results := [.lit (.bool true)], args := [d1, d2, d3] }
  | _ => none }
def fnExactIsPartRow : OpenClaim := { program := "ytojppgkhnebipaa", sum := "ee68e4ad15e5476ba502eda7d803d8d730d9df13177165af92685a1b3725899e", func := "loop.example/g01080/laws.FnExactIsPart", spec := "fnExactIsPart", unfollowed := true, recurses := true, apart := false }
def FnExactIsPartSaid : Prop := fnExactIsPartRow.holds Try.pinned (OpenSpec.ofChange fnExactIsPartSpec)

/-- ITS FALSE NEIGHBOUR: 'it returns false'. Refute it at one input. -/
def fnExactIsPartWrong : ChangeSpec := { name := "fnExactIsPart", fn := fun _ => fun
  | [d1, d2, d3] => { results := [.lit (.bool false)], args := [d1, d2, d3] }
  | _ => none }
def FnExactIsPartWrongFalsely : Prop := fnExactIsPartRow.holds Try.pinned (OpenSpec.ofChange fnExactIsPartWrong)

/-- 'laws.FnExactDoesExtend': WHATEVER THE INPUT: true; the input reads as it did. -/
def fnExactDoesExtendSpec : ChangeSpec := { name := "fnExactDoesExtend", fn := fun _ => fun
  | [d1, d2, d3] => { results := [.lit (.bool true)], args := [d1, d2, d3] }
  | _ => none }
def fnExactDoesExtendRow : OpenClaim := { program := "ytojppgkhnebipaa", sum := "ee68e4ad15e5476ba502eda7d803d8d730d9df13177165af92685a1b3725899e", func := "loop.example/g01080/laws.FnExactDoesExtend", spec := "fnExactDoesExtend", unfollowed := true, recurses := true, apart := false }
def FnExactDoesExtendSaid : Prop := fnExactDoesExtendRow.holds Try.pinned (OpenSpec.ofChange fnExactDoesExtendSpec)

/-- ITS FALSE NEIGHBOUR: 'it returns false'. Refute it at one input. -/
def fnExactDoesExtendWrong : ChangeSpec := { name := "fnExactDoesExtend", fn := fun _ => fun
  | [d1, d2, d3] => { results := [.lit (.bool false)], args := [d1, d2, d3] }
  | _ => none }
def FnExactDoesExtendWrongFalsely : Prop := fnExactDoesExtendRow.holds Try.pinned (OpenSpec.ofChange fnExactDoesExtendWrong)

/-- 'laws.FnExactValueOfClause': WHATEVER THE INPUT: true; the input reads as it did. -/
def fnExactValueOfClauseSpec : ChangeSpec := { name := "fnExactValueOfClause", fn := fun _ => fun
  | [d1, d2, d3] => { results := [.lit (.bool true)], args := [d1, d2, d3] }
  | _ => none }
def fnExactValueOfClauseRow : OpenClaim := { program := "ytojppgkhnebipaa", sum := "ee68e4ad15e5476ba502eda7d803d8d730d9df13177165af92685a1b3725899e", func := "loop.example/g01080/laws.FnExactValueOfClause", spec := "fnExactValueOfClause", apart := false }
def FnExactValueOfClauseSaid : Prop := fnExactValueOfClauseRow.holds Try.pinned (OpenSpec.ofChange fnExactValueOfClauseSpec)

/-- ITS FALSE NEIGHBOUR: 'it returns false'. Refute it at one input. -/
def fnExactValueOfClauseWrong : ChangeSpec := { name := "fnExactValueOfClause", fn := fun _ => fun
  | [d1, d2, d3] => { results := [.lit (.bool false)], args := [d1, d2, d3] }
  | _ => none }
def FnExactValueOfClauseWrongFalsely : Prop := fnExactValueOfClauseRow.holds Try.pinned (OpenSpec.ofChange fnExactValueOfClauseWrong)

/-- 'laws.FnExactRemoveVar': WHATEVER THE INPUT: true; the input reads as it did. -/
def fnExactRemoveVarSpec : ChangeSpec := { name := "fnExactRemoveVar", fn := fun _ => fun
  | [d1, d2, d3] => { results := [.lit (.bool true)], args := [d1, d2, d3] }
  | _ => none }
def fnExactRemoveVarRow : OpenClaim := { program := "ytojppgkhnebipaa", sum := "ee68e4ad15e5476ba502eda7d803d8d730d9df13177165af92685a1b3725899e", func := "loop.example/g01080/laws.FnExactRemoveVar", spec := "fnExactRemoveVar", unfollowed := true, recurses := true, apart := false }
def FnExactRemoveVarSaid : Prop := fnExactRemoveVarRow.holds Try.pinned (OpenSpec.ofChange fnExactRemoveVarSpec)

/-- ITS FALSE NEIGHBOUR: 'it returns false'. Refute it at one input. -/
def fnExactRemoveVarWrong : ChangeSpec := { name := "fnExactRemoveVar", fn := fun _ => fun
  | [d1, d2, d3] => { results := [.lit (.bool false)], args := [d1, d2, d3] }
  | _ => none }
def FnExactRemoveVarWrongFalsely : Prop := fnExactRemoveVarRow.holds Try.pinned (OpenSpec.ofChange fnExactRemoveVarWrong)

/-- 'laws.FnExactUnsetVar': WHATEVER THE INPUT: true; the input reads as it did. -/
def fnExactUnsetVarSpec : ChangeSpec := { name := "fnExactUnsetVar", fn := fun _ => fun
  | [d1, d2, d3] => { results := [.lit (.bool true)], args := [d1, d2, d3] }
  | _ => none }
def fnExactUnsetVarRow : OpenClaim := { program := "ytojppgkhnebipaa", sum := "ee68e4ad15e5476ba502eda7d803d8d730d9df13177165af92685a1b3725899e", func := "loop.example/g01080/laws.FnExactUnsetVar", spec := "fnExactUnsetVar", unfollowed := true, recurses := true, apart := false }
def FnExactUnsetVarSaid : Prop := fnExactUnsetVarRow.holds Try.pinned (OpenSpec.ofChange fnExactUnsetVarSpec)

/-- ITS FALSE NEIGHBOUR: 'it returns false'. Refute it at one input. -/
def fnExactUnsetVarWrong : ChangeSpec := { name := "fnExactUnsetVar", fn := fun _ => fun
  | [d1, d2, d3] => { results := [.lit (.bool false)], args := [d1, d2, d3] }
  | _ => none }
def FnExactUnsetVarWrongFalsely : Prop := fnExactUnsetVarRow.holds Try.pinned (OpenSpec.ofChange fnExactUnsetVarWrong)

/- THE SECOND FORM. 'bulk': how many values and letters a reading holds, each counted each time it is reached (what is shared counts as often as it is met; a slice's spare places count too). A statement '..UptoSaid' is the law's where the arguments, and the package variables that the reading takes, are together of bulk at most 1048576: NARROWER than '..Said'. Prove '..Said' where nothing that the law and all that it calls make is longer than what came in: it says more and counts as full. Else prove '..UptoSaid'. A law counts once. -/
mutual
def uptoBulk {H : Type} : DataW H → Nat
  | .lit (.string bytes) => bytes.length + 1
  | .lit _ => 1
  | .nil => 1
  | .ptr d => uptoBulk d + 1
  | .slice elems spare => uptoBulkAll elems + uptoBulkAll spare + 1
  | .agg parts => uptoBulkAll parts + 1
  | .iface _ d => uptoBulk d + 1
  | .map entries => uptoBulkEntries entries + 1
  | .held _ => 1
def uptoBulkAll {H : Type} : List (DataW H) → Nat
  | [] => 0
  | d :: r => uptoBulk d + uptoBulkAll r
def uptoBulkEntries {H : Type} : List (Lit × DataW H) → Nat
  | [] => 0
  | x :: r => uptoBulkEntry x + uptoBulkEntries r
def uptoBulkEntry {H : Type} : Lit × DataW H → Nat
  | (.string bytes, d) => bytes.length + uptoBulk d + 1
  | (_, d) => uptoBulk d + 1
 end
def uptoSmall : (H : Type) → List (DataW H) → Bool := fun _ ds => decide (uptoBulkAll ds ≤ 1048576)
def OpenSpec.upto (s : _root_.Go.ChangeSpec) : _root_.Go.OpenSpec := { _root_.Go.OpenSpec.ofChange s with cond := some uptoSmall }

/-- 'laws.FnExactConstants', WHERE WHAT IT READS IS OF BULK AT MOST 1048576: true; the input reads as it did. -/
def fnExactConstantsUptoRow : OpenClaim := { program := "ytojppgkhnebipaa", sum := "ee68e4ad15e5476ba502eda7d803d8d730d9df13177165af92685a1b3725899e", func := "loop.example/g01080/laws.FnExactConstants", spec := "fnExactConstants", apart := false, narrowed := true }
def FnExactConstantsUptoSaid : Prop := fnExactConstantsUptoRow.holds Try.pinned (OpenSpec.upto fnExactConstantsSpec)

/-- 'laws.FnExactLessString', WHERE WHAT IT READS IS OF BULK AT MOST 1048576: true; the input reads as it did. -/
def fnExactLessStringUptoRow : OpenClaim := { program := "ytojppgkhnebipaa", sum := "ee68e4ad15e5476ba502eda7d803d8d730d9df13177165af92685a1b3725899e", func := "loop.example/g01080/laws.FnExactLessString", spec := "fnExactLessString", apart := false, narrowed := true }
def FnExactLessStringUptoSaid : Prop := fnExactLessStringUptoRow.holds Try.pinned (OpenSpec.upto fnExactLessStringSpec)

/-- 'laws.FnExactChecksum', WHERE WHAT IT READS IS OF BULK AT MOST 1048576: true; the input reads as it did. -/
def fnExactChecksumUptoRow : OpenClaim := { program := "ytojppgkhnebipaa", sum := "ee68e4ad15e5476ba502eda7d803d8d730d9df13177165af92685a1b3725899e", func := "loop.example/g01080/laws.FnExactChecksum", spec := "fnExactChecksum", apart := false, narrowed := true }
def FnExactChecksumUptoSaid : Prop := fnExactChecksumUptoRow.holds Try.pinned (OpenSpec.upto fnExactChecksumSpec)

/-- 'laws.FnExactIsClause', WHERE WHAT IT READS IS OF BULK AT MOST 1048576: true; the input reads as it did. -/
def fnExactIsClauseUptoRow : OpenClaim := { program := "ytojppgkhnebipaa", sum := "ee68e4ad15e5476ba502eda7d803d8d730d9df13177165af92685a1b3725899e", func := "loop.example/g01080/laws.FnExactIsClause", spec := "fnExactIsClause", apart := false, narrowed := true }
def FnExactIsClauseUptoSaid : Prop := fnExactIsClauseUptoRow.holds Try.pinned (OpenSpec.upto fnExactIsClauseSpec)

/-- 'laws.FnExactIsAssignment', WHERE WHAT IT READS IS OF BULK AT MOST 1048576: true; the input reads as it did. -/
def fnExactIsAssignmentUptoRow : OpenClaim := { program := "ytojppgkhnebipaa", sum := "ee68e4ad15e5476ba502eda7d803d8d730d9df13177165af92685a1b3725899e", func := "loop.example/g01080/laws.FnExactIsAssignment", spec := "fnExactIsAssignment", apart := false, narrowed := true }
def FnExactIsAssignmentUptoSaid : Prop := fnExactIsAssignmentUptoRow.holds Try.pinned (OpenSpec.upto fnExactIsAssignmentSpec)

/-- 'laws.FnExactTotalOf', WHERE WHAT IT READS IS OF BULK AT MOST 1048576: true; the input reads as it did. -/
def fnExactTotalOfUptoRow : OpenClaim := { program := "ytojppgkhnebipaa", sum := "ee68e4ad15e5476ba502eda7d803d8d730d9df13177165af92685a1b3725899e", func := "loop.example/g01080/laws.FnExactTotalOf", spec := "fnExactTotalOf", apart := false, narrowed := true }
def FnExactTotalOfUptoSaid : Prop := fnExactTotalOfUptoRow.holds Try.pinned (OpenSpec.upto fnExactTotalOfSpec)

/-- 'laws.FnExactBitsOfTotal', WHERE WHAT IT READS IS OF BULK AT MOST 1048576: true; the input reads as it did. -/
def fnExactBitsOfTotalUptoRow : OpenClaim := { program := "ytojppgkhnebipaa", sum := "ee68e4ad15e5476ba502eda7d803d8d730d9df13177165af92685a1b3725899e", func := "loop.example/g01080/laws.FnExactBitsOfTotal", spec := "fnExactBitsOfTotal", apart := false, narrowed := true }
def FnExactBitsOfTotalUptoSaid : Prop := fnExactBitsOfTotalUptoRow.holds Try.pinned (OpenSpec.upto fnExactBitsOfTotalSpec)

/-- 'laws.FnExactIsPart', WHERE WHAT IT READS IS OF BULK AT MOST 1048576: true; the input reads as it did. -/
def fnExactIsPartUptoRow : OpenClaim := { program := "ytojppgkhnebipaa", sum := "ee68e4ad15e5476ba502eda7d803d8d730d9df13177165af92685a1b3725899e", func := "loop.example/g01080/laws.FnExactIsPart", spec := "fnExactIsPart", unfollowed := true, recurses := true, apart := false, narrowed := true }
def FnExactIsPartUptoSaid : Prop := fnExactIsPartUptoRow.holds Try.pinned (OpenSpec.upto fnExactIsPartSpec)

/-- 'laws.FnExactDoesExtend', WHERE WHAT IT READS IS OF BULK AT MOST 1048576: true; the input reads as it did. -/
def fnExactDoesExtendUptoRow : OpenClaim := { program := "ytojppgkhnebipaa", sum := "ee68e4ad15e5476ba502eda7d803d8d730d9df13177165af92685a1b3725899e", func := "loop.example/g01080/laws.FnExactDoesExtend", spec := "fnExactDoesExtend", unfollowed := true, recurses := true, apart := false, narrowed := true }
def FnExactDoesExtendUptoSaid : Prop := fnExactDoesExtendUptoRow.holds Try.pinned (OpenSpec.upto fnExactDoesExtendSpec)

/-- 'laws.FnExactValueOfClause', WHERE WHAT IT READS IS OF BULK AT MOST 1048576: true; the input reads as it did. -/
def fnExactValueOfClauseUptoRow : OpenClaim := { program := "ytojppgkhnebipaa", sum := "ee68e4ad15e5476ba502eda7d803d8d730d9df13177165af92685a1b3725899e", func := "loop.example/g01080/laws.FnExactValueOfClause", spec := "fnExactValueOfClause", apart := false, narrowed := true }
def FnExactValueOfClauseUptoSaid : Prop := fnExactValueOfClauseUptoRow.holds Try.pinned (OpenSpec.upto fnExactValueOfClauseSpec)

/-- 'laws.FnExactRemoveVar', WHERE WHAT IT READS IS OF BULK AT MOST 1048576: true; the input reads as it did. -/
def fnExactRemoveVarUptoRow : OpenClaim := { program := "ytojppgkhnebipaa", sum := "ee68e4ad15e5476ba502eda7d803d8d730d9df13177165af92685a1b3725899e", func := "loop.example/g01080/laws.FnExactRemoveVar", spec := "fnExactRemoveVar", unfollowed := true, recurses := true, apart := false, narrowed := true }
def FnExactRemoveVarUptoSaid : Prop := fnExactRemoveVarUptoRow.holds Try.pinned (OpenSpec.upto fnExactRemoveVarSpec)

/-- 'laws.FnExactUnsetVar', WHERE WHAT IT READS IS OF BULK AT MOST 1048576: true; the input reads as it did. -/
def fnExactUnsetVarUptoRow : OpenClaim := { program := "ytojppgkhnebipaa", sum := "ee68e4ad15e5476ba502eda7d803d8d730d9df13177165af92685a1b3725899e", func := "loop.example/g01080/laws.FnExactUnsetVar", spec := "fnExactUnsetVar", unfollowed := true, recurses := true, apart := false, narrowed := true }
def FnExactUnsetVarUptoSaid : Prop := fnExactUnsetVarUptoRow.holds Try.pinned (OpenSpec.upto fnExactUnsetVarSpec)

end Rows
end Go.Proofs.Ytojppgkhnebipaa
