/-
  No cell of these rows narrows 'for every input' (looked for: loops, veiled, ifaces, maps, wideKeys, modest, calm, conditions, laid).
  DERIVED. THE GIVEN ROWS OF THIS SEAT. 6 by the template 'for every input the law returns true; each argument reads behind the call as it read before'; 0 by the template 'total and deterministic' (their statements: YtlipmbcjpmbjnaaTotals.lean).
  GIVEN WITH THE SEED: the statements are not yours to turn. If you find one false, say at which input.
  Laid BY PROGRAM, IN A SANDBOX (cutbox-rows.mjs): the forced cells as the released guide's own fill.sh prints them over the translation da90900dc82877cc… (all of the seat's roots in one cut). By AI agents, Wed Nov 11 2026. No macro, syntax, notation, axiom, sorry.
-/
import Derived.Test.YtlipmbcjpmbjnaaChecked
import GoSem.Claim
import GoSem.ClaimJoined
import GoSem.ClaimMapViews
import Derived.JoinedTies
import Derived.KernelRfl
namespace Go.Proofs.Ytlipmbcjpmbjnaa
/- THE CELL 'sum', in the pinned program and in every row, IS THE sha256 OF THE DUMP (.gsa) THAT YtlipmbcjpmbjnaaProg.lean LOADS. Nothing in Lean hashes anything: it is a label: what it is worth is what the hold of that sum in a sandbox is worth. -/
noncomputable def Try.pinned : Pinned := { name := "ytlipmbcjpmbjnaa", sum := "da90900dc82877cc5f9e1f28d942f2172b8e1724cc2ed7ccf5f9614cd7d54ab2", checked := Try.checked }
namespace Rows
def none {H : Type} : Left H := { results := [], args := [] }

/-- 'laws.FnExactVarsUsed': WHATEVER THE INPUT: true; the input reads as it did. -/
def fnExactVarsUsedSpec : ChangeSpec := { name := "fnExactVarsUsed", fn := fun _ => fun
  | [d] => { results := [.lit (.bool true)], args := [d] }
  | _ => none }
def fnExactVarsUsedRow : OpenClaim := { program := "ytlipmbcjpmbjnaa", sum := "da90900dc82877cc5f9e1f28d942f2172b8e1724cc2ed7ccf5f9614cd7d54ab2", func := "loop.example/g01080/laws.FnExactVarsUsed", spec := "fnExactVarsUsed", recurses := true, apart := false }
def FnExactVarsUsedSaid : Prop := fnExactVarsUsedRow.holds Try.pinned (OpenSpec.ofChange fnExactVarsUsedSpec)

/-- ITS FALSE NEIGHBOUR: 'it returns false'. Refute it at one input. -/
def fnExactVarsUsedWrong : ChangeSpec := { name := "fnExactVarsUsed", fn := fun _ => fun
  | [d] => { results := [.lit (.bool false)], args := [d] }
  | _ => none }
def FnExactVarsUsedWrongFalsely : Prop := fnExactVarsUsedRow.holds Try.pinned (OpenSpec.ofChange fnExactVarsUsedWrong)

/-- 'laws.FnExactPureLiterals': WHATEVER THE INPUT: true; the input reads as it did. -/
def fnExactPureLiteralsSpec : ChangeSpec := { name := "fnExactPureLiterals", fn := fun _ => fun
  | [d] => { results := [.lit (.bool true)], args := [d] }
  | _ => none }
def fnExactPureLiteralsRow : OpenClaim := { program := "ytlipmbcjpmbjnaa", sum := "da90900dc82877cc5f9e1f28d942f2172b8e1724cc2ed7ccf5f9614cd7d54ab2", func := "loop.example/g01080/laws.FnExactPureLiterals", spec := "fnExactPureLiterals", unfollowed := true, recurses := true, apart := false }
def FnExactPureLiteralsSaid : Prop := fnExactPureLiteralsRow.holds Try.pinned (OpenSpec.ofChange fnExactPureLiteralsSpec)

/-- ITS FALSE NEIGHBOUR: 'it returns false'. Refute it at one input. -/
def fnExactPureLiteralsWrong : ChangeSpec := { name := "fnExactPureLiterals", fn := fun _ => fun
  | [d] => { results := [.lit (.bool false)], args := [d] }
  | _ => none }
def FnExactPureLiteralsWrongFalsely : Prop := fnExactPureLiteralsRow.holds Try.pinned (OpenSpec.ofChange fnExactPureLiteralsWrong)

/-- 'laws.FnExactIndependentParts': WHATEVER THE INPUT: true; the input reads as it did. -/
def fnExactIndependentPartsSpec : ChangeSpec := { name := "fnExactIndependentParts", fn := fun _ => fun
  | [d] => { results := [.lit (.bool true)], args := [d] }
  | _ => none }
def fnExactIndependentPartsRow : OpenClaim := { program := "ytlipmbcjpmbjnaa", sum := "da90900dc82877cc5f9e1f28d942f2172b8e1724cc2ed7ccf5f9614cd7d54ab2", func := "loop.example/g01080/laws.FnExactIndependentParts", spec := "fnExactIndependentParts", unfollowed := true, recurses := true, apart := false }
def FnExactIndependentPartsSaid : Prop := fnExactIndependentPartsRow.holds Try.pinned (OpenSpec.ofChange fnExactIndependentPartsSpec)

/-- ITS FALSE NEIGHBOUR: 'it returns false'. Refute it at one input. -/
def fnExactIndependentPartsWrong : ChangeSpec := { name := "fnExactIndependentParts", fn := fun _ => fun
  | [d] => { results := [.lit (.bool false)], args := [d] }
  | _ => none }
def FnExactIndependentPartsWrongFalsely : Prop := fnExactIndependentPartsRow.holds Try.pinned (OpenSpec.ofChange fnExactIndependentPartsWrong)

/-- 'laws.FnExactSortClauses': WHATEVER THE INPUT: true; the input reads as it did. -/
def fnExactSortClausesSpec : ChangeSpec := { name := "fnExactSortClauses", fn := fun _ => fun
  | [d] => { results := [.lit (.bool true)], args := [d] }
  | _ => none }
def fnExactSortClausesRow : OpenClaim := { program := "ytlipmbcjpmbjnaa", sum := "da90900dc82877cc5f9e1f28d942f2172b8e1724cc2ed7ccf5f9614cd7d54ab2", func := "loop.example/g01080/laws.FnExactSortClauses", spec := "fnExactSortClauses", unfollowed := true, recurses := true, apart := false }
def FnExactSortClausesSaid : Prop := fnExactSortClausesRow.holds Try.pinned (OpenSpec.ofChange fnExactSortClausesSpec)

/-- ITS FALSE NEIGHBOUR: 'it returns false'. Refute it at one input. -/
def fnExactSortClausesWrong : ChangeSpec := { name := "fnExactSortClauses", fn := fun _ => fun
  | [d] => { results := [.lit (.bool false)], args := [d] }
  | _ => none }
def FnExactSortClausesWrongFalsely : Prop := fnExactSortClausesRow.holds Try.pinned (OpenSpec.ofChange fnExactSortClausesWrong)

/-- 'laws.FnExactUnitLiterals': WHATEVER THE INPUT: true; the input reads as it did. -/
def fnExactUnitLiteralsSpec : ChangeSpec := { name := "fnExactUnitLiterals", fn := fun _ => fun
  | [d1, d2] => { results := [.lit (.bool true)], args := [d1, d2] }
  | _ => none }
def fnExactUnitLiteralsRow : OpenClaim := { program := "ytlipmbcjpmbjnaa", sum := "da90900dc82877cc5f9e1f28d942f2172b8e1724cc2ed7ccf5f9614cd7d54ab2", func := "loop.example/g01080/laws.FnExactUnitLiterals", spec := "fnExactUnitLiterals", unfollowed := true, recurses := true, apart := false }
def FnExactUnitLiteralsSaid : Prop := fnExactUnitLiteralsRow.holds Try.pinned (OpenSpec.ofChange fnExactUnitLiteralsSpec)

/-- ITS FALSE NEIGHBOUR: 'it returns false'. Refute it at one input. -/
def fnExactUnitLiteralsWrong : ChangeSpec := { name := "fnExactUnitLiterals", fn := fun _ => fun
  | [d1, d2] => { results := [.lit (.bool false)], args := [d1, d2] }
  | _ => none }
def FnExactUnitLiteralsWrongFalsely : Prop := fnExactUnitLiteralsRow.holds Try.pinned (OpenSpec.ofChange fnExactUnitLiteralsWrong)

/-- 'laws.FnExactPrimeClauses': WHATEVER THE INPUT: true; the input reads as it did. -/
def fnExactPrimeClausesSpec : ChangeSpec := { name := "fnExactPrimeClauses", fn := fun _ => fun
  | [d] => { results := [.lit (.bool true)], args := [d] }
  | _ => none }
def fnExactPrimeClausesRow : OpenClaim := { program := "ytlipmbcjpmbjnaa", sum := "da90900dc82877cc5f9e1f28d942f2172b8e1724cc2ed7ccf5f9614cd7d54ab2", func := "loop.example/g01080/laws.FnExactPrimeClauses", spec := "fnExactPrimeClauses", unfollowed := true, recurses := true, apart := false }
def FnExactPrimeClausesSaid : Prop := fnExactPrimeClausesRow.holds Try.pinned (OpenSpec.ofChange fnExactPrimeClausesSpec)

/-- ITS FALSE NEIGHBOUR: 'it returns false'. Refute it at one input. -/
def fnExactPrimeClausesWrong : ChangeSpec := { name := "fnExactPrimeClauses", fn := fun _ => fun
  | [d] => { results := [.lit (.bool false)], args := [d] }
  | _ => none }
def FnExactPrimeClausesWrongFalsely : Prop := fnExactPrimeClausesRow.holds Try.pinned (OpenSpec.ofChange fnExactPrimeClausesWrong)

/- THE SECOND FORM. 'bulk': how many values and letters a reading holds, each counted each time it is reached (what is shared counts as often as it is met; a slice's spare places count too). A statement '..UptoSaid' is the law's where the arguments, and the package variables that the reading takes, are together of bulk at most 1048576: NARROWER than '..Said'. Prove '..Said' where nothing that the law and all that it calls make is longer than what came in: it says more and counts as full. Else prove '..UptoSaid'. A law counts once. -/
mutual
def uptoBulk {H : Type} : DataW H → Nat
  | .lit (.string bytes) => bytes.length + 1
  | .lit _ => 1
  | .nil => 1
  | .ptr d => uptoBulk d + 1
  | .slice elems spare => uptoBulkAll elems + uptoBulkAll spare + 1
  | .agg parts => uptoBulkAll parts + 1
  | .iface _ d => uptoBulk d + 1
  | .map entries => uptoBulkEntries entries + 1
  | .held _ => 1
def uptoBulkAll {H : Type} : List (DataW H) → Nat
  | [] => 0
  | d :: r => uptoBulk d + uptoBulkAll r
def uptoBulkEntries {H : Type} : List (Lit × DataW H) → Nat
  | [] => 0
  | x :: r => uptoBulkEntry x + uptoBulkEntries r
def uptoBulkEntry {H : Type} : Lit × DataW H → Nat
  | (.string bytes, d) => bytes.length + uptoBulk d + 1
  | (_, d) => uptoBulk d + 1
 end
def uptoSmall : (H : Type) → List (DataW H) → Bool := fun _ ds => decide (uptoBulkAll ds ≤ 1048576)
def OpenSpec.upto (s : _root_.Go.ChangeSpec) : _root_.Go.OpenSpec := { _root_.Go.OpenSpec.ofChange s with cond := some uptoSmall }

/-- 'laws.FnExactVarsUsed', WHERE WHAT IT READS IS OF BULK AT MOST 1048576: true; the input reads as it did. -/
def fnExactVarsUsedUptoRow : OpenClaim := { program := "ytlipmbcjpmbjnaa", sum := "da90900dc82877cc5f9e1f28d942f2172b8e1724cc2ed7ccf5f9614cd7d54ab2", func := "loop.example/g01080/laws.FnExactVarsUsed", spec := "fnExactVarsUsed", recurses := true, apart := false, narrowed := true }
def FnExactVarsUsedUptoSaid : Prop := fnExactVarsUsedUptoRow.holds Try.pinned (OpenSpec.upto fnExactVarsUsedSpec)

/-- 'laws.FnExactPureLiterals', WHERE WHAT IT READS IS OF BULK AT MOST 1048576: true; the input reads as it did. -/
def fnExactPureLiteralsUptoRow : OpenClaim := { program := "ytlipmbcjpmbjnaa", sum := "da90900dc82877cc5f9e1f28d942f2172b8e1724cc2ed7ccf5f9614cd7d54ab2", func := "loop.example/g01080/laws.FnExactPureLiterals", spec := "fnExactPureLiterals", unfollowed := true, recurses := true, apart := false, narrowed := true }
def FnExactPureLiteralsUptoSaid : Prop := fnExactPureLiteralsUptoRow.holds Try.pinned (OpenSpec.upto fnExactPureLiteralsSpec)

/-- 'laws.FnExactIndependentParts', WHERE WHAT IT READS IS OF BULK AT MOST 1048576: true; the input reads as it did. -/
def fnExactIndependentPartsUptoRow : OpenClaim := { program := "ytlipmbcjpmbjnaa", sum := "da90900dc82877cc5f9e1f28d942f2172b8e1724cc2ed7ccf5f9614cd7d54ab2", func := "loop.example/g01080/laws.FnExactIndependentParts", spec := "fnExactIndependentParts", unfollowed := true, recurses := true, apart := false, narrowed := true }
def FnExactIndependentPartsUptoSaid : Prop := fnExactIndependentPartsUptoRow.holds Try.pinned (OpenSpec.upto fnExactIndependentPartsSpec)

/-- 'laws.FnExactSortClauses', WHERE WHAT IT READS IS OF BULK AT MOST 1048576: true; the input reads as it did. -/
def fnExactSortClausesUptoRow : OpenClaim := { program := "ytlipmbcjpmbjnaa", sum := "da90900dc82877cc5f9e1f28d942f2172b8e1724cc2ed7ccf5f9614cd7d54ab2", func := "loop.example/g01080/laws.FnExactSortClauses", spec := "fnExactSortClauses", unfollowed := true, recurses := true, apart := false, narrowed := true }
def FnExactSortClausesUptoSaid : Prop := fnExactSortClausesUptoRow.holds Try.pinned (OpenSpec.upto fnExactSortClausesSpec)

/-- 'laws.FnExactUnitLiterals', WHERE WHAT IT READS IS OF BULK AT MOST 1048576: true; the input reads as it did. -/
def fnExactUnitLiteralsUptoRow : OpenClaim := { program := "ytlipmbcjpmbjnaa", sum := "da90900dc82877cc5f9e1f28d942f2172b8e1724cc2ed7ccf5f9614cd7d54ab2", func := "loop.example/g01080/laws.FnExactUnitLiterals", spec := "fnExactUnitLiterals", unfollowed := true, recurses := true, apart := false, narrowed := true }
def FnExactUnitLiteralsUptoSaid : Prop := fnExactUnitLiteralsUptoRow.holds Try.pinned (OpenSpec.upto fnExactUnitLiteralsSpec)

/-- 'laws.FnExactPrimeClauses', WHERE WHAT IT READS IS OF BULK AT MOST 1048576: true; the input reads as it did. -/
def fnExactPrimeClausesUptoRow : OpenClaim := { program := "ytlipmbcjpmbjnaa", sum := "da90900dc82877cc5f9e1f28d942f2172b8e1724cc2ed7ccf5f9614cd7d54ab2", func := "loop.example/g01080/laws.FnExactPrimeClauses", spec := "fnExactPrimeClauses", unfollowed := true, recurses := true, apart := false, narrowed := true }
def FnExactPrimeClausesUptoSaid : Prop := fnExactPrimeClausesUptoRow.holds Try.pinned (OpenSpec.upto fnExactPrimeClausesSpec)

end Rows
end Go.Proofs.Ytlipmbcjpmbjnaa
