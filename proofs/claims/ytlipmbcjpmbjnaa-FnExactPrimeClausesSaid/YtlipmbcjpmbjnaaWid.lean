/- The walks: the width of a formula, its value under an assignment, equivalence. -/
import Derived.Test.YtlipmbcjpmbjnaaTopC
import Derived.Test.YtlipmbcjpmbjnaaVal
namespace Go.Proofs.Ytlipmbcjpmbjnaa
open Go.RowKit
set_option linter.unusedVariables false

def maxT : Nat → List (List Int) → Nat
  | m, [] => m
  | m, c :: r => maxT (if m < c.length then c.length else m) r

def minV (a : List Int) : Int → List (List Int) → Int
  | m, [] => m
  | m, c :: r => minV a (if valueI a (-1) c < m then valueI a (-1) c else m) r

def fWidthOfCnf (f : CnfL) : Int × Bool := if goodB f then ((maxT 0 f.2 : Nat), true) else (0, false)

end Go.Proofs.Ytlipmbcjpmbjnaa
