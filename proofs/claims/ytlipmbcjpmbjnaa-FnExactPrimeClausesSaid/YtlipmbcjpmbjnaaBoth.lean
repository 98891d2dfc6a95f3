/- The contracts of the exported BothCnfs. -/
import Derived.Test.YtlipmbcjpmbjnaaFam2
import Derived.Test.YtlipmbcjpmbjnaaTabs2
import Derived.Test.YtlipmbcjpmbjnaaWid
namespace Go.Proofs.Ytlipmbcjpmbjnaa
open Go.RowKit
set_option linter.unusedVariables false

def topI (a b : Int) : Int := if a < b then b else a
/-- both formulas in one -/
def bothF (f g : CnfL) : CnfL := (topI f.1 g.1, f.2 ++ g.2)
def fBothCnfs (f g : CnfL) : CnfL × Bool := if goodB f then (if goodB g then (if goodB (bothF f g) then (bothF f g, true) else ((0, []), false)) else ((0, []), false)) else ((0, []), false)

end Go.Proofs.Ytlipmbcjpmbjnaa
