/- The walks under ApartCnfs: a clause shifted. -/
import Derived.Test.YtlipmbcjpmbjnaaFam
namespace Go.Proofs.Ytlipmbcjpmbjnaa
open Go.RowKit
set_option linter.unusedVariables false

def shiftI (n : Int) (l : Int) : Int := if 0 < l then l + n else l - n
def shiftL (n : Int) (c : List Int) : List Int := c.map (shiftI n)

end Go.Proofs.Ytlipmbcjpmbjnaa
