/- The contracts of FullCnf: the reference's and the program's families of all signed clauses. -/
import Derived.Test.YtlipmbcjpmbjnaaPut
import Derived.Test.YtlipmbcjpmbjnaaFullPl
import Derived.Test.YtlipmbcjpmbjnaaBothI
import Derived.Test.YtlipmbcjpmbjnaaCoreC
namespace Go.Proofs.Ytlipmbcjpmbjnaa
open Go.RowKit
set_option linter.unusedVariables false

theorem FRT.notTop {base g : Nat} {w : World} {v : Value} {ps : List (Value × List Int)} (h : FRT base w v ps) (hg : w.heap.size ≤ g) : NotAt g v ps := by
  refine ⟨fun e => ?_, fun p hp h0 e => ?_⟩
  · have := (h.1.block_lt e).2; omega
  · obtain ⟨b, hb1, _, hb2⟩ := (h.2.1.1 p hp).block h0
    rw [hb1] at e
    have : b = g := by simpa using e
    omega

end Go.Proofs.Ytlipmbcjpmbjnaa
