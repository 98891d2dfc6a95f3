/- The contract of the program's BothCnfs. -/
import Derived.Test.YtlipmbcjpmbjnaaBoth
import Derived.Test.YtlipmbcjpmbjnaaCat
import Derived.Test.YtlipmbcjpmbjnaaPl2
import Derived.Deep.RegionHeld3
namespace Go.Proofs.Ytlipmbcjpmbjnaa
open Go.RowKit
set_option linter.unusedVariables false

theorem below_step {w W w' : World} (h : Below w.heap.size w W) (hb : Below W.heap.size W w') : Below w.heap.size w w' := h.trans (hb.mono h.size)
theorem fBothCnfs_len {f g r0 : CnfL} {r1 : Bool} (hn : szC f ≤ 1048576) (hn2 : szC g ≤ 1048576) (hR : fBothCnfs f g = (r0, r1)) : szC r0 ≤ 1048576 := by
  have h0 : szC ((0, []) : CnfL) ≤ 1048576 := by simp [szC, cntT]
  unfold fBothCnfs at hR
  split at hR
  · split at hR
    · split at hR
      · rename_i hg
        injection hR with h1 _
        have := goodB_sz hg
        rw [← h1]; omega
      · injection hR with h1 _; rw [← h1]; exact h0
    · injection hR with h1 _; rw [← h1]; exact h0
  · injection hR with h1 _; rw [← h1]; exact h0

end Go.Proofs.Ytlipmbcjpmbjnaa
