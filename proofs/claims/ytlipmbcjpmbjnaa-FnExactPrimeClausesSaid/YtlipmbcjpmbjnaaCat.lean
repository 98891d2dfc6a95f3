/- The library's Grow and Concat of tables: the rows are the ones that came in, the header is new. -/
import Derived.Test.YtlipmbcjpmbjnaaOwnT
import Derived.Test.YtlipmbcjpmbjnaaTopC
import Derived.Lib.AppendZerosOnto
import Derived.Deep.DeepAppendWide
namespace Go.Proofs.Ytlipmbcjpmbjnaa
open Go.RowKit
set_option linter.unusedVariables false

/-- two tables, one behind the other -/
theorem tab_join {w : World} {v : Value} {ps qs : List (Value × List Int)} {base : Nat} (h : OwnH base w v (ps.map (·.1) ++ qs.map (·.1))) (hp : ∀ p ∈ ps, Ints w.heap.size w p.1 p.2) (hq : ∀ p ∈ qs, Ints w.heap.size w p.1 p.2) : Tab w.heap.size w v (ps.map (·.2) ++ qs.map (·.2)) := by
  obtain ⟨A, c, rfl, h1, h2, h3⟩ := h.own
  rw [← List.map_append] at h3 ⊢
  refine ⟨A, c, ps ++ qs, by simp, by simpa using h1, h2, by simp, h3.row, fun p hp' => ?_⟩
  rcases List.mem_append.1 hp' with h | h
  · exact hp p h
  · exact hq p h

end Go.Proofs.Ytlipmbcjpmbjnaa
