/- The library's Reverse at numbers in memory of the call's own, out of the shelf's contract. -/
import Derived.Test.YtfipchccnbbapaaMonIt
import Derived.Test.YtfipchccnbbapaaShelf
import Derived.Lib.RowBridge
namespace Go.Proofs.Ytfipchccnbbapaa
open Go.RowKit
set_option linter.unusedVariables false

theorem grown_row {w : World} {b off n : Nat} {d : Array Int} : w.grownBy (Sort.putRow (Value.int .i64) (Sort.ahead w n) b off d) (some b) := by
  refine ⟨rfl, rfl, rfl, by simp [Sort.putRow, Sort.mapBlock, Sort.ahead], fun k hk hne => ?_⟩
  have : b ≠ k := fun e => hne (by rw [e])
  simp [Sort.putRow, Sort.mapBlock, Sort.ahead, Array.getElem?_modify, this]

theorem g_Reverse {base : Nat} (v : Value) (zs : List Int) (w : World) (h : OwnI base w v zs) :
    Calls Try.prog 67 #[v] w fun e w' => e = .returned (.tuple #[]) ∧ FInts base w'.heap.size w' v zs.reverse ∧ w.grownBy w' v.ownBlock := by
  obtain ⟨A, c, rfl, hc, hm, hown⟩ := h.fints
  by_cases h0 : 0 < zs.length
  · obtain ⟨b, off, rfl, h1, h2, h3⟩ := hown (by simpa using h0)
    have hH : Sort.Holds (Value.int .i64) w b off zs.toArray := by
      intro j hj
      have hj' : j < zs.length := by simpa using hj
      have := h3 j (.int .i64 zs[j]) (by simp [List.getElem?_eq_getElem hj'])
      simpa [getElem!_pos, hj'] using this
    refine (Try.slices_Reverse_int b off c zs w hH (by unfold maxLen at hm; omega)).mono ?_
    rintro e w' ⟨rfl, n, rfl⟩
    have hH2 := Sort.holds_putRow (Value.int .i64) (Sort.ahead w n) b off zs.toArray zs.reverse.toArray (Sort.holds_ahead _ w n b off _ hH) (by simp)
    refine ⟨rfl, ⟨_, c, by rw [List.length_reverse], by rw [List.length_reverse]; exact hc, hm, fun _ => ⟨b, off, rfl, h1, by simpa [Sort.putRow, Sort.mapBlock, Sort.ahead] using h2, ?_⟩⟩, grown_row⟩
    intro j u hu
    rw [List.getElem?_map] at hu
    cases hz : zs.reverse[j]? with
    | none => rw [hz] at hu; cases hu
    | some x =>
      rw [hz] at hu
      injection hu with hu
      have hj' := (List.getElem?_eq_some_iff.1 hz).1
      have := hH2 j (by simpa using hj')
      rw [getElem!_pos _ _ (by simpa using hj')] at this
      simp only [List.getElem_toArray, (List.getElem?_eq_some_iff.1 hz).2, hu] at this
      exact this
  · obtain rfl : zs = [] := List.eq_nil_of_length_eq_zero (by omega)
    refine (Try.slices_Reverse_int_empty A c w).mono ?_
    rintro e w' ⟨rfl, rfl⟩
    exact ⟨rfl, ⟨A, c, rfl, hc, hm, hown⟩, grown_refl _ _⟩

end Go.Proofs.Ytfipchccnbbapaa
