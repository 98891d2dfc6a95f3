/- The library's Sort and Compact at numbers in memory of the call's own, out of the shelf's contracts. -/
import Derived.Test.YtlipmbcjpmbjnaaVarsPl
import Derived.Test.YtlipmbcjpmbjnaaShelf
import Derived.Sort.Grow
import Derived.Lib.RowBridge
namespace Go.Proofs.Ytlipmbcjpmbjnaa
open Go.RowKit
set_option linter.unusedVariables false

theorem own_holds {lo hi : Nat} {w : World} {b off : Nat} {zs : List Int} (h : ∀ j u, (ic zs)[j]? = some u → w.cell? ⟨b, off + j, none⟩ = some u ∧ w.frozen? ⟨b, off + j, none⟩ = false) : Sort.Holds (Value.int .i64) w b off zs.toArray := by
  intro j hj
  have hj' : j < zs.length := by simpa using hj
  have := h j (.int .i64 zs[j]) (by simp [List.getElem?_eq_getElem hj'])
  simpa [getElem!_pos, hj'] using this
theorem holds_own {w : World} {b off : Nat} {zs : List Int} {d : Array Int} (h : Sort.Holds (Value.int .i64) w b off d) (hd : ∀ j x, zs[j]? = some x → j < d.size ∧ d[j]! = x) : ∀ j u, (ic zs)[j]? = some u → w.cell? ⟨b, off + j, none⟩ = some u ∧ w.frozen? ⟨b, off + j, none⟩ = false := by
  intro j u hu
  rw [List.getElem?_map] at hu
  cases hz : zs[j]? with
  | none => rw [hz] at hu; cases hu
  | some x =>
    rw [hz] at hu
    injection hu with hu
    obtain ⟨h1, h2⟩ := hd j x hz
    have := h j h1
    rw [h2, hu] at this
    exact this
theorem chg_row {lo hi b off n : Nat} {w : World} {d : Array Int} {os : Array Obj} (h1 : lo ≤ b) (h2 : b < hi) : Chg lo hi w (Sort.grow (Sort.putRow (Value.int .i64) (Sort.ahead w n) b off d) os) := by
  refine ⟨rfl, rfl, rfl, by simp [Sort.putRow, Sort.mapBlock, Sort.ahead], fun k hk hh => ?_⟩
  rw [Sort.heap_grow_old _ _ (by simpa [Sort.putRow, Sort.mapBlock, Sort.ahead] using hk)]
  simp [Sort.putRow, Sort.mapBlock, Sort.ahead, Array.getElem?_modify, show b ≠ k by omega]
theorem chg_row0 {lo hi b off n : Nat} {w : World} {d : Array Int} (h1 : lo ≤ b) (h2 : b < hi) : Chg lo hi w (Sort.putRow (Value.int .i64) (Sort.ahead w n) b off d) := by
  have := chg_row (os := #[]) (off := off) (n := n) (w := w) (d := d) h1 h2
  rwa [Sort.grow_empty] at this

theorem g_Sort {lo hi : Nat} (v : Value) (zs : List Int) (w : World) (h : FInts lo hi w v zs) (hn : zs.length ≤ 1048576) :
    Calls Try.prog 72 #[v] w fun e w' => e = .returned (.tuple #[]) ∧ FInts lo hi w' v (sortI zs) ∧ Chg lo hi w w' := by
  obtain ⟨A, c, rfl, hc, hm, hown⟩ := h
  by_cases h0 : 0 < zs.length
  · obtain ⟨b, off, rfl, h1, h2, h3⟩ := hown (by simpa using h0)
    have hb : b < w.heap.size := World.block_lt_of_cell? _ _ (h3 0 _ (List.getElem?_eq_getElem (by simpa using h0))).1
    have hH : Sort.Holds (Value.int .i64) w b off zs.toArray := own_holds (lo := lo) (hi := hi) h3
    refine (Try.slices_Sort_int b off c zs w hH hb (by omega)).mono ?_
    rintro e w' ⟨rfl, n, os, rfl⟩
    refine ⟨rfl, ⟨_, c, by rw [sortI_len], by rw [sortI_len]; exact hc, hm, fun _ => ⟨b, off, rfl, h1, h2, ?_⟩⟩, chg_row h1 h2⟩
    have hH2 : Sort.Holds (Value.int .i64) (Sort.grow (Sort.putRow (Value.int .i64) (Sort.ahead w n) b off (sortI zs).toArray) os) b off (sortI zs).toArray :=
      Sort.holds_grow _ _ os b off _ (by simpa [Sort.putRow, Sort.mapBlock, Sort.ahead] using hb) (Sort.holds_putRow _ _ b off _ _ (Sort.holds_ahead _ w n b off _ hH) (by simp [sortI_len]))
    refine holds_own hH2 fun j x hj => ?_
    have hj' := (List.getElem?_eq_some_iff.1 hj).1
    refine ⟨by simpa using hj', ?_⟩
    simp [getElem!_pos, hj', (List.getElem?_eq_some_iff.1 hj).2]
  · obtain rfl : zs = [] := List.eq_nil_of_length_eq_zero (by omega)
    refine (Try.slices_Sort_int_none A c w).mono ?_
    rintro e w' ⟨rfl, rfl⟩
    exact ⟨rfl, by rw [show sortI ([] : List Int) = [] by simp [sortI]]; exact ⟨A, c, rfl, hc, hm, hown⟩, chg_refl _ _ _⟩

theorem g_Compact {lo hi : Nat} (v : Value) (zs : List Int) (w : World) (h : FInts lo hi w v zs) (hn : zs.length ≤ 1048576) :
    Calls Try.prog 58 #[v] w fun e w' => ∃ v', e = .returned v' ∧ FInts lo hi w' v' (Lib.compact zs) ∧ Chg lo hi w w' := by
  obtain ⟨A, c, rfl, hc, hm, hown⟩ := h
  have hle := Lib.compact_length_le zs
  by_cases h0 : 0 < zs.length
  · obtain ⟨b, off, rfl, h1, h2, h3⟩ := hown (by simpa using h0)
    have hH : Sort.Holds (Value.int .i64) w b off zs.toArray := own_holds (lo := lo) (hi := hi) h3
    refine (Try.slices_Compact_int b off c zs w hH (by omega) hc).mono ?_
    rintro e w' ⟨rfl, q, rfl⟩
    refine ⟨_, rfl, ⟨_, c, rfl, by omega, hm, fun _ => ⟨b, off, rfl, h1, h2, ?_⟩⟩, chg_row0 h1 h2⟩
    have hH2 := Sort.holds_putRow (Value.int .i64) (Sort.ahead w q) b off zs.toArray (Lib.compact zs ++ List.replicate (zs.length - (Lib.compact zs).length) 0).toArray (Sort.holds_ahead _ w q b off _ hH) (by simp; omega)
    refine holds_own hH2 fun j x hj => ?_
    have hj' := (List.getElem?_eq_some_iff.1 hj).1
    refine ⟨by simp; omega, ?_⟩
    have hj2 : j < (Lib.compact zs ++ List.replicate (zs.length - (Lib.compact zs).length) 0).length := by simp; omega
    rw [getElem!_pos _ _ (by simpa using hj2)]
    simp [hj', (List.getElem?_eq_some_iff.1 hj).2]
  · obtain rfl : zs = [] := List.eq_nil_of_length_eq_zero (by omega)
    refine (Try.slices_Compact_int_empty A c w).mono ?_
    rintro e w' ⟨rfl, rfl⟩
    exact ⟨_, rfl, by rw [show Lib.compact ([] : List Int) = [] from rfl]; exact ⟨A, c, rfl, hc, hm, hown⟩, chg_refl _ _ _⟩

end Go.Proofs.Ytlipmbcjpmbjnaa
