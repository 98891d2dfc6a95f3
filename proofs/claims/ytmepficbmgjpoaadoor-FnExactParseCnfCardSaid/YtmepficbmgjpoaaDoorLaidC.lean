/- What the rows' conditions give the walks of the parsers. -/
import Derived.Test.YtmepficbmgjpoaaDoorLaidE
import Derived.Test.YtmepficbmgjpoaaDoorParS
namespace Go.Proofs.YtmepficbmgjpoaaDoor
open Go.RowKit
set_option linter.unusedVariables false

theorem pow_var {w : World} (h : Pow w) : ∃ o, w.heap[3]? = some o := by
  unfold Pow Lib.TabIs World.var? at h
  rw [powT] at h
  simp only [Option.bind_some] at h
  cases hh : w.heap[3]? with
  | none => rw [hh] at h; cases h
  | some o => exact ⟨o, rfl⟩
theorem PowM.room {w : World} (h : PowM w) : 4 ≤ w.heap.size := by
  obtain ⟨o, ho⟩ := pow_var h.1.1
  rcases Nat.lt_or_ge 3 w.heap.size with h1 | h1
  · exact h1
  · rw [Array.getElem?_eq_none h1] at ho; cases ho
theorem PowM.chg {lo hi : Nat} {w w' : World} (h : PowM w) (hc : Chg lo hi w w') (hl : 4 ≤ lo) : PowM w' := by
  have hb : Below 4 w w' := ⟨hc.os, hc.tape, hc.output, hc.size, fun k hk => hc.block k (Nat.lt_of_lt_of_le hk h.room) (.inl (by omega))⟩
  have hcell : ∀ (g : Nat) (u : Value), g < 4 → w.cell? ⟨g, 0, none⟩ = some u → w'.cell? ⟨g, 0, none⟩ = some u := fun g u hg hu => (World.cell?_of_block (a := ⟨g, 0, none⟩) (hb.block g hg)).trans hu
  obtain ⟨⟨hp, ⟨t, p, h1⟩, t', p', h2⟩, m, hm⟩ := h
  refine ⟨⟨?_, ⟨t, p, hcell 0 _ (by omega) h1⟩, t', p', hcell 1 _ (by omega) h2⟩, m, hcell 2 _ (by omega) hm⟩
  unfold Pow Lib.TabIs World.var? at hp ⊢
  rw [powT] at hp ⊢
  simp only [Option.bind_some] at hp ⊢
  rw [hb.block 3 (by omega)]
  exact hp
theorem of_laidC {W : World} (h : laidMetH Tryd.prog Rows.fnExactParseClauseRow.laid W) (hs : W.ShapedOpen Tryd.prog) : PowM W := by
  rw [MakeChecks.laidMetH_plain _ _ _ (by kernel_rfl)] at h
  exact ⟨⟨pow_of h.tail.tail, errS_of h.tail.tail.tail.tail.tail, errR_of h.tail.tail.tail.tail⟩, maxV_of hs⟩
theorem of_laidF {W : World} (h : laidMetH Tryd.prog Rows.fnExactParseCnfRow.laid W) (hs : W.ShapedOpen Tryd.prog) : PowM W := by
  rw [MakeChecks.laidMetH_plain _ _ _ (by kernel_rfl)] at h
  exact ⟨⟨pow_of h.tail.tail, errS_of h.tail.tail.tail.tail.tail, errR_of h.tail.tail.tail.tail⟩, maxV_of hs⟩

end Go.Proofs.YtmepficbmgjpoaaDoor
