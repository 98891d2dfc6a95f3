/- What the rows' condition on the listed tables gives a walk: the table of powers of ten. -/
import Derived.Test.YtmepficbmgjpoaaDoorFmtI
import Derived.LaidMore
import Derived.Stop.Joined
namespace Go.Proofs.YtmepficbmgjpoaaDoor
open Go.RowKit
set_option linter.unusedVariables false

theorem powT : Tryd.prog.globalNamed powN = some 3 := by kernel_rfl
theorem powTy : (Tryd.prog.globals[3]?).map (·.type) = some 116 := by kernel_rfl
theorem of_laid3 {W : World} (h : laidMetH Tryd.prog Rows.fnExactFormatIntRow.laid W) : Pow W := by
  rw [MakeChecks.laidMetH_plain _ _ _ (by kernel_rfl)] at h
  obtain ⟨ps, ⟨g0, t0, cs0, f0, p0, q0, hg0, ht0, hv0, hd0, ⟨g1, t1, cs1, f1, p1, q1, hg1, ht1, hv1, hd1, ⟨g2, t2, cs2, f2, p2, q2, hg2, ht2, hv2, hd2, _, _⟩, _⟩, _⟩, _⟩ := h
  have hg2' : Tryd.prog.globalNamed powN = some g2 := hg2
  obtain rfl := Option.some.inj (powT.symm.trans hg2')
  obtain rfl := Option.some.inj (powTy.symm.trans ht2)
  unfold Pow Lib.TabIs
  have hv2' : W.var? Tryd.prog powN = some cs2 := hv2
  rw [hv2']
  have e : (Rows.laid_internal_strconv_uint64pow10 : DataW Unit) = Lib.tabData .u64 Lib.pow10Tab := by rfl
  rw [e] at hd2
  rw [← Lib.cells_of_tab Tryd.underlying116 Tryd.underlying98 (by kernel_rfl) (by kernel_rfl) hd2]

end Go.Proofs.YtmepficbmgjpoaaDoor
