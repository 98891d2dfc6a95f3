/- What the rows' condition on the listed tables and errors gives a walk. -/
import Derived.Test.YtmepficbmgjpoaaDoorRd
import Derived.Test.YtmepficbmgjpoaaDoorLaid
import Derived.LaidMore
namespace Go.Proofs.YtmepficbmgjpoaaDoor
open Go.RowKit
set_option linter.unusedVariables false

theorem gES : Tryd.prog.globalNamed "strconv.ErrSyntax" = some 0 := by kernel_rfl
theorem gER : Tryd.prog.globalNamed "strconv.ErrRange" = some 1 := by kernel_rfl
theorem gEST : (Tryd.prog.globals[0]?).map (·.type) = some 59 := by kernel_rfl
theorem gERT : (Tryd.prog.globals[1]?).map (·.type) = some 59 := by kernel_rfl
theorem cellsErr : Tryd.prog.cellsOf 123 = 1 := by kernel_rfl
theorem cellsStr : Tryd.prog.cellsOf 9 = 1 := by kernel_rfl
theorem starErr : "*" ++ "errors.errorString" = "*errors.errorString" := by decide
theorem rowErr (u : TypeId) (h : Tryd.prog.typeName? 3 u = some "*errors.errorString") : u = 121 :=
  typeName_ptr_named (nm := "errors.errorString") (by rw [starErr]; kernel_rfl) (by kernel_rfl) (by decide) u (by rw [starErr]; exact h)
theorem errS_of {W : World} {r : List (String × DataW Unit)} (h : laidMet Tryd.prog (("strconv.ErrSyntax", Rows.laid_strconv_ErrSyntax) :: r) W) : ∃ t p, W.cell? ⟨0, 0, none⟩ = some (.iface t p) := by
  obtain ⟨a0, s0, hv0, -, -, -⟩ := laid_sentinel h gES gEST Tryd.underlying59 rowErr Tryd.underlying121 Tryd.underlying123 rfl rfl Tryd.underlying9 cellsErr cellsStr
  have h0 := World.var?_cell gES hv0 0
  exact ⟨_, _, by simpa using h0⟩
theorem errR_of {W : World} {r : List (String × DataW Unit)} (h : laidMet Tryd.prog (("strconv.ErrRange", Rows.laid_strconv_ErrRange) :: r) W) : ∃ t p, W.cell? ⟨1, 0, none⟩ = some (.iface t p) := by
  obtain ⟨a0, s0, hv0, -, -, -⟩ := laid_sentinel h gER gERT Tryd.underlying59 rowErr Tryd.underlying121 Tryd.underlying123 rfl rfl Tryd.underlying9 cellsErr cellsStr
  have h0 := World.var?_cell gER hv0 0
  exact ⟨_, _, by simpa using h0⟩
theorem pow_of {W : World} {r : List (String × DataW Unit)} (h : laidMet Tryd.prog ((powN, Rows.laid_internal_strconv_uint64pow10) :: r) W) : Pow W := by
  obtain ⟨ps, ⟨g2, t2, cs2, f2, p2, q2, hg2, ht2, hv2, hd2, _, _⟩, _⟩ := h
  obtain rfl := Option.some.inj (powT.symm.trans hg2)
  obtain rfl := Option.some.inj (powTy.symm.trans ht2)
  unfold Pow Lib.TabIs
  rw [hv2]
  have e : (Rows.laid_internal_strconv_uint64pow10 : DataW Unit) = Lib.tabData .u64 Lib.pow10Tab := by rfl
  rw [e] at hd2
  rw [← Lib.cells_of_tab Tryd.underlying116 Tryd.underlying98 (by kernel_rfl) (by kernel_rfl) hd2]
theorem of_laid5 {W : World} (h : laidMetH Tryd.prog Rows.fnExactParseIntRow.laid W) : PowE W := by
  rw [MakeChecks.laidMetH_plain _ _ _ (by kernel_rfl)] at h
  exact ⟨pow_of h.tail.tail, errS_of h.tail.tail.tail.tail, errR_of h.tail.tail.tail⟩

end Go.Proofs.YtmepficbmgjpoaaDoor
