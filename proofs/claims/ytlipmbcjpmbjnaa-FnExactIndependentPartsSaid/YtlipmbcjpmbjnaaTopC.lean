/- The contracts of the exported functions, in the form that the laws' walks take: formulas and their models. -/
import Derived.Test.YtlipmbcjpmbjnaaSat
namespace Go.Proofs.Ytlipmbcjpmbjnaa
open Go.RowKit
set_option linter.unusedVariables false

theorem cntC_le (f : CnfL) : cntC f ≤ szC f := by unfold cntC szC; omega

theorem RCnf.open2 {hi : Nat} {w : World} {v : Value} {f : CnfL} (h : RCnf hi w v f) : ∃ A n c, v = .agg #[.int .i64 f.1, .slice A n c] ∧ Tab hi w (.slice A n c) f.2 := by
  obtain ⟨cv, rfl, ht⟩ := h
  obtain ⟨A, c, ps, hcv, -⟩ := id ht.open_
  exact ⟨A, ps.length, c, by rw [hcv], by rw [← hcv]; exact ht⟩

theorem chg_old {lo hi : Nat} {w w' : World} {p : Addr} {u : Value} (hc : Chg lo hi w w') (h : w.cell? p = some u) (hl : p.block < lo ∨ hi ≤ p.block) : w'.cell? p = some u :=
  (World.cell?_of_block (w := w) (hc.block p.block (World.block_lt_of_cell? _ _ h) (by omega))).trans h

theorem FCnf.open2 {lo hi : Nat} {w : World} {v : Value} {f : CnfL} (h : FCnf lo hi w v f) : ∃ A n c, v = .agg #[.int .i64 f.1, .slice A n c] ∧ FTab lo hi w (.slice A n c) f.2 := by
  obtain ⟨cv, rfl, ht⟩ := h
  obtain ⟨A, c, ps, hcv, -⟩ := id ht.open_
  exact ⟨A, ps.length, c, by rw [hcv], by rw [← hcv]; exact ht⟩

theorem below_drew (w : World) : Below w.heap.size w w.drew := ⟨rfl, rfl, rfl, Nat.le_refl _, fun _ _ => rfl⟩

def fIsCnf (f : CnfL) : Bool := goodB f

theorem I_IsCnf {hi : Nat} (v : Value) (f : CnfL) (r0 : Bool) (w : World) (h : RCnf hi w v f) (hn0 : szC f ≤ 1048576) (hR : fIsCnf f = r0) :
    Calls Try.prog 38 #[v] w fun e w' => e = .returned (.bool r0) ∧ Below w.heap.size w w' :=
  (i_IsCnf v f w h).mono fun e w' ⟨he, hq⟩ => ⟨by rw [he, ← hR]; rfl, hq⟩

def fIsModel (f : CnfL) (bits : Int) : Bool × Bool := if goodB f then (if inB bits 0 ((2 : Int) ^ f.1.toNat - 1) then (allB bits f.2, true) else (false, false)) else (false, false)

end Go.Proofs.Ytlipmbcjpmbjnaa
