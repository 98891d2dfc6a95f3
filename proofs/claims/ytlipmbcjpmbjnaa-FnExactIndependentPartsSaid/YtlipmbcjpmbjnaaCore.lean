/- The walks: the clauses with some indices; cores. -/
import Derived.Test.YtlipmbcjpmbjnaaImp
import Derived.Deep.RegionHeld3
namespace Go.Proofs.Ytlipmbcjpmbjnaa
open Go.RowKit
set_option linter.unusedVariables false

theorem below_drew_of {B : Nat} {a w : World} (h : Below B a w) : Below B a w.drew := ⟨h.os, h.tape, h.output, h.size, h.block⟩
theorem below_alloc_of {a w : World} (h : Below a.heap.size a w) (o : Obj) : Below a.heap.size a (w.alloc o) := h.alloc h.size o

/-- numbers that rise, within bounds -/
def idxB (lo hi : Int) : Option Int → List Int → Bool
  | _, [] => true
  | none, x :: r => inB x lo hi && idxB lo hi (some x) r
  | some p, x :: r => inB x lo hi && !decide (x ≤ p) && idxB lo hi (some x) r
theorem idxB_in {lo hi : Int} : ∀ (c : List Int) (p : Option Int), idxB lo hi p c = true → ∀ x ∈ c, lo ≤ x ∧ x ≤ hi
  | [], _, _ => by simp
  | x :: r, p, h => by
    intro l hl
    cases p with
    | none =>
      simp [idxB] at h
      rcases List.mem_cons.1 hl with rfl | hl
      · have := h.1; simpa [inB] using this
      · exact idxB_in r _ h.2 l hl
    | some q =>
      simp [idxB] at h
      rcases List.mem_cons.1 hl with rfl | hl
      · have := h.1.1; simpa [inB] using this
      · exact idxB_in r _ h.2 l hl
/-- the clauses with some indices -/
def pickT (t : List (List Int)) (idx : List Int) : List (List Int) := idx.map fun i => t.getD i.toNat []
def coreB (vars : Int) (t : List (List Int)) (idx : List Int) : Bool := !satB (vars, pickT t idx)
theorem pickT_small {t : List (List Int)} (h : ∀ c ∈ t, ∀ l ∈ c, l ≠ 0 ∧ -12 ≤ l ∧ l ≤ 12) (idx : List Int) : ∀ c ∈ pickT t idx, ∀ l ∈ c, l ≠ 0 ∧ -12 ≤ l ∧ l ≤ 12 := by
  intro c hc
  obtain ⟨i, _, rfl⟩ := List.mem_map.1 hc
  rw [List.getD_eq_getElem?_getD]
  cases he : t[i.toNat]? with
  | none => simp
  | some y => exact h y (List.mem_of_getElem? he)

theorem first_core (f : CnfL) : decide (firstF f < 0) = !satB f := by
  have h1 := firstL_nil (modelsF f)
  unfold satB
  rw [← h1, firstF_eq]
  by_cases h : firstL (modelsF f) < 0
  · rw [decide_eq_true h, show decide (0 ≤ firstL (modelsF f)) = false by simp; omega]; rfl
  · rw [decide_eq_false h, show decide (0 ≤ firstL (modelsF f)) = true by simp; omega]; rfl

def takesB (f : CnfL) (a : List Int) : Bool := goodB f && idxB 0 ((f.2.length : Int) - 1) none a
theorem takes_in {f : CnfL} {a : List Int} (h : idxB 0 ((f.2.length : Int) - 1) none a = true) : ∀ x ∈ a, 0 ≤ x ∧ x < (f.2.length : Int) := fun x hx => by
  have := idxB_in a none h x hx
  omega
def fIsCore (f : CnfL) (a : List Int) : Bool × Bool := if goodB f then (if idxB 0 ((f.2.length : Int) - 1) none a then (coreB f.1 f.2 a, true) else (false, false)) else (false, false)

end Go.Proofs.Ytlipmbcjpmbjnaa
