/- The walks: minimal cores. -/
import Derived.Test.YtlipmbcjpmbjnaaDel
namespace Go.Proofs.Ytlipmbcjpmbjnaa
open Go.RowKit
set_option linter.unusedVariables false

def minL (vars : Int) (t : List (List Int)) (a : List Int) (l : List Nat) : Bool := l.all fun k => !coreB vars t (skipL a k)
def fIsMinimalCore (f : CnfL) (a : List Int) : Bool × Bool :=
  if goodB f then (if idxB 0 ((f.2.length : Int) - 1) none a then (if coreB f.1 f.2 a then (minL f.1 f.2 a (rangeFrom 0 a.length), true) else (false, true)) else (false, false)) else (false, false)
theorem fmin_takes {f : CnfL} {a : List Int} (h : takesB f a = false) : fIsMinimalCore f a = (false, false) := by
  unfold takesB at h
  cases hg : goodB f with
  | false => simp [fIsMinimalCore, hg]
  | true => rw [hg] at h; simp at h; simp [fIsMinimalCore, hg, h]
theorem fmin_on {f : CnfL} {a : List Int} (h : takesB f a = true) : fIsMinimalCore f a = if coreB f.1 f.2 a then (minL f.1 f.2 a (rangeFrom 0 a.length), true) else (false, true) := by
  unfold takesB at h
  simp only [Bool.and_eq_true] at h
  unfold fIsMinimalCore
  rw [if_pos h.1, if_pos h.2]
theorem takesB_parts {f : CnfL} {a : List Int} (h : takesB f a = true) : goodB f = true ∧ idxB 0 ((f.2.length : Int) - 1) none a = true := by
  unfold takesB at h
  simpa using h

end Go.Proofs.Ytlipmbcjpmbjnaa
