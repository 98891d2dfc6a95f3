/- Plain laws on sizes of valid formulas. No program in sight. -/
import Derived.Test.YtlipmbcjpmbjnaaPlain
import Derived.Test.YtlipmbcjpmbjnaaTab
namespace Go.Proofs.Ytlipmbcjpmbjnaa
open Go.RowKit
set_option linter.unusedVariables false

theorem risesS_len {vars : Int} (hv : varsB vars = true) : ∀ (c : List Int) (q : Int), litB vars q = true → risesS vars (some q) c = true → c.length + q.natAbs ≤ 12
  | [], q, hq, _ => by
    have h1 := (litB_iff hv).1 hq
    have hv' : 0 ≤ vars ∧ vars ≤ 12 := by simpa [varsB, inB] using hv
    simp only [List.length_nil]
    omega
  | l :: r, q, hq, h => by
    simp [risesS] at h
    obtain ⟨⟨hl, hlt⟩, hr⟩ := h
    have h1 := (litB_iff hv).1 hq
    have h2 := (litB_iff hv).1 hl
    have hv' : 0 ≤ vars ∧ vars ≤ 12 := by simpa [varsB, inB] using hv
    have h3 := risesS_len hv r l hl hr
    rw [varW_small (l := l) (by omega), varW_small (l := q) (by omega)] at hlt
    simp only [List.length_cons]
    omega
theorem clauseB_len {vars : Int} {c : List Int} (h : clauseB vars c = true) : c.length ≤ 12 := by
  have hv := clauseB_vars h
  unfold clauseB at h
  simp [hv] at h
  cases c with
  | nil => simp
  | cons l r =>
    simp [risesS] at h
    have := risesS_len hv r l h.1 h.2
    have h2 := (litB_iff hv).1 h.1
    simp only [List.length_cons]
    omega
theorem cntT_le12 : ∀ {t : List (List Int)}, (∀ c ∈ t, c.length ≤ 12) → cntT t ≤ 12 * t.length
  | [], _ => by simp [cntT]
  | z :: r, h => by
    have h1 := h z (by simp)
    have h2 := cntT_le12 (t := r) fun c hc => h c (by simp [hc])
    simp only [cntT, List.length_cons]
    omega
theorem goodB_sz {f : CnfL} (h : goodB f = true) : szC f ≤ 780 := by
  obtain ⟨_, h2, h3⟩ := goodB_parts h
  have := cntT_le12 fun c hc => clauseB_len (h3 c hc)
  unfold szC
  omega
/-- a formula that is given where it is valid -/
def giveF (f : CnfL) : CnfL × Bool := if goodB f then (f, true) else ((0, []), false)
theorem giveF_len {f r0 : CnfL} {r1 : Bool} (hR : giveF f = (r0, r1)) : szC r0 ≤ 1048576 := by
  unfold giveF at hR
  split at hR
  · rename_i hg
    injection hR with h1 _
    have := goodB_sz hg
    rw [← h1]; omega
  · injection hR with h1 _; rw [← h1]; simp [szC, cntT]

end Go.Proofs.Ytlipmbcjpmbjnaa
