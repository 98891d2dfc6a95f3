/- Plain Lean functions on ints and lists that the program and the reference both compute. No program in sight. -/
import Derived.Lib.Hide
import Derived.Below
import Derived.IntWalk
namespace Go.Proofs.Ytojppgkhnebipaa
open Go.RowKit

/-- low ≤ n ≤ high -/
def inB (n low high : Int) : Bool := decide (low ≤ n) && decide (n ≤ high)
/-- the negative, wrapped -/
def negW (l : Int) : Int := wrap64 (-l)
def absW (l : Int) : Int := max l (negW l)
def varW (l : Int) : Int := if l < 0 then negW l else l
def litB (vars l : Int) : Bool := decide (l ≠ 0) && inB l (negW vars) vars
def varsB (vars : Int) : Bool := inB vars 0 12

/-- a clause from a place on, behind the literal p -/
def risesI (vars : Int) : Option Int → List Int → Bool
  | _, [] => true
  | none, l :: r => litB vars l && risesI vars (some l) r
  | some p, l :: r => litB vars l && !decide (absW l ≤ absW p) && risesI vars (some l) r
/-- the same, as the reference computes it -/
def risesS (vars : Int) : Option Int → List Int → Bool
  | _, [] => true
  | none, l :: r => litB vars l && risesS vars (some l) r
  | some p, l :: r => litB vars l && !decide (varW l ≤ varW p) && risesS vars (some l) r

def clauseB (vars : Int) (c : List Int) : Bool := varsB vars && risesS vars none c

theorem negW_in {l : Int} (h : -9223372036854775807 ≤ l ∧ l ≤ 9223372036854775807) : negW l = -l := by
  unfold negW; exact IntWalk.wrap64_in _ (by omega)

theorem litB_iff {vars l : Int} (hv : varsB vars = true) : litB vars l = true ↔ l ≠ 0 ∧ -vars ≤ l ∧ l ≤ vars := by
  have hv' : 0 ≤ vars ∧ vars ≤ 12 := by simpa [varsB, inB] using hv
  unfold litB inB
  rw [negW_in (by omega)]
  simp

theorem absW_small {l : Int} (h : -12 ≤ l ∧ l ≤ 12) : absW l = (l.natAbs : Int) := by
  unfold absW; rw [negW_in (by omega)]; omega
theorem varW_small {l : Int} (h : -12 ≤ l ∧ l ≤ 12) : varW l = (l.natAbs : Int) := by
  unfold varW; rw [negW_in (by omega)]; split <;> omega

theorem rises_eq {vars : Int} (hv : varsB vars = true) : ∀ (c : List Int) (p : Option Int), (∀ q, p = some q → litB vars q = true) → risesI vars p c = risesS vars p c := by
  have hv' : 0 ≤ vars ∧ vars ≤ 12 := by simpa [varsB, inB] using hv
  intro c
  induction c with
  | nil => intro p _; cases p <;> rfl
  | cons l r ih =>
    intro p hp
    cases p with
    | none =>
      cases hl : litB vars l with
      | false => simp [risesI, risesS, hl]
      | true => simp [risesI, risesS, hl, ih (some l) (fun q hq => by injection hq with hq; rw [← hq]; exact hl)]
    | some q =>
      cases hl : litB vars l with
      | false => simp [risesI, risesS, hl]
      | true =>
        have h1 := (litB_iff hv).1 hl
        have h2 := (litB_iff hv).1 (hp q rfl)
        simp [risesI, risesS, hl, ih (some l) (fun q hq => by injection hq with hq; rw [← hq]; exact hl), absW_small (l := l) (by omega), absW_small (l := q) (by omega), varW_small (l := l) (by omega), varW_small (l := q) (by omega)]

theorem clauseB_impl (vars : Int) (c : List Int) : (risesI vars none c && varsB vars) = clauseB vars c := by
  unfold clauseB
  cases hv : varsB vars with
  | false => simp
  | true => simp [rises_eq hv c none (fun q hq => by cases hq)]

/-- the element ahead of place k -/
def prevAt (zs : List Int) : Nat → Option Int
  | 0 => none
  | k + 1 => zs[k]?

theorem prevAt_pos {zs : List Int} {k : Nat} (h : 0 < k) : prevAt zs k = zs[k - 1]? := by
  cases k with
  | zero => omega
  | succ k => rfl

theorem get_of_drop {α : Type} {zs : List α} {k : Nat} {x : α} (h : zs.drop k = x :: zs.drop (k + 1)) : zs[k]? = some x := by
  have := congrArg (fun l => l[0]?) h
  simpa [List.getElem?_drop] using this

theorem within_ok (n low high : Int) : (if low ≤ n then decide (n ≤ high) else false) = inB n low high := by
  unfold inB; split <;> simp [*]

end Go.Proofs.Ytojppgkhnebipaa
