/- The walks: the width of a formula, its value under an assignment, equivalence. -/
import Derived.Test.YtkmkdfogpdndoaaTopC
import Derived.Test.YtkmkdfogpdndoaaVal
namespace Go.Proofs.Ytkmkdfogpdndoaa
open Go.RowKit
set_option linter.unusedVariables false

def maxT : Nat → List (List Int) → Nat
  | m, [] => m
  | m, c :: r => maxT (if m < c.length then c.length else m) r

def minV (a : List Int) : Int → List (List Int) → Int
  | m, [] => m
  | m, c :: r => minV a (if valueI a (-1) c < m then valueI a (-1) c else m) r

theorem s_l1Most_up (a b : Int) (w : World) (h : a ≤ b) : Calls Try.prog 74 #[.int .i64 a, .int .i64 b] w fun e w' => e = .returned (.int .i64 b) ∧ w = w' := by
  have hd : ¬ (b < a) := by omega
  go_enter Try.func74, Try.ntmps74
  go_wp2_with fail
  go_ret
  exact ⟨rfl, rfl⟩

theorem s_l1Most_dn (a b : Int) (w : World) (h : b < a) : Calls Try.prog 74 #[.int .i64 a, .int .i64 b] w fun e w' => e = .returned (.int .i64 a) ∧ w = w' := by
  go_enter Try.func74, Try.ntmps74
  go_wp2_with fail
  go_ret
  exact ⟨rfl, rfl⟩

def fWidthOfCnf (f : CnfL) : Int × Bool := if goodB f then ((maxT 0 f.2 : Nat), true) else (0, false)

end Go.Proofs.Ytkmkdfogpdndoaa
