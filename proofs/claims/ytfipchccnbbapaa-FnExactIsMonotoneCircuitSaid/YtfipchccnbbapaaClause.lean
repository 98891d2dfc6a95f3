/- The walks: bounds, literals, clauses, assignments. -/
import Derived.Test.YtfipchccnbbapaaRows
import Derived.Test.YtfipchccnbbapaaLib
import Derived.Test.YtfipchccnbbapaaPlain
namespace Go.Proofs.Ytfipchccnbbapaa
open Go.RowKit
set_option linter.unusedVariables false

theorem i_within (n low high : Int) (w : World) : Calls Try.prog 39 #[.int .i64 n, .int .i64 low, .int .i64 high] w fun e w' => e = .returned (.bool (inB n low high)) ∧ w = w' := by
  by_cases h : low ≤ n
  · have hd : decide (low ≤ n) = true := by simpa using h
    go_enter Try.func39, Try.ntmps39
    go_wp2
    go_ret
    exact ⟨by simp [inB, hd], rfl⟩
  · have hd : decide (low ≤ n) = false := by simpa using h
    go_enter Try.func39, Try.ntmps39
    go_wp2
    go_ret
    exact ⟨by simp [inB, hd], rfl⟩

theorem s_l1In (n low high : Int) (w : World) : Calls Try.prog 50 #[.int .i64 n, .int .i64 low, .int .i64 high] w fun e w' => e = .returned (.bool (inB n low high)) ∧ w = w' := by
  by_cases h : low ≤ n
  · have hd : decide (low ≤ n) = true := by simpa using h
    go_enter Try.func50, Try.ntmps50
    go_wp2
    go_ret
    exact ⟨by simp [inB, hd], rfl⟩
  · have hd : decide (low ≤ n) = false := by simpa using h
    go_enter Try.func50, Try.ntmps50
    go_wp2
    go_ret
    exact ⟨by simp [inB, hd], rfl⟩

theorem i_varsOk (vars : Int) (w : World) : Calls Try.prog 38 #[.int .i64 vars] w fun e w' => e = .returned (.bool (varsB vars)) ∧ w = w' := by
  go_enter Try.func38, Try.ntmps38
  go_wp2_with (go_at_call 39; refine (i_within _ _ _ _).mono ?_; rintro e w' ⟨rfl, rfl⟩)
  go_ret
  exact ⟨rfl, rfl⟩

theorem s_l2Vars (vars : Int) (w : World) : Calls Try.prog 58 #[.int .i64 vars] w fun e w' => e = .returned (.bool (varsB vars)) ∧ w = w' := by
  go_enter Try.func58, Try.ntmps58
  go_wp2_with (go_at_call 50; refine (s_l1In _ _ _ _).mono ?_; rintro e w' ⟨rfl, rfl⟩)
  go_ret
  exact ⟨rfl, rfl⟩

theorem i_isVar (vars v : Int) (w : World) : Calls Try.prog 52 #[.int .i64 vars, .int .i64 v] w fun e w' => e = .returned (.bool (inB v 1 vars)) ∧ w = w' := by
  go_enter Try.func52, Try.ntmps52
  go_wp2_with (go_at_call 39; refine (i_within _ _ _ _).mono ?_; rintro e w' ⟨rfl, rfl⟩)
  go_ret
  exact ⟨rfl, rfl⟩

end Go.Proofs.Ytfipchccnbbapaa
