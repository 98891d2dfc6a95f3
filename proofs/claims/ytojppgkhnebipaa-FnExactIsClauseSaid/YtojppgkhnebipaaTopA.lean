/- The contracts of the exported functions, in the form that the laws' walks take. -/
import Derived.Test.YtojppgkhnebipaaClause
namespace Go.Proofs.Ytojppgkhnebipaa
open Go.RowKit
set_option linter.unusedVariables false

def fIsClause (vars : Int) (c : List Int) : Bool := clauseB vars c

def fIsAssignment (vars : Int) (c : List Int) : Bool := clauseB vars c

theorem S_IsClause {hi : Nat} (vars : Int) (v : Value) (zs : List Int) (r : Bool) (w : World) (h : Ints hi w v zs) (hn : zs.length ≤ 1048576) (hR : fIsClause vars zs = r) :
    Calls Try.prog 19 #[.int .i64 vars, v] w fun e w' => e = .returned (.bool r) ∧ Below w.heap.size w w' :=
  (s_IsClause vars v zs w h).mono fun e w' ⟨he, hq⟩ => ⟨by rw [he, ← hR]; rfl, hq.below _⟩

theorem I_IsClause {hi : Nat} (vars : Int) (v : Value) (zs : List Int) (r : Bool) (w : World) (h : Ints hi w v zs) (hn : zs.length ≤ 1048576) (hR : fIsClause vars zs = r) :
    Calls Try.prog 21 #[.int .i64 vars, v] w fun e w' => e = .returned (.bool r) ∧ Below w.heap.size w w' :=
  (i_IsClause vars v zs w h).mono fun e w' ⟨he, hq⟩ => ⟨by rw [he, ← hR]; rfl, hq.below _⟩

theorem S_IsAssignment {hi : Nat} (vars : Int) (v : Value) (zs : List Int) (r : Bool) (w : World) (h : Ints hi w v zs) (hn : zs.length ≤ 1048576) (hR : fIsAssignment vars zs = r) :
    Calls Try.prog 23 #[.int .i64 vars, v] w fun e w' => e = .returned (.bool r) ∧ Below w.heap.size w w' := by
  go_enter Try.func23, Try.ntmps23
  go_wp2_with (go_at_call 46; refine (s_l3Good _ _ _ _ h).mono ?_; rintro e w1 ⟨rfl, hq⟩)
  go_ret
  exact ⟨ret_bool hR, hq.below _⟩

theorem i_IsAssignment {hi : Nat} (vars : Int) (v : Value) (zs : List Int) (w : World) (h : Ints hi w v zs) :
    Calls Try.prog 24 #[.int .i64 vars, v] w fun e w' => e = .returned (.bool (clauseB vars zs)) ∧ Quiet w w' := by
  go_enter Try.func24, Try.ntmps24
  go_wp2_with (go_at_call 21; refine (i_IsClause _ _ _ _ h).mono ?_; rintro e w1 ⟨rfl, hq⟩)
  go_ret
  exact ⟨rfl, hq⟩

theorem I_IsAssignment {hi : Nat} (vars : Int) (v : Value) (zs : List Int) (r : Bool) (w : World) (h : Ints hi w v zs) (hn : zs.length ≤ 1048576) (hR : fIsAssignment vars zs = r) :
    Calls Try.prog 24 #[.int .i64 vars, v] w fun e w' => e = .returned (.bool r) ∧ Below w.heap.size w w' :=
  (i_IsAssignment vars v zs w h).mono fun e w' ⟨he, hq⟩ => ⟨by rw [he, ← hR]; rfl, hq.below _⟩

end Go.Proofs.Ytojppgkhnebipaa
