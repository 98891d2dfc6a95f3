/- The walks: the value of a formula under an assignment. -/
import Derived.Test.YtlipmbcjpmbjnaaWid
namespace Go.Proofs.Ytlipmbcjpmbjnaa
open Go.RowKit
set_option linter.unusedVariables false

theorem s_l3Asked {hi hi' : Nat} (v : Value) (f : CnfL) (va : Value) (a : List Int) (w : World) (h : RCnf hi w v f) (h2 : Ints hi' w va a) :
    Calls Try.prog 52 #[v, va] w fun e w' => e = .returned (.bool (goodB f && clauseB f.1 a)) ∧ Below w.heap.size w w' := by
  obtain ⟨A, n, c, rfl, ht⟩ := h.open2
  obtain ⟨vars, t⟩ := f
  dsimp only at ht ⊢
  have hal : Below w.heap.size w (w.alloc (.cells #[.int .i64 vars, .slice A n c] 29)) := (Below.refl _ _).alloc (Nat.le_refl _) _
  have htb := ht.top.below hal
  have h2b := h2.top.below hal
  cases hg : goodB (vars, t) with
  | false =>
    go_enter Try.func52, Try.ntmps52
    go_wp2_with (go_at_call 34; refine (s_l2Good _ (vars, t) _ ⟨_, rfl, htb⟩).mono ?_; rintro e w1 ⟨rfl, hb1⟩)
    go_ret
    exact ⟨rfl, (box2 hb1).2.2.1⟩
  | true =>
    cases hcl : clauseB vars a with
    | false =>
      go_enter Try.func52, Try.ntmps52
      go_wp2_with (first | (go_at_call 34; refine (s_l2Good _ (vars, t) _ ⟨_, rfl, htb⟩).mono ?_; rintro e w1 ⟨rfl, hb1⟩; obtain ⟨c0, c1, hbw, hsz⟩ := box2 hb1) | (go_at_call 88; refine (s_l3Good _ _ a _ (h2b.below hb1)).mono ?_; rintro e w2 ⟨rfl, hq2⟩))
      go_ret
      exact ⟨rfl, hbw.trans (hq2.below _)⟩
    | true =>
      go_enter Try.func52, Try.ntmps52
      go_wp2_with (first | (go_at_call 34; refine (s_l2Good _ (vars, t) _ ⟨_, rfl, htb⟩).mono ?_; rintro e w1 ⟨rfl, hb1⟩; obtain ⟨c0, c1, hbw, hsz⟩ := box2 hb1) | (go_at_call 88; refine (s_l3Good _ _ a _ (h2b.below hb1)).mono ?_; rintro e w2 ⟨rfl, hq2⟩))
      go_ret
      exact ⟨rfl, hbw.trans (hq2.below _)⟩

def fValueOfCnf (f : CnfL) (a : List Int) : Int × Bool := if goodB f && clauseB f.1 a then (minV a 1 f.2, true) else (0, false)

end Go.Proofs.Ytlipmbcjpmbjnaa
