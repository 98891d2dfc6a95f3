/- The contracts of the exported functions, in the form that the laws' walks take: assignments and clauses. -/
import Derived.Test.YtojppgkhnebipaaVal
import Derived.Test.YtojppgkhnebipaaBits
namespace Go.Proofs.Ytojppgkhnebipaa
open Go.RowKit
set_option linter.unusedVariables false

def fIsClause (vars : Int) (c : List Int) : Bool := clauseB vars c

def fIsAssignment (vars : Int) (c : List Int) : Bool := clauseB vars c

theorem S_IsClause {hi : Nat} (vars : Int) (v : Value) (zs : List Int) (r : Bool) (w : World) (h : Ints hi w v zs) (hn : zs.length ≤ 1048576) (hR : fIsClause vars zs = r) :
    Calls Try.prog 19 #[.int .i64 vars, v] w fun e w' => e = .returned (.bool r) ∧ Below w.heap.size w w' :=
  (s_IsClause vars v zs w h).mono fun e w' ⟨he, hq⟩ => ⟨by rw [he, ← hR]; rfl, hq.below _⟩

theorem I_IsClause {hi : Nat} (vars : Int) (v : Value) (zs : List Int) (r : Bool) (w : World) (h : Ints hi w v zs) (hn : zs.length ≤ 1048576) (hR : fIsClause vars zs = r) :
    Calls Try.prog 21 #[.int .i64 vars, v] w fun e w' => e = .returned (.bool r) ∧ Below w.heap.size w w' :=
  (i_IsClause vars v zs w h).mono fun e w' ⟨he, hq⟩ => ⟨by rw [he, ← hR]; rfl, hq.below _⟩

theorem S_IsAssignment {hi : Nat} (vars : Int) (v : Value) (zs : List Int) (r : Bool) (w : World) (h : Ints hi w v zs) (hn : zs.length ≤ 1048576) (hR : fIsAssignment vars zs = r) :
    Calls Try.prog 23 #[.int .i64 vars, v] w fun e w' => e = .returned (.bool r) ∧ Below w.heap.size w w' := by
  go_enter Try.func23, Try.ntmps23
  go_wp2_with (go_at_call 46; refine (s_l3Good _ _ _ _ h).mono ?_; rintro e w1 ⟨rfl, hq⟩)
  go_ret
  exact ⟨ret_bool hR, hq.below _⟩

theorem I_IsAssignment {hi : Nat} (vars : Int) (v : Value) (zs : List Int) (r : Bool) (w : World) (h : Ints hi w v zs) (hn : zs.length ≤ 1048576) (hR : fIsAssignment vars zs = r) :
    Calls Try.prog 24 #[.int .i64 vars, v] w fun e w' => e = .returned (.bool r) ∧ Below w.heap.size w w' :=
  (i_IsAssignment vars v zs w h).mono fun e w' ⟨he, hq⟩ => ⟨by rw [he, ← hR]; rfl, hq.below _⟩

-- more

set_option maxHeartbeats 400000 in
theorem S_IsPart {hi hi' : Nat} (vars : Int) (va : Value) (a : List Int) (vb : Value) (b : List Int) (r0 : Bool) (r1 : Bool) (w : World) (h1 : Ints hi w va a) (h2 : Ints hi' w vb b) (hn1 : a.length ≤ 1048576) (hn2 : b.length ≤ 1048576) (hR : fIsPart vars a b = (r0, r1)) :
    Calls Try.prog 31 #[.int .i64 vars, va, vb] w fun e w' => e = .returned (.tuple #[.bool r0, .bool r1]) ∧ Below w.heap.size w w' := by
  cases hc0 : clauseB vars a with
  | false =>
    obtain ⟨rfl, rfl⟩ : r0 = false ∧ r1 = false := by simpa [fIsPart, hc0, eq_comm] using hR
    clear hR
    go_enter Try.func31, Try.ntmps31
    go_wp2_with (first | (go_at_call 42; refine (s_l2Clause _ _ _ _ (by first | exact h1 | exact h1.drewN _ | exact h2 | exact h2.drewN _)).mono ?_; rintro e w1 ⟨rfl, m1, rfl⟩))
    go_ret2
    exact ⟨rfl, ⟨rfl, rfl, rfl, Nat.le_refl _, fun _ _ => rfl⟩⟩
  | true =>
    cases hc1 : clauseB vars b with
    | false =>
      obtain ⟨rfl, rfl⟩ : r0 = false ∧ r1 = false := by simpa [fIsPart, hc0, hc1, eq_comm] using hR
      clear hR
      go_enter Try.func31, Try.ntmps31
      go_wp2_with (first | (go_at_call 42; refine (s_l2Clause _ _ _ _ (by first | exact h1 | exact h1.drewN _ | exact h2 | exact h2.drewN _)).mono ?_; rintro e w1 ⟨rfl, m1, rfl⟩))
      go_ret2
      exact ⟨rfl, ⟨rfl, rfl, rfl, Nat.le_refl _, fun _ _ => rfl⟩⟩
    | true =>
      obtain ⟨hr0, hr1⟩ : r0 = subI b a ∧ r1 = true := by simpa [fIsPart, hc0, hc1, eq_comm] using hR
      have HR0 := hide hr0
      clear hr0
      subst hr1
      clear hR
      go_enter Try.func31, Try.ntmps31
      go_wp2_with (first | (go_at_call 42; refine (s_l2Clause _ _ _ _ (by first | exact h1 | exact h1.drewN _ | exact h2 | exact h2.drewN _)).mono ?_; rintro e w1 ⟨rfl, m1, rfl⟩) | (go_at_call 54; refine (s_l2Sub _ _ _ _ _ (by first | exact h1 | exact h1.drewN _) (by first | exact h2 | exact h2.drewN _)).mono ?_; rintro e w2 ⟨rfl, rfl⟩))
      go_ret2
      exact ⟨by rw [HR0.out]; rfl, ⟨rfl, rfl, rfl, Nat.le_refl _, fun _ _ => rfl⟩⟩

set_option maxHeartbeats 400000 in
theorem S_DoesExtend {hi hi' : Nat} (vars : Int) (va : Value) (a : List Int) (vb : Value) (b : List Int) (r0 : Bool) (r1 : Bool) (w : World) (h1 : Ints hi w va a) (h2 : Ints hi' w vb b) (hn1 : a.length ≤ 1048576) (hn2 : b.length ≤ 1048576) (hR : fDoesExtend vars a b = (r0, r1)) :
    Calls Try.prog 33 #[.int .i64 vars, va, vb] w fun e w' => e = .returned (.tuple #[.bool r0, .bool r1]) ∧ Below w.heap.size w w' := by
  cases hc0 : clauseB vars a with
  | false =>
    obtain ⟨rfl, rfl⟩ : r0 = false ∧ r1 = false := by simpa [fDoesExtend, fIsPart, hc0, eq_comm] using hR
    clear hR
    go_enter Try.func33, Try.ntmps33
    go_wp2_with (first | (go_at_call 46; refine (s_l3Good _ _ _ _ (by first | exact h1 | exact h1.drewN _ | exact h2 | exact h2.drewN _)).mono ?_; rintro e w1 ⟨rfl, m1, rfl⟩))
    go_ret2
    exact ⟨rfl, ⟨rfl, rfl, rfl, Nat.le_refl _, fun _ _ => rfl⟩⟩
  | true =>
    cases hc1 : clauseB vars b with
    | false =>
      obtain ⟨rfl, rfl⟩ : r0 = false ∧ r1 = false := by simpa [fDoesExtend, fIsPart, hc0, hc1, eq_comm] using hR
      clear hR
      go_enter Try.func33, Try.ntmps33
      go_wp2_with (first | (go_at_call 46; refine (s_l3Good _ _ _ _ (by first | exact h1 | exact h1.drewN _ | exact h2 | exact h2.drewN _)).mono ?_; rintro e w1 ⟨rfl, m1, rfl⟩))
      go_ret2
      exact ⟨rfl, ⟨rfl, rfl, rfl, Nat.le_refl _, fun _ _ => rfl⟩⟩
    | true =>
      obtain ⟨hr0, hr1⟩ : r0 = subI b a ∧ r1 = true := by simpa [fDoesExtend, fIsPart, hc0, hc1, eq_comm] using hR
      have HR0 := hide hr0
      clear hr0
      subst hr1
      clear hR
      go_enter Try.func33, Try.ntmps33
      go_wp2_with (first | (go_at_call 46; refine (s_l3Good _ _ _ _ (by first | exact h1 | exact h1.drewN _ | exact h2 | exact h2.drewN _)).mono ?_; rintro e w1 ⟨rfl, m1, rfl⟩) | (go_at_call 54; refine (s_l2Sub _ _ _ _ _ (by first | exact h1 | exact h1.drewN _) (by first | exact h2 | exact h2.drewN _)).mono ?_; rintro e w2 ⟨rfl, rfl⟩))
      go_ret2
      exact ⟨by rw [HR0.out]; rfl, ⟨rfl, rfl, rfl, Nat.le_refl _, fun _ _ => rfl⟩⟩

set_option maxHeartbeats 400000 in
theorem S_ValueOfClause {hi hi' : Nat} (vars : Int) (va : Value) (a : List Int) (vb : Value) (b : List Int) (r0 : Int) (r1 : Bool) (w : World) (h1 : Ints hi w va a) (h2 : Ints hi' w vb b) (hn1 : a.length ≤ 1048576) (hn2 : b.length ≤ 1048576) (hR : fValueOfClause vars a b = (r0, r1)) :
    Calls Try.prog 35 #[.int .i64 vars, va, vb] w fun e w' => e = .returned (.tuple #[.int .i64 r0, .bool r1]) ∧ Below w.heap.size w w' := by
  cases hc0 : clauseB vars a with
  | false =>
    obtain ⟨rfl, rfl⟩ : r0 = 0 ∧ r1 = false := by simpa [fValueOfClause, hc0, eq_comm] using hR
    clear hR
    go_enter Try.func35, Try.ntmps35
    go_wp2_with (first | (go_at_call 42; refine (s_l2Clause _ _ _ _ (by first | exact h1 | exact h1.drewN _ | exact h2 | exact h2.drewN _)).mono ?_; rintro e w1 ⟨rfl, m1, rfl⟩) | (go_at_call 46; refine (s_l3Good _ _ _ _ (by first | exact h1 | exact h1.drewN _ | exact h2 | exact h2.drewN _)).mono ?_; rintro e w1 ⟨rfl, m1, rfl⟩))
    go_ret2
    exact ⟨rfl, ⟨rfl, rfl, rfl, Nat.le_refl _, fun _ _ => rfl⟩⟩
  | true =>
    cases hc1 : clauseB vars b with
    | false =>
      obtain ⟨rfl, rfl⟩ : r0 = 0 ∧ r1 = false := by simpa [fValueOfClause, hc0, hc1, eq_comm] using hR
      clear hR
      go_enter Try.func35, Try.ntmps35
      go_wp2_with (first | (go_at_call 42; refine (s_l2Clause _ _ _ _ (by first | exact h1 | exact h1.drewN _ | exact h2 | exact h2.drewN _)).mono ?_; rintro e w1 ⟨rfl, m1, rfl⟩) | (go_at_call 46; refine (s_l3Good _ _ _ _ (by first | exact h1 | exact h1.drewN _ | exact h2 | exact h2.drewN _)).mono ?_; rintro e w1 ⟨rfl, m1, rfl⟩))
      go_ret2
      exact ⟨rfl, ⟨rfl, rfl, rfl, Nat.le_refl _, fun _ _ => rfl⟩⟩
    | true =>
      obtain ⟨hr0, hr1⟩ : r0 = valueI b (-1) a ∧ r1 = true := by simpa [fValueOfClause, hc0, hc1, eq_comm] using hR
      have HR0 := hide hr0
      clear hr0
      subst hr1
      clear hR
      go_enter Try.func35, Try.ntmps35
      go_wp2_with (first | (go_at_call 42; refine (s_l2Clause _ _ _ _ (by first | exact h1 | exact h1.drewN _ | exact h2 | exact h2.drewN _)).mono ?_; rintro e w1 ⟨rfl, m1, rfl⟩) | (go_at_call 46; refine (s_l3Good _ _ _ _ (by first | exact h1 | exact h1.drewN _ | exact h2 | exact h2.drewN _)).mono ?_; rintro e w1 ⟨rfl, m1, rfl⟩) | (go_at_call 56; refine (s_l3Value _ _ _ _ _ (by first | exact h1 | exact h1.drewN _) (by first | exact h2 | exact h2.drewN _)).mono ?_; rintro e w2 ⟨rfl, rfl⟩))
      go_ret2
      exact ⟨by rw [HR0.out]; rfl, ⟨rfl, rfl, rfl, Nat.le_refl _, fun _ _ => rfl⟩⟩

set_option maxHeartbeats 400000 in
theorem S_RemoveVar {hi : Nat} (vars : Int) (va : Value) (a : List Int) (v : Int) (r0 : List Int) (r1 : Bool) (w : World) (h1 : Ints hi w va a) (hn1 : a.length ≤ 1048576) (hR : fRemoveVar vars a v = (r0, r1)) :
    Calls Try.prog 37 #[.int .i64 vars, va, .int .i64 v] w fun e w' => ∃ v', e = .returned (.tuple #[v', .bool r1]) ∧ FInts w.heap.size w'.heap.size w' v' r0 ∧ Below w.heap.size w w' := by
  cases hc0 : clauseB vars a with
  | false =>
    obtain ⟨rfl, rfl⟩ : r0 = [] ∧ r1 = false := by simpa [fRemoveVar, hc0, eq_comm] using hR
    clear hR
    go_enter Try.func37, Try.ntmps37
    go_wp2_with (first | (go_at_call 42; refine (s_l2Clause _ _ _ _ (by first | exact h1 | exact h1.drewN _)).mono ?_; rintro e w1 ⟨rfl, m1, rfl⟩) | (go_at_call 48; refine (s_l1In _ _ _ _).mono ?_; rintro e w1 ⟨rfl, rfl⟩))
    go_ret2
    exact ⟨_, rfl, (OwnI.made _ _ (Nat.le_refl _)).fints, (below_drewN (Below.refl _ _) _).alloc (Nat.le_refl _) _⟩
  | true =>
    cases hc1 : inB v 1 vars with
    | false =>
      obtain ⟨rfl, rfl⟩ : r0 = [] ∧ r1 = false := by simpa [fRemoveVar, hc0, hc1, eq_comm] using hR
      clear hR
      go_enter Try.func37, Try.ntmps37
      go_wp2_with (first | (go_at_call 42; refine (s_l2Clause _ _ _ _ (by first | exact h1 | exact h1.drewN _)).mono ?_; rintro e w1 ⟨rfl, m1, rfl⟩) | (go_at_call 48; refine (s_l1In _ _ _ _).mono ?_; rintro e w1 ⟨rfl, rfl⟩))
      go_ret2
      exact ⟨_, rfl, (OwnI.made _ _ (Nat.le_refl _)).fints, (below_drewN (Below.refl _ _) _).alloc (Nat.le_refl _) _⟩
    | true =>
      obtain ⟨hr0, hr1⟩ : r0 = withoutI v a ∧ r1 = true := by simpa [fRemoveVar, hc0, hc1, eq_comm] using hR
      have HR0 := hide hr0
      clear hr0
      subst hr1
      clear hR
      go_enter Try.func37, Try.ntmps37
      go_wp2_with (first | (go_at_call 42; refine (s_l2Clause _ _ _ _ (by first | exact h1 | exact h1.drewN _)).mono ?_; rintro e w1 ⟨rfl, m1, rfl⟩) | (go_at_call 48; refine (s_l1In _ _ _ _).mono ?_; rintro e w1 ⟨rfl, rfl⟩) | (go_at_call 58; refine (s_l2Without _ _ _ _ (by first | exact h1 | exact h1.drewN _) hn1).mono ?_; rintro e w2 ⟨v2, rfl, hf2, hb2⟩))
      go_ret2
      exact ⟨_, rfl, by rw [HR0.out]; exact hf2, ⟨hb2.os, hb2.tape, hb2.output, hb2.size, hb2.block⟩⟩

set_option maxHeartbeats 400000 in
theorem S_UnsetVar {hi : Nat} (vars : Int) (va : Value) (a : List Int) (v : Int) (r0 : List Int) (r1 : Bool) (w : World) (h1 : Ints hi w va a) (hn1 : a.length ≤ 1048576) (hR : fUnsetVar vars a v = (r0, r1)) :
    Calls Try.prog 39 #[.int .i64 vars, va, .int .i64 v] w fun e w' => ∃ v', e = .returned (.tuple #[v', .bool r1]) ∧ FInts w.heap.size w'.heap.size w' v' r0 ∧ Below w.heap.size w w' := by
  cases hc0 : clauseB vars a with
  | false =>
    obtain ⟨rfl, rfl⟩ : r0 = [] ∧ r1 = false := by simpa [fUnsetVar, fRemoveVar, hc0, eq_comm] using hR
    clear hR
    go_enter Try.func39, Try.ntmps39
    go_wp2_with (first | (go_at_call 46; refine (s_l3Good _ _ _ _ (by first | exact h1 | exact h1.drewN _)).mono ?_; rintro e w1 ⟨rfl, m1, rfl⟩) | (go_at_call 48; refine (s_l1In _ _ _ _).mono ?_; rintro e w1 ⟨rfl, rfl⟩))
    go_ret2
    exact ⟨_, rfl, (OwnI.made _ _ (Nat.le_refl _)).fints, (below_drewN (Below.refl _ _) _).alloc (Nat.le_refl _) _⟩
  | true =>
    cases hc1 : inB v 1 vars with
    | false =>
      obtain ⟨rfl, rfl⟩ : r0 = [] ∧ r1 = false := by simpa [fUnsetVar, fRemoveVar, hc0, hc1, eq_comm] using hR
      clear hR
      go_enter Try.func39, Try.ntmps39
      go_wp2_with (first | (go_at_call 46; refine (s_l3Good _ _ _ _ (by first | exact h1 | exact h1.drewN _)).mono ?_; rintro e w1 ⟨rfl, m1, rfl⟩) | (go_at_call 48; refine (s_l1In _ _ _ _).mono ?_; rintro e w1 ⟨rfl, rfl⟩))
      go_ret2
      exact ⟨_, rfl, (OwnI.made _ _ (Nat.le_refl _)).fints, (below_drewN (Below.refl _ _) _).alloc (Nat.le_refl _) _⟩
    | true =>
      obtain ⟨hr0, hr1⟩ : r0 = withoutI v a ∧ r1 = true := by simpa [fUnsetVar, fRemoveVar, hc0, hc1, eq_comm] using hR
      have HR0 := hide hr0
      clear hr0
      subst hr1
      clear hR
      go_enter Try.func39, Try.ntmps39
      go_wp2_with (first | (go_at_call 46; refine (s_l3Good _ _ _ _ (by first | exact h1 | exact h1.drewN _)).mono ?_; rintro e w1 ⟨rfl, m1, rfl⟩) | (go_at_call 48; refine (s_l1In _ _ _ _).mono ?_; rintro e w1 ⟨rfl, rfl⟩) | (go_at_call 58; refine (s_l2Without _ _ _ _ (by first | exact h1 | exact h1.drewN _) hn1).mono ?_; rintro e w2 ⟨v2, rfl, hf2, hb2⟩))
      go_ret2
      exact ⟨_, rfl, by rw [HR0.out]; exact hf2, ⟨hb2.os, hb2.tape, hb2.output, hb2.size, hb2.block⟩⟩

set_option maxHeartbeats 400000 in
theorem I_IsPart {hi hi' : Nat} (vars : Int) (va : Value) (a : List Int) (vb : Value) (b : List Int) (r0 : Bool) (r1 : Bool) (w : World) (h1 : Ints hi w va a) (h2 : Ints hi' w vb b) (hn1 : a.length ≤ 1048576) (hn2 : b.length ≤ 1048576) (hR : fIsPart vars a b = (r0, r1)) :
    Calls Try.prog 32 #[.int .i64 vars, va, vb] w fun e w' => e = .returned (.tuple #[.bool r0, .bool r1]) ∧ Below w.heap.size w w' := by
  cases hc0 : clauseB vars a with
  | false =>
    obtain ⟨rfl, rfl⟩ : r0 = false ∧ r1 = false := by simpa [fIsPart, hc0, eq_comm] using hR
    clear hR
    go_enter Try.func32, Try.ntmps32
    go_wp2_with (first | (go_at_call 21; refine (i_IsClause _ _ _ _ (by first | exact h1 | exact h1.drewN _ | exact h2 | exact h2.drewN _)).mono ?_; rintro e w1 ⟨rfl, m1, rfl⟩))
    go_ret2
    exact ⟨rfl, ⟨rfl, rfl, rfl, Nat.le_refl _, fun _ _ => rfl⟩⟩
  | true =>
    cases hc1 : clauseB vars b with
    | false =>
      obtain ⟨rfl, rfl⟩ : r0 = false ∧ r1 = false := by simpa [fIsPart, hc0, hc1, eq_comm] using hR
      clear hR
      go_enter Try.func32, Try.ntmps32
      go_wp2_with (first | (go_at_call 21; refine (i_IsClause _ _ _ _ (by first | exact h1 | exact h1.drewN _ | exact h2 | exact h2.drewN _)).mono ?_; rintro e w1 ⟨rfl, m1, rfl⟩))
      go_ret2
      exact ⟨rfl, ⟨rfl, rfl, rfl, Nat.le_refl _, fun _ _ => rfl⟩⟩
    | true =>
      obtain ⟨hr0, hr1⟩ : r0 = subI b a ∧ r1 = true := by simpa [fIsPart, hc0, hc1, eq_comm] using hR
      have HR0 := hide hr0
      clear hr0
      subst hr1
      clear hR
      go_enter Try.func32, Try.ntmps32
      go_wp2_with (first | (go_at_call 21; refine (i_IsClause _ _ _ _ (by first | exact h1 | exact h1.drewN _ | exact h2 | exact h2.drewN _)).mono ?_; rintro e w1 ⟨rfl, m1, rfl⟩) | (go_at_call 55; refine (i_part _ _ _ _ _ (by first | exact h1 | exact h1.drewN _) (by first | exact h2 | exact h2.drewN _)).mono ?_; rintro e w2 ⟨rfl, hb2⟩))
      go_ret2
      exact ⟨by rw [HR0.out]; rfl, ⟨hb2.os, hb2.tape, hb2.output, hb2.size, hb2.block⟩⟩

set_option maxHeartbeats 400000 in
theorem I_DoesExtend {hi hi' : Nat} (vars : Int) (va : Value) (a : List Int) (vb : Value) (b : List Int) (r0 : Bool) (r1 : Bool) (w : World) (h1 : Ints hi w va a) (h2 : Ints hi' w vb b) (hn1 : a.length ≤ 1048576) (hn2 : b.length ≤ 1048576) (hR : fDoesExtend vars a b = (r0, r1)) :
    Calls Try.prog 34 #[.int .i64 vars, va, vb] w fun e w' => e = .returned (.tuple #[.bool r0, .bool r1]) ∧ Below w.heap.size w w' := by
  cases hc0 : clauseB vars a with
  | false =>
    obtain ⟨rfl, rfl⟩ : r0 = false ∧ r1 = false := by simpa [fDoesExtend, fIsPart, hc0, eq_comm] using hR
    clear hR
    go_enter Try.func34, Try.ntmps34
    go_wp2_with (first | (go_at_call 24; refine (i_IsAssignment _ _ _ _ (by first | exact h1 | exact h1.drewN _ | exact h2 | exact h2.drewN _)).mono ?_; rintro e w1 ⟨rfl, m1, rfl⟩))
    go_ret2
    exact ⟨rfl, ⟨rfl, rfl, rfl, Nat.le_refl _, fun _ _ => rfl⟩⟩
  | true =>
    cases hc1 : clauseB vars b with
    | false =>
      obtain ⟨rfl, rfl⟩ : r0 = false ∧ r1 = false := by simpa [fDoesExtend, fIsPart, hc0, hc1, eq_comm] using hR
      clear hR
      go_enter Try.func34, Try.ntmps34
      go_wp2_with (first | (go_at_call 24; refine (i_IsAssignment _ _ _ _ (by first | exact h1 | exact h1.drewN _ | exact h2 | exact h2.drewN _)).mono ?_; rintro e w1 ⟨rfl, m1, rfl⟩))
      go_ret2
      exact ⟨rfl, ⟨rfl, rfl, rfl, Nat.le_refl _, fun _ _ => rfl⟩⟩
    | true =>
      obtain ⟨hr0, hr1⟩ : r0 = subI b a ∧ r1 = true := by simpa [fDoesExtend, fIsPart, hc0, hc1, eq_comm] using hR
      have HR0 := hide hr0
      clear hr0
      subst hr1
      clear hR
      go_enter Try.func34, Try.ntmps34
      go_wp2_with (first | (go_at_call 24; refine (i_IsAssignment _ _ _ _ (by first | exact h1 | exact h1.drewN _ | exact h2 | exact h2.drewN _)).mono ?_; rintro e w1 ⟨rfl, m1, rfl⟩) | (go_at_call 55; refine (i_part _ _ _ _ _ (by first | exact h1 | exact h1.drewN _) (by first | exact h2 | exact h2.drewN _)).mono ?_; rintro e w2 ⟨rfl, hb2⟩))
      go_ret2
      exact ⟨by rw [HR0.out]; rfl, ⟨hb2.os, hb2.tape, hb2.output, hb2.size, hb2.block⟩⟩

set_option maxHeartbeats 400000 in
theorem I_ValueOfClause {hi hi' : Nat} (vars : Int) (va : Value) (a : List Int) (vb : Value) (b : List Int) (r0 : Int) (r1 : Bool) (w : World) (h1 : Ints hi w va a) (h2 : Ints hi' w vb b) (hn1 : a.length ≤ 1048576) (hn2 : b.length ≤ 1048576) (hR : fValueOfClause vars a b = (r0, r1)) :
    Calls Try.prog 36 #[.int .i64 vars, va, vb] w fun e w' => e = .returned (.tuple #[.int .i64 r0, .bool r1]) ∧ Below w.heap.size w w' := by
  cases hc0 : clauseB vars a with
  | false =>
    obtain ⟨rfl, rfl⟩ : r0 = 0 ∧ r1 = false := by simpa [fValueOfClause, hc0, eq_comm] using hR
    clear hR
    go_enter Try.func36, Try.ntmps36
    go_wp2_with (first | (go_at_call 21; refine (i_IsClause _ _ _ _ (by first | exact h1 | exact h1.drewN _ | exact h2 | exact h2.drewN _)).mono ?_; rintro e w1 ⟨rfl, m1, rfl⟩) | (go_at_call 24; refine (i_IsAssignment _ _ _ _ (by first | exact h1 | exact h1.drewN _ | exact h2 | exact h2.drewN _)).mono ?_; rintro e w1 ⟨rfl, m1, rfl⟩))
    go_ret2
    exact ⟨rfl, ⟨rfl, rfl, rfl, Nat.le_refl _, fun _ _ => rfl⟩⟩
  | true =>
    cases hc1 : clauseB vars b with
    | false =>
      obtain ⟨rfl, rfl⟩ : r0 = 0 ∧ r1 = false := by simpa [fValueOfClause, hc0, hc1, eq_comm] using hR
      clear hR
      go_enter Try.func36, Try.ntmps36
      go_wp2_with (first | (go_at_call 21; refine (i_IsClause _ _ _ _ (by first | exact h1 | exact h1.drewN _ | exact h2 | exact h2.drewN _)).mono ?_; rintro e w1 ⟨rfl, m1, rfl⟩) | (go_at_call 24; refine (i_IsAssignment _ _ _ _ (by first | exact h1 | exact h1.drewN _ | exact h2 | exact h2.drewN _)).mono ?_; rintro e w1 ⟨rfl, m1, rfl⟩))
      go_ret2
      exact ⟨rfl, ⟨rfl, rfl, rfl, Nat.le_refl _, fun _ _ => rfl⟩⟩
    | true =>
      obtain ⟨hr0, hr1⟩ : r0 = valueI b (-1) a ∧ r1 = true := by simpa [fValueOfClause, hc0, hc1, eq_comm] using hR
      have HR0 := hide hr0
      clear hr0
      subst hr1
      clear hR
      go_enter Try.func36, Try.ntmps36
      go_wp2_with (first | (go_at_call 21; refine (i_IsClause _ _ _ _ (by first | exact h1 | exact h1.drewN _ | exact h2 | exact h2.drewN _)).mono ?_; rintro e w1 ⟨rfl, m1, rfl⟩) | (go_at_call 24; refine (i_IsAssignment _ _ _ _ (by first | exact h1 | exact h1.drewN _ | exact h2 | exact h2.drewN _)).mono ?_; rintro e w1 ⟨rfl, m1, rfl⟩) | (go_at_call 57; refine (i_clauseValue _ _ _ _ _ (by first | exact h1 | exact h1.drewN _) (by first | exact h2 | exact h2.drewN _)).mono ?_; rintro e w2 ⟨rfl, rfl⟩))
      go_ret2
      exact ⟨by rw [HR0.out]; rfl, ⟨rfl, rfl, rfl, Nat.le_refl _, fun _ _ => rfl⟩⟩

set_option maxHeartbeats 400000 in
theorem I_RemoveVar {hi : Nat} (vars : Int) (va : Value) (a : List Int) (v : Int) (r0 : List Int) (r1 : Bool) (w : World) (h1 : Ints hi w va a) (hn1 : a.length ≤ 1048576) (hR : fRemoveVar vars a v = (r0, r1)) :
    Calls Try.prog 38 #[.int .i64 vars, va, .int .i64 v] w fun e w' => ∃ v', e = .returned (.tuple #[v', .bool r1]) ∧ FInts w.heap.size w'.heap.size w' v' r0 ∧ Below w.heap.size w w' := by
  cases hc0 : clauseB vars a with
  | false =>
    obtain ⟨rfl, rfl⟩ : r0 = [] ∧ r1 = false := by simpa [fRemoveVar, hc0, eq_comm] using hR
    clear hR
    go_enter Try.func38, Try.ntmps38
    go_wp2_with (first | (go_at_call 21; refine (i_IsClause _ _ _ _ (by first | exact h1 | exact h1.drewN _)).mono ?_; rintro e w1 ⟨rfl, m1, rfl⟩) | (go_at_call 59; refine (i_isVar _ _ _).mono ?_; rintro e w1 ⟨rfl, rfl⟩))
    go_ret2
    exact ⟨_, rfl, FInts.nil _ _ _, ⟨rfl, rfl, rfl, Nat.le_refl _, fun _ _ => rfl⟩⟩
  | true =>
    cases hc1 : inB v 1 vars with
    | false =>
      obtain ⟨rfl, rfl⟩ : r0 = [] ∧ r1 = false := by simpa [fRemoveVar, hc0, hc1, eq_comm] using hR
      clear hR
      go_enter Try.func38, Try.ntmps38
      go_wp2_with (first | (go_at_call 21; refine (i_IsClause _ _ _ _ (by first | exact h1 | exact h1.drewN _)).mono ?_; rintro e w1 ⟨rfl, m1, rfl⟩) | (go_at_call 59; refine (i_isVar _ _ _).mono ?_; rintro e w1 ⟨rfl, rfl⟩))
      go_ret2
      exact ⟨_, rfl, FInts.nil _ _ _, ⟨rfl, rfl, rfl, Nat.le_refl _, fun _ _ => rfl⟩⟩
    | true =>
      obtain ⟨hr0, hr1⟩ : r0 = withoutI v a ∧ r1 = true := by simpa [fRemoveVar, hc0, hc1, eq_comm] using hR
      have HR0 := hide hr0
      clear hr0
      subst hr1
      clear hR
      have HW := hide (without_abs (clauseB_small hc0) v)
      go_enter Try.func38, Try.ntmps38
      go_wp2_with (first | (go_at_call 21; refine (i_IsClause _ _ _ _ (by first | exact h1 | exact h1.drewN _)).mono ?_; rintro e w1 ⟨rfl, m1, rfl⟩) | (go_at_call 59; refine (i_isVar _ _ _).mono ?_; rintro e w1 ⟨rfl, rfl⟩) | (go_at_call 60; refine (i_withoutVar _ _ _ _ (by first | exact h1 | exact h1.drewN _) hn1).mono ?_; rintro e w2 ⟨v2, rfl, hf2, hb2⟩))
      go_ret2
      exact ⟨_, rfl, by rw [HR0.out, ← HW.out]; exact hf2, ⟨hb2.os, hb2.tape, hb2.output, hb2.size, hb2.block⟩⟩

set_option maxHeartbeats 400000 in
theorem I_UnsetVar {hi : Nat} (vars : Int) (va : Value) (a : List Int) (v : Int) (r0 : List Int) (r1 : Bool) (w : World) (h1 : Ints hi w va a) (hn1 : a.length ≤ 1048576) (hR : fUnsetVar vars a v = (r0, r1)) :
    Calls Try.prog 40 #[.int .i64 vars, va, .int .i64 v] w fun e w' => ∃ v', e = .returned (.tuple #[v', .bool r1]) ∧ FInts w.heap.size w'.heap.size w' v' r0 ∧ Below w.heap.size w w' := by
  cases hc0 : clauseB vars a with
  | false =>
    obtain ⟨rfl, rfl⟩ : r0 = [] ∧ r1 = false := by simpa [fUnsetVar, fRemoveVar, hc0, eq_comm] using hR
    clear hR
    go_enter Try.func40, Try.ntmps40
    go_wp2_with (first | (go_at_call 24; refine (i_IsAssignment _ _ _ _ (by first | exact h1 | exact h1.drewN _)).mono ?_; rintro e w1 ⟨rfl, m1, rfl⟩) | (go_at_call 59; refine (i_isVar _ _ _).mono ?_; rintro e w1 ⟨rfl, rfl⟩))
    go_ret2
    exact ⟨_, rfl, FInts.nil _ _ _, ⟨rfl, rfl, rfl, Nat.le_refl _, fun _ _ => rfl⟩⟩
  | true =>
    cases hc1 : inB v 1 vars with
    | false =>
      obtain ⟨rfl, rfl⟩ : r0 = [] ∧ r1 = false := by simpa [fUnsetVar, fRemoveVar, hc0, hc1, eq_comm] using hR
      clear hR
      go_enter Try.func40, Try.ntmps40
      go_wp2_with (first | (go_at_call 24; refine (i_IsAssignment _ _ _ _ (by first | exact h1 | exact h1.drewN _)).mono ?_; rintro e w1 ⟨rfl, m1, rfl⟩) | (go_at_call 59; refine (i_isVar _ _ _).mono ?_; rintro e w1 ⟨rfl, rfl⟩))
      go_ret2
      exact ⟨_, rfl, FInts.nil _ _ _, ⟨rfl, rfl, rfl, Nat.le_refl _, fun _ _ => rfl⟩⟩
    | true =>
      obtain ⟨hr0, hr1⟩ : r0 = withoutI v a ∧ r1 = true := by simpa [fUnsetVar, fRemoveVar, hc0, hc1, eq_comm] using hR
      have HR0 := hide hr0
      clear hr0
      subst hr1
      clear hR
      have HW := hide (without_abs (clauseB_small hc0) v)
      go_enter Try.func40, Try.ntmps40
      go_wp2_with (first | (go_at_call 24; refine (i_IsAssignment _ _ _ _ (by first | exact h1 | exact h1.drewN _)).mono ?_; rintro e w1 ⟨rfl, m1, rfl⟩) | (go_at_call 59; refine (i_isVar _ _ _).mono ?_; rintro e w1 ⟨rfl, rfl⟩) | (go_at_call 60; refine (i_withoutVar _ _ _ _ (by first | exact h1 | exact h1.drewN _) hn1).mono ?_; rintro e w2 ⟨v2, rfl, hf2, hb2⟩))
      go_ret2
      exact ⟨_, rfl, by rw [HR0.out, ← HW.out]; exact hf2, ⟨hb2.os, hb2.tape, hb2.output, hb2.size, hb2.block⟩⟩

end Go.Proofs.Ytojppgkhnebipaa
