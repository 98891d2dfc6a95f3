/- The walks: bounds, literals, clauses, assignments. -/
import Derived.Test.YtlipmbcjpmbjnaaRows
import Derived.Test.YtlipmbcjpmbjnaaLib
import Derived.Test.YtlipmbcjpmbjnaaPlain
namespace Go.Proofs.Ytlipmbcjpmbjnaa
open Go.RowKit
set_option linter.unusedVariables false

theorem i_within (n low high : Int) (w : World) : Calls Try.prog 103 #[.int .i64 n, .int .i64 low, .int .i64 high] w fun e w' => e = .returned (.bool (inB n low high)) ∧ w = w' := by
  by_cases h : low ≤ n
  · have hd : decide (low ≤ n) = true := by simpa using h
    go_enter Try.func103, Try.ntmps103
    go_wp2
    go_ret
    exact ⟨by simp [inB, hd], rfl⟩
  · have hd : decide (low ≤ n) = false := by simpa using h
    go_enter Try.func103, Try.ntmps103
    go_wp2
    go_ret
    exact ⟨by simp [inB, hd], rfl⟩

theorem s_l1In (n low high : Int) (w : World) : Calls Try.prog 100 #[.int .i64 n, .int .i64 low, .int .i64 high] w fun e w' => e = .returned (.bool (inB n low high)) ∧ w = w' := by
  by_cases h : low ≤ n
  · have hd : decide (low ≤ n) = true := by simpa using h
    go_enter Try.func100, Try.ntmps100
    go_wp2
    go_ret
    exact ⟨by simp [inB, hd], rfl⟩
  · have hd : decide (low ≤ n) = false := by simpa using h
    go_enter Try.func100, Try.ntmps100
    go_wp2
    go_ret
    exact ⟨by simp [inB, hd], rfl⟩

theorem i_varsOk (vars : Int) (w : World) : Calls Try.prog 70 #[.int .i64 vars] w fun e w' => e = .returned (.bool (varsB vars)) ∧ w = w' := by
  go_enter Try.func70, Try.ntmps70
  go_wp2_with (go_at_call 103; refine (i_within _ _ _ _).mono ?_; rintro e w' ⟨rfl, rfl⟩)
  go_ret
  exact ⟨rfl, rfl⟩

theorem s_l2Vars (vars : Int) (w : World) : Calls Try.prog 67 #[.int .i64 vars] w fun e w' => e = .returned (.bool (varsB vars)) ∧ w = w' := by
  go_enter Try.func67, Try.ntmps67
  go_wp2_with (go_at_call 100; refine (s_l1In _ _ _ _).mono ?_; rintro e w' ⟨rfl, rfl⟩)
  go_ret
  exact ⟨rfl, rfl⟩

theorem i_abs (l : Int) (w : World) : Calls Try.prog 71 #[.int .i64 l] w fun e w' => e = .returned (.int .i64 (absW l)) ∧ w = w' := by
  go_enter Try.func71, Try.ntmps71
  go_wp2
  all_goals go_ret
  · have h : l < wrap64 (-l) := by assumption
    exact ⟨ret_int (by unfold absW negW; omega), rfl⟩
  · have h : wrap64 (-l) ≤ l := by assumption
    exact ⟨ret_int (by unfold absW negW; omega), rfl⟩

theorem s_l2Var (l : Int) (w : World) : Calls Try.prog 36 #[.int .i64 l] w fun e w' => e = .returned (.int .i64 (varW l)) ∧ w = w' := by
  go_enter Try.func36, Try.ntmps36
  go_wp2
  all_goals go_ret
  · have h : l < 0 := by assumption
    exact ⟨ret_int (by unfold varW; rw [if_pos h]; rfl), rfl⟩
  · have h : 0 ≤ l := by assumption
    exact ⟨ret_int (by unfold varW; rw [if_neg (by omega)]), rfl⟩

theorem i_isLiteral (vars l : Int) (w : World) : Calls Try.prog 102 #[.int .i64 vars, .int .i64 l] w fun e w' => e = .returned (.bool (litB vars l)) ∧ w = w' := by
  by_cases h : l = 0
  · have hd : (l != 0) = false := by simpa using h
    have H := hide h
    clear h
    go_enter Try.func102, Try.ntmps102
    go_wp2_with (go_at_call 103; refine (i_within _ _ _ _).mono ?_; rintro e w' ⟨rfl, rfl⟩)
    go_ret
    exact ⟨by simp [litB, H.out], rfl⟩
  · have hd : (l != 0) = true := by simpa using h
    go_enter Try.func102, Try.ntmps102
    go_wp2_with (go_at_call 103; refine (i_within _ _ _ _).mono ?_; rintro e w' ⟨rfl, rfl⟩)
    go_ret
    exact ⟨by simp [litB, h, negW], rfl⟩

theorem s_l2Lit (vars l : Int) (w : World) : Calls Try.prog 101 #[.int .i64 vars, .int .i64 l] w fun e w' => e = .returned (.bool (litB vars l)) ∧ w = w' := by
  cases hb : inB l (wrap64 (-vars)) vars with
  | false =>
    go_enter Try.func101, Try.ntmps101
    go_wp2_with (go_at_call 100; refine (s_l1In _ _ _ _).mono ?_; rintro e w' ⟨rfl, rfl⟩)
    go_ret
    exact ⟨by simp [litB, negW, hb], rfl⟩
  | true =>
    go_enter Try.func101, Try.ntmps101
    go_wp2_with (go_at_call 100; refine (s_l1In _ _ _ _).mono ?_; rintro e w' ⟨rfl, rfl⟩)
    go_ret
    exact ⟨by by_cases h : l = 0 <;> simp [litB, negW, hb, h], rfl⟩

set_option maxHeartbeats 400000 in
theorem i_IsClause {hi : Nat} (vars : Int) (v : Value) (zs : List Int) (w : World) (h : Ints hi w v zs) :
    Calls Try.prog 69 #[.int .i64 vars, v] w fun e w' => e = .returned (.bool (clauseB vars zs)) ∧ Quiet w w' := by
  rw [← clauseB_impl]
  obtain ⟨A, c, rfl, hc, hm, hrow⟩ := h
  unfold maxLen at hm
  go_enter Try.func69, Try.ntmps69
  go_wp2_with fail
  go_loopw [9] (fun i wr => ∃ k : Nat, k ≤ zs.length ∧ i = .int .i64 k ∧ Hid (risesI vars none zs = risesI vars (prevAt zs k) (zs.drop k)) ∧ Quiet w wr) (fun i _ => zs.length - (intOf i).toNat)
  case atStart => exact ⟨0, Nat.zero_le _, rfl, rfl, Quiet.refl _⟩
  case round =>
    obtain ⟨k, hk, rfl, hr, hq⟩ := hrel
    by_cases hlt : k < zs.length
    · obtain ⟨b, off, x, rfl, hx, hcw⟩ := hrow.int hlt
      rw [← hq.cell] at hcw
      cases hl : litB vars x with
      | false =>
        have hfin : risesI vars none zs = false := by rw [hr.out, hx]; cases prevAt zs k <;> simp [risesI, hl]
        have HF := hide hfin
        have HX := hide hx
        clear hfin hx
        go_wp2_with fail
        go_quiet (first | (go_at_call 102; exact quietE (i_isLiteral _ _ _)) | (go_at_call 71; exact quietE (i_abs _ _)))
        go_wp2_with fail
        go_ret
        exact ⟨by rw [HF.out]; rfl, hq.drewN _⟩
      | true =>
        by_cases hp : k = 0
        · have hd : decide (0 < k) = false := by simp; omega
          have hfin : risesI vars none zs = risesI vars (prevAt zs (k + 1)) (zs.drop (k + 1)) := by
            rw [hr.out, hx, show prevAt zs (k + 1) = some x from get_of_drop hx, hp]
            simp [risesI, prevAt, hl]
          have HF := hide hfin
          have HP := hide hp
          clear hfin hx hp
          go_wp2_with fail
          go_quiet (first | (go_at_call 102; exact quietE (i_isLiteral _ _ _)) | (go_at_call 71; exact quietE (i_abs _ _)))
          go_wp2_with fail
          go_roundw
          case rel => exact ⟨k + 1, by omega, by go_num, HF.out, hq.drewN _⟩
          case measure => simp [intOf]; omega
        · have hd : decide (0 < k) = true := by simp; omega
          obtain ⟨b', off', p, e, hx', hcp⟩ := hrow.int (k := k - 1) (by omega)
          obtain ⟨rfl, rfl⟩ : b' = b ∧ off' = off := by simpa using e.symm
          rw [← hq.cell] at hcp
          have hprev : prevAt zs k = some p := by rw [prevAt_pos (by omega)]; exact get_of_drop hx'
          clear e hx'
          cases ha : decide (absW x ≤ absW p) with
          | true =>
            have hfin : risesI vars none zs = false := by rw [hr.out, hx, hprev]; simp [risesI, hl, ha]
            have HF := hide hfin
            clear hfin hx hprev
            go_wp2_with fail
            go_quiet (first | (go_at_call 102; exact quietE (i_isLiteral _ _ _)) | (go_at_call 71; exact quietE (i_abs _ _)))
            go_wp2_with fail
            go_ret
            exact ⟨by rw [HF.out]; rfl, hq.drewN _⟩
          | false =>
            have hfin : risesI vars none zs = risesI vars (prevAt zs (k + 1)) (zs.drop (k + 1)) := by
              rw [hr.out, hx, show prevAt zs (k + 1) = some x from get_of_drop hx, hprev]
              simp [risesI, hl, ha]
            have HF := hide hfin
            clear hfin hx hprev
            go_wp2_with fail
            go_quiet (first | (go_at_call 102; exact quietE (i_isLiteral _ _ _)) | (go_at_call 71; exact quietE (i_abs _ _)))
            go_wp2_with fail
            go_roundw
            case rel => exact ⟨k + 1, by omega, by go_num, HF.out, hq.drewN _⟩
            case measure => simp [intOf]; omega
    · obtain rfl : k = zs.length := by omega
      go_wp2_with (go_at_call 70; refine (i_varsOk _ _).mono ?_; rintro e w' ⟨rfl, rfl⟩)
      go_ret
      exact ⟨by rw [hr.out, List.drop_length]; cases prevAt zs zs.length <;> rfl, hq⟩

set_option maxHeartbeats 400000 in
theorem s_l2Clause {hi : Nat} (vars : Int) (v : Value) (zs : List Int) (w : World) (h : Ints hi w v zs) :
    Calls Try.prog 68 #[.int .i64 vars, v] w fun e w' => e = .returned (.bool (clauseB vars zs)) ∧ Quiet w w' := by
  obtain ⟨A, c, rfl, hc, hm, hrow⟩ := h
  unfold maxLen at hm
  cases hv : varsB vars with
  | false =>
    go_enter Try.func68, Try.ntmps68
    go_wp2_with (go_at_call 67; refine (s_l2Vars _ _).mono ?_; rintro e w' ⟨rfl, rfl⟩)
    go_ret
    exact ⟨by simp [clauseB, hv], Quiet.refl _⟩
  | true =>
    have hr0 : clauseB vars zs = risesS vars none zs := by simp [clauseB, hv]
    rw [hr0]
    clear hr0
    go_enter Try.func68, Try.ntmps68
    go_wp2_with (go_at_call 67; refine (s_l2Vars _ _).mono ?_; rintro e w' ⟨rfl, rfl⟩)
    go_loopw [5] (fun i wr => ∃ k : Nat, k ≤ zs.length ∧ i = .int .i64 k ∧ Hid (risesS vars none zs = risesS vars (prevAt zs k) (zs.drop k)) ∧ Quiet w wr) (fun i _ => zs.length - (intOf i).toNat)
    case atStart => exact ⟨0, Nat.zero_le _, rfl, rfl, Quiet.refl _⟩
    case round =>
      obtain ⟨k, hk, rfl, hr, hq⟩ := hrel
      by_cases hlt : k < zs.length
      · obtain ⟨b, off, x, rfl, hx, hcw⟩ := hrow.int hlt
        rw [← hq.cell] at hcw
        cases hl : litB vars x with
        | false =>
          have hfin : risesS vars none zs = false := by rw [hr.out, hx]; cases prevAt zs k <;> simp [risesS, hl]
          have HF := hide hfin
          clear hfin hx
          go_wp2_with fail
          go_quiet (first | (go_at_call 101; exact quietE (s_l2Lit _ _ _)) | (go_at_call 36; exact quietE (s_l2Var _ _)))
          go_wp2_with fail
          go_ret
          exact ⟨by rw [HF.out]; rfl, hq.drewN _⟩
        | true =>
          by_cases hp : k = 0
          · have hd : decide (0 < k) = false := by simp; omega
            have hfin : risesS vars none zs = risesS vars (prevAt zs (k + 1)) (zs.drop (k + 1)) := by
              rw [hr.out, hx, show prevAt zs (k + 1) = some x from get_of_drop hx, hp]
              simp [risesS, prevAt, hl]
            have HF := hide hfin
            have HP := hide hp
            clear hfin hx hp
            go_wp2_with fail
            go_quiet (first | (go_at_call 101; exact quietE (s_l2Lit _ _ _)) | (go_at_call 36; exact quietE (s_l2Var _ _)))
            go_wp2_with fail
            go_roundw
            case rel => exact ⟨k + 1, by omega, by go_num, HF.out, hq.drewN _⟩
            case measure => simp [intOf]; omega
          · have hd : decide (0 < k) = true := by simp; omega
            obtain ⟨b', off', p, e, hx', hcp⟩ := hrow.int (k := k - 1) (by omega)
            obtain ⟨rfl, rfl⟩ : b' = b ∧ off' = off := by simpa using e.symm
            rw [← hq.cell] at hcp
            have hprev : prevAt zs k = some p := by rw [prevAt_pos (by omega)]; exact get_of_drop hx'
            clear e hx'
            cases ha : decide (varW x ≤ varW p) with
            | true =>
              have hfin : risesS vars none zs = false := by rw [hr.out, hx, hprev]; simp [risesS, hl, ha]
              have HF := hide hfin
              clear hfin hx hprev
              go_wp2_with fail
              go_quiet (first | (go_at_call 101; exact quietE (s_l2Lit _ _ _)) | (go_at_call 36; exact quietE (s_l2Var _ _)))
              go_wp2_with fail
              go_ret
              exact ⟨by rw [HF.out]; rfl, hq.drewN _⟩
            | false =>
              have hfin : risesS vars none zs = risesS vars (prevAt zs (k + 1)) (zs.drop (k + 1)) := by
                rw [hr.out, hx, show prevAt zs (k + 1) = some x from get_of_drop hx, hprev]
                simp [risesS, hl, ha]
              have HF := hide hfin
              clear hfin hx hprev
              go_wp2_with fail
              go_quiet (first | (go_at_call 101; exact quietE (s_l2Lit _ _ _)) | (go_at_call 36; exact quietE (s_l2Var _ _)))
              go_wp2_with fail
              go_roundw
              case rel => exact ⟨k + 1, by omega, by go_num, HF.out, hq.drewN _⟩
              case measure => simp [intOf]; omega
      · obtain rfl : k = zs.length := by omega
        go_wp2_with fail
        go_ret
        exact ⟨by rw [hr.out, List.drop_length]; cases prevAt zs zs.length <;> rfl, hq⟩

theorem s_l3Good {hi : Nat} (vars : Int) (v : Value) (zs : List Int) (w : World) (h : Ints hi w v zs) :
    Calls Try.prog 88 #[.int .i64 vars, v] w fun e w' => e = .returned (.bool (clauseB vars zs)) ∧ Quiet w w' := by
  go_enter Try.func88, Try.ntmps88
  go_wp2_with (go_at_call 68; refine (s_l2Clause _ _ _ _ h).mono ?_; rintro e w1 ⟨rfl, hq⟩)
  go_ret
  exact ⟨rfl, hq⟩

theorem i_IsAssignment {hi : Nat} (vars : Int) (v : Value) (zs : List Int) (w : World) (h : Ints hi w v zs) :
    Calls Try.prog 54 #[.int .i64 vars, v] w fun e w' => e = .returned (.bool (clauseB vars zs)) ∧ Quiet w w' := by
  go_enter Try.func54, Try.ntmps54
  go_wp2_with (go_at_call 69; refine (i_IsClause _ _ _ _ h).mono ?_; rintro e w1 ⟨rfl, hq⟩)
  go_ret
  exact ⟨rfl, hq⟩

end Go.Proofs.Ytlipmbcjpmbjnaa
