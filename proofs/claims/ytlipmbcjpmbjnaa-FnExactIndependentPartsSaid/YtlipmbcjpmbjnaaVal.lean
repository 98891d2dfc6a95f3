/- The walks: parts of clauses, the value of a clause, a clause without a variable. -/
import Derived.Test.YtlipmbcjpmbjnaaBase
import Derived.Test.YtlipmbcjpmbjnaaClause
import Derived.Test.YtlipmbcjpmbjnaaHas
import Derived.Test.YtlipmbcjpmbjnaaSl
namespace Go.Proofs.Ytlipmbcjpmbjnaa
open Go.RowKit
set_option linter.unusedVariables false

set_option maxHeartbeats 400000 in
theorem s_l2Sub {hi hi' : Nat} (va vb : Value) (a b : List Int) (w : World) (h : Ints hi w va a) (h2 : Ints hi' w vb b) :
    Calls Try.prog 60 #[va, vb] w fun e w' => e = .returned (.bool (subI b a)) ∧ w = w' := by
  obtain ⟨A, c, rfl, hc, hm, hrow⟩ := h
  unfold maxLen at hm
  go_enter Try.func60, Try.ntmps60
  go_wp2_with fail
  go_loop [5] (fun i => ∃ k : Nat, k ≤ a.length ∧ i = .int .i64 k ∧ Hid (subI b a = subI b (a.drop k))) (fun i => a.length - (intOf i).toNat)
  case atStart => exact ⟨0, Nat.zero_le _, rfl, rfl⟩
  case round =>
    obtain ⟨k, hk, rfl, hr⟩ := hrel
    by_cases hlt : k < a.length
    · obtain ⟨bk, off, y, rfl, hx, hcw⟩ := hrow.int hlt
      cases hb : hasI b y with
      | true =>
        have HF := hide (show subI b a = subI b (a.drop (k + 1)) by rw [hr.out, hx]; simp [subI, hb])
        clear hx
        go_wp2_with (go_at_call 73; refine (s_l2Has _ _ _ _ h2).mono ?_; rintro e w1 ⟨rfl, rfl⟩)
        go_round
        case rel => exact ⟨k + 1, by omega, by go_num, HF.out⟩
        case measure => simp [intOf]; omega
      | false =>
        have HF := hide (show subI b a = false by rw [hr.out, hx]; simp [subI, hb])
        clear hx
        go_wp2_with (go_at_call 73; refine (s_l2Has _ _ _ _ h2).mono ?_; rintro e w1 ⟨rfl, rfl⟩)
        go_ret
        exact ⟨by rw [HF.out]; rfl, rfl⟩
    · obtain rfl : k = a.length := by omega
      go_wp2_with fail
      go_ret
      exact ⟨by rw [hr.out, List.drop_length]; rfl, rfl⟩

set_option maxHeartbeats 400000 in
theorem s_l3Value {hi hi' : Nat} (vc va : Value) (c a : List Int) (w : World) (h : Ints hi w vc c) (h2 : Ints hi' w va a) :
    Calls Try.prog 90 #[vc, va] w fun e w' => e = .returned (.int .i64 (valueI a (-1) c)) ∧ w = w' := by
  obtain ⟨A, cp, rfl, hc, hm, hrow⟩ := h
  unfold maxLen at hm
  go_enter Try.func90, Try.ntmps90
  go_wp2_with fail
  go_loop [5, 6] (fun q i => ∃ (k : Nat) (u : Int), k ≤ c.length ∧ i = .int .i64 k ∧ q = .int .i64 u ∧ Hid (valueI a (-1) c = valueI a u (c.drop k))) (fun _ i => c.length - (intOf i).toNat)
  case atStart => exact ⟨0, -1, Nat.zero_le _, rfl, rfl, rfl⟩
  case round =>
    obtain ⟨k, u, hk, rfl, rfl, hr⟩ := hrel
    by_cases hlt : k < c.length
    · obtain ⟨bk, off, y, rfl, hx, hcw⟩ := hrow.int hlt
      cases hb : hasI a y with
      | true =>
        have HF := hide (show valueI a (-1) c = 1 by rw [hr.out, hx, valueI_has hb])
        clear hx
        go_wp2_with (go_at_call 73; refine (s_l2Has _ _ _ _ h2).mono ?_; rintro e w1 ⟨rfl, rfl⟩)
        go_ret
        exact ⟨by rw [HF.out]; rfl, rfl⟩
      | false =>
        cases hb2 : hasI a (wrap64 (-y)) with
        | true =>
          have HF := hide (show valueI a (-1) c = valueI a u (c.drop (k + 1)) by rw [hr.out, hx, valueI_neg hb hb2])
          clear hx
          go_wp2_with (go_at_call 73; refine (s_l2Has _ _ _ _ h2).mono ?_; rintro e w1 ⟨rfl, rfl⟩)
          go_round
          case rel => exact ⟨k + 1, u, by omega, by go_num, rfl, HF.out⟩
          case measure => simp [intOf]; omega
        | false =>
          have HF := hide (show valueI a (-1) c = valueI a 0 (c.drop (k + 1)) by rw [hr.out, hx, valueI_open hb hb2])
          clear hx
          go_wp2_with (go_at_call 73; refine (s_l2Has _ _ _ _ h2).mono ?_; rintro e w1 ⟨rfl, rfl⟩)
          go_round
          case rel => exact ⟨k + 1, 0, by omega, by go_num, rfl, HF.out⟩
          case measure => simp [intOf]; omega
    · obtain rfl : k = c.length := by omega
      go_wp2_with fail
      go_ret
      exact ⟨ret_int (by rw [hr.out, List.drop_length]; rfl), rfl⟩

set_option maxHeartbeats 400000 in
theorem i_clauseValue {hi hi' : Nat} (vc va : Value) (c a : List Int) (w : World) (h : Ints hi w vc c) (h2 : Ints hi' w va a) :
    Calls Try.prog 91 #[vc, va] w fun e w' => e = .returned (.int .i64 (valueI a (-1) c)) ∧ w = w' := by
  obtain ⟨A, cp, rfl, hc, hm, hrow⟩ := h
  unfold maxLen at hm
  go_enter Try.func91, Try.ntmps91
  go_wp2_with fail
  go_loop [5, 10] (fun q i => ∃ (k : Nat) (u : Int), k ≤ c.length ∧ i = .int .i64 k ∧ q = .int .i64 u ∧ Hid (valueI a (-1) c = valueI a u (c.drop k))) (fun _ i => c.length - (intOf i).toNat)
  case atStart => exact ⟨0, -1, Nat.zero_le _, rfl, rfl, rfl⟩
  case round =>
    obtain ⟨k, u, hk, rfl, rfl, hr⟩ := hrel
    by_cases hlt : k < c.length
    · obtain ⟨bk, off, y, rfl, hx, hcw⟩ := hrow.int hlt
      cases hb : hasI a y with
      | true =>
        have HF := hide (show valueI a (-1) c = 1 by rw [hr.out, hx, valueI_has hb])
        clear hx
        go_wp2_with (go_at_call 76; refine (g_Contains _ _ _ _ h2).mono ?_; rintro e w1 ⟨rfl, rfl⟩)
        go_ret
        exact ⟨by rw [HF.out]; rfl, rfl⟩
      | false =>
        cases hb2 : hasI a (wrap64 (-y)) with
        | true =>
          have HF := hide (show valueI a (-1) c = valueI a u (c.drop (k + 1)) by rw [hr.out, hx, valueI_neg hb hb2])
          clear hx
          go_wp2_with (go_at_call 76; refine (g_Contains _ _ _ _ h2).mono ?_; rintro e w1 ⟨rfl, rfl⟩)
          go_round
          case rel => exact ⟨k + 1, u, by omega, by go_num, rfl, HF.out⟩
          case measure => simp [intOf]; omega
        | false =>
          have HF := hide (show valueI a (-1) c = valueI a 0 (c.drop (k + 1)) by rw [hr.out, hx, valueI_open hb hb2])
          clear hx
          go_wp2_with (go_at_call 76; refine (g_Contains _ _ _ _ h2).mono ?_; rintro e w1 ⟨rfl, rfl⟩)
          go_round
          case rel => exact ⟨k + 1, 0, by omega, by go_num, rfl, HF.out⟩
          case measure => simp [intOf]; omega
    · obtain rfl : k = c.length := by omega
      go_wp2_with fail
      go_ret
      exact ⟨ret_int (by rw [hr.out, List.drop_length]; rfl), rfl⟩

end Go.Proofs.Ytlipmbcjpmbjnaa
