/- The walks: parts of clauses, the value of a clause, a clause without a variable. -/
import Derived.Test.YtkmkdfogpdndoaaBase
import Derived.Test.YtkmkdfogpdndoaaClause
import Derived.Test.YtkmkdfogpdndoaaHas
import Derived.Test.YtkmkdfogpdndoaaSl
namespace Go.Proofs.Ytkmkdfogpdndoaa
open Go.RowKit
set_option linter.unusedVariables false

set_option maxHeartbeats 400000 in
theorem s_l2Sub {hi hi' : Nat} (va vb : Value) (a b : List Int) (w : World) (h : Ints hi w va a) (h2 : Ints hi' w vb b) :
    Calls Try.prog 94 #[va, vb] w fun e w' => e = .returned (.bool (subI b a)) ∧ w = w' := by
  obtain ⟨A, c, rfl, hc, hm, hrow⟩ := h
  unfold maxLen at hm
  go_enter Try.func94, Try.ntmps94
  go_wp2_with fail
  go_loop [5] (fun i => ∃ k : Nat, k ≤ a.length ∧ i = .int .i64 k ∧ Hid (subI b a = subI b (a.drop k))) (fun i => a.length - (intOf i).toNat)
  case atStart => exact ⟨0, Nat.zero_le _, rfl, rfl⟩
  case round =>
    obtain ⟨k, hk, rfl, hr⟩ := hrel
    by_cases hlt : k < a.length
    · obtain ⟨bk, off, y, rfl, hx, hcw⟩ := hrow.int hlt
      cases hb : hasI b y with
      | true =>
        have HF := hide (show subI b a = subI b (a.drop (k + 1)) by rw [hr.out, hx]; simp [subI, hb])
        clear hx
        go_wp2_with (go_at_call 111; refine (s_l2Has _ _ _ _ h2).mono ?_; rintro e w1 ⟨rfl, rfl⟩)
        go_round
        case rel => exact ⟨k + 1, by omega, by go_num, HF.out⟩
        case measure => simp [intOf]; omega
      | false =>
        have HF := hide (show subI b a = false by rw [hr.out, hx]; simp [subI, hb])
        clear hx
        go_wp2_with (go_at_call 111; refine (s_l2Has _ _ _ _ h2).mono ?_; rintro e w1 ⟨rfl, rfl⟩)
        go_ret
        exact ⟨by rw [HF.out]; rfl, rfl⟩
    · obtain rfl : k = a.length := by omega
      go_wp2_with fail
      go_ret
      exact ⟨by rw [hr.out, List.drop_length]; rfl, rfl⟩

theorem i_part1 {hi : Nat} (x : Int) (vb : Value) (b : List Int) (B : Nat) (w : World) (hc : w.cell? ⟨B, 0, none⟩ = some vb) (h2 : Ints hi w vb b) :
    Calls Try.prog 131 #[.int .i64 x, .pointer (some ⟨B, 0, none⟩)] w fun e w' => e = .returned (.bool (!hasI b x)) ∧ w = w' := by
  go_enter Try.func131, Try.ntmps131
  go_wp2_with (go_at_call 132; refine (g_Contains _ _ _ _ h2).mono ?_; rintro e w1 ⟨rfl, rfl⟩)
  go_ret
  exact ⟨rfl, rfl⟩

set_option maxHeartbeats 400000 in
theorem i_part {hi hi' : Nat} (va vb : Value) (a b : List Int) (w : World) (h : Ints hi w va a) (h2 : Ints hi' w vb b) :
    Calls Try.prog 99 #[va, vb] w fun e w' => e = .returned (.bool (subI b a)) ∧ Below w.heap.size w w' := by
  have eg := Go.Proofs.enters_of Try.func131 (by kernel_rfl) rfl
  obtain ⟨A, c, rfl, hc, hm, hrow⟩ := h
  obtain ⟨A2, c2, rfl, hc2, hm2, hrow2⟩ := id h2
  clear hrow2
  rw [← subI_any]
  have hal : Below w.heap.size w (w.alloc (.cells #[.slice A2 b.length c2] 25)) := (Below.refl _ _).alloc (Nat.le_refl _) _
  have hbox : (w.alloc (.cells #[.slice A2 b.length c2] 25)).cell? ⟨w.heap.size, 0, none⟩ = some (.slice A2 b.length c2) := by simp
  have hrow' := hrow.below hal
  have h2' := h2.below hal
  have hp : Answers Try.prog 131 #[.pointer (some ⟨w.heap.size, 0, none⟩)] (ic a) (a.map fun l => !hasI b l) (w.alloc (.cells #[.slice A2 b.length c2] 25)) := by
    intro j u bb hu hb W hW
    rw [List.getElem?_map] at hu hb
    obtain ⟨z, hz, rfl⟩ := Option.map_eq_some_iff.1 hu
    rw [hz] at hb
    obtain rfl : (!hasI b z) = bb := by simpa using hb
    refine (i_part1 z _ b w.heap.size W (below_old hW _ _ hbox) (h2'.below hW)).mono fun e w' ⟨he, hq⟩ => ⟨he, by rw [← hq]; exact Below.refl _ _⟩
  have HP := hide hp
  have HBX := hide hbox
  clear hp hbox
  go_enter Try.func99, Try.ntmps99
  go_wp2_with fail
  refine (g_ContainsFunc A c _ _ a _ _ hc hm hrow' (by simp) eg HP.out).mono ?_
  rintro e w1 ⟨rfl, hb1⟩
  go_wp2_with fail
  go_ret
  exact ⟨ret_bool (by simp [List.any_map, Function.comp_def]), hal.trans (hb1.mono (by simp))⟩

set_option maxHeartbeats 400000 in
theorem s_l3Value {hi hi' : Nat} (vc va : Value) (c a : List Int) (w : World) (h : Ints hi w vc c) (h2 : Ints hi' w va a) :
    Calls Try.prog 50 #[vc, va] w fun e w' => e = .returned (.int .i64 (valueI a (-1) c)) ∧ w = w' := by
  obtain ⟨A, cp, rfl, hc, hm, hrow⟩ := h
  unfold maxLen at hm
  go_enter Try.func50, Try.ntmps50
  go_wp2_with fail
  go_loop [5, 6] (fun q i => ∃ (k : Nat) (u : Int), k ≤ c.length ∧ i = .int .i64 k ∧ q = .int .i64 u ∧ Hid (valueI a (-1) c = valueI a u (c.drop k))) (fun _ i => c.length - (intOf i).toNat)
  case atStart => exact ⟨0, -1, Nat.zero_le _, rfl, rfl, rfl⟩
  case round =>
    obtain ⟨k, u, hk, rfl, rfl, hr⟩ := hrel
    by_cases hlt : k < c.length
    · obtain ⟨bk, off, y, rfl, hx, hcw⟩ := hrow.int hlt
      cases hb : hasI a y with
      | true =>
        have HF := hide (show valueI a (-1) c = 1 by rw [hr.out, hx, valueI_has hb])
        clear hx
        go_wp2_with (go_at_call 111; refine (s_l2Has _ _ _ _ h2).mono ?_; rintro e w1 ⟨rfl, rfl⟩)
        go_ret
        exact ⟨by rw [HF.out]; rfl, rfl⟩
      | false =>
        cases hb2 : hasI a (wrap64 (-y)) with
        | true =>
          have HF := hide (show valueI a (-1) c = valueI a u (c.drop (k + 1)) by rw [hr.out, hx, valueI_neg hb hb2])
          clear hx
          go_wp2_with (go_at_call 111; refine (s_l2Has _ _ _ _ h2).mono ?_; rintro e w1 ⟨rfl, rfl⟩)
          go_round
          case rel => exact ⟨k + 1, u, by omega, by go_num, rfl, HF.out⟩
          case measure => simp [intOf]; omega
        | false =>
          have HF := hide (show valueI a (-1) c = valueI a 0 (c.drop (k + 1)) by rw [hr.out, hx, valueI_open hb hb2])
          clear hx
          go_wp2_with (go_at_call 111; refine (s_l2Has _ _ _ _ h2).mono ?_; rintro e w1 ⟨rfl, rfl⟩)
          go_round
          case rel => exact ⟨k + 1, 0, by omega, by go_num, rfl, HF.out⟩
          case measure => simp [intOf]; omega
    · obtain rfl : k = c.length := by omega
      go_wp2_with fail
      go_ret
      exact ⟨ret_int (by rw [hr.out, List.drop_length]; rfl), rfl⟩

set_option maxHeartbeats 400000 in
theorem i_clauseValue {hi hi' : Nat} (vc va : Value) (c a : List Int) (w : World) (h : Ints hi w vc c) (h2 : Ints hi' w va a) :
    Calls Try.prog 113 #[vc, va] w fun e w' => e = .returned (.int .i64 (valueI a (-1) c)) ∧ w = w' := by
  obtain ⟨A, cp, rfl, hc, hm, hrow⟩ := h
  unfold maxLen at hm
  go_enter Try.func113, Try.ntmps113
  go_wp2_with fail
  go_loop [5, 10] (fun q i => ∃ (k : Nat) (u : Int), k ≤ c.length ∧ i = .int .i64 k ∧ q = .int .i64 u ∧ Hid (valueI a (-1) c = valueI a u (c.drop k))) (fun _ i => c.length - (intOf i).toNat)
  case atStart => exact ⟨0, -1, Nat.zero_le _, rfl, rfl, rfl⟩
  case round =>
    obtain ⟨k, u, hk, rfl, rfl, hr⟩ := hrel
    by_cases hlt : k < c.length
    · obtain ⟨bk, off, y, rfl, hx, hcw⟩ := hrow.int hlt
      cases hb : hasI a y with
      | true =>
        have HF := hide (show valueI a (-1) c = 1 by rw [hr.out, hx, valueI_has hb])
        clear hx
        go_wp2_with (go_at_call 132; refine (g_Contains _ _ _ _ h2).mono ?_; rintro e w1 ⟨rfl, rfl⟩)
        go_ret
        exact ⟨by rw [HF.out]; rfl, rfl⟩
      | false =>
        cases hb2 : hasI a (wrap64 (-y)) with
        | true =>
          have HF := hide (show valueI a (-1) c = valueI a u (c.drop (k + 1)) by rw [hr.out, hx, valueI_neg hb hb2])
          clear hx
          go_wp2_with (go_at_call 132; refine (g_Contains _ _ _ _ h2).mono ?_; rintro e w1 ⟨rfl, rfl⟩)
          go_round
          case rel => exact ⟨k + 1, u, by omega, by go_num, rfl, HF.out⟩
          case measure => simp [intOf]; omega
        | false =>
          have HF := hide (show valueI a (-1) c = valueI a 0 (c.drop (k + 1)) by rw [hr.out, hx, valueI_open hb hb2])
          clear hx
          go_wp2_with (go_at_call 132; refine (g_Contains _ _ _ _ h2).mono ?_; rintro e w1 ⟨rfl, rfl⟩)
          go_round
          case rel => exact ⟨k + 1, 0, by omega, by go_num, rfl, HF.out⟩
          case measure => simp [intOf]; omega
    · obtain rfl : k = c.length := by omega
      go_wp2_with fail
      go_ret
      exact ⟨ret_int (by rw [hr.out, List.drop_length]; rfl), rfl⟩

end Go.Proofs.Ytkmkdfogpdndoaa
