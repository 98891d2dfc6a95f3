/- The walks: are two slices of ints the same? The program's and the reference's. -/
import Derived.Test.YtlipmbcjpmbjnaaBase
import Derived.Test.YtlipmbcjpmbjnaaClause
namespace Go.Proofs.Ytlipmbcjpmbjnaa
open Go.RowKit
set_option linter.unusedVariables false

theorem same_step {x y : Int} {r s : List Int} : (x :: r == y :: s) = (if x = y then (r == s) else false) := by
  by_cases h : x = y
  · subst h; simp
  · rw [if_neg h, List.cons_beq_cons]; simp [h]

set_option maxHeartbeats 400000 in
theorem s_l1Same {hi hi' : Nat} (va vb : Value) (a b : List Int) (w : World) (h : Ints hi w va a) (h2 : Ints hi' w vb b) :
    Calls Try.prog 81 #[va, vb] w fun e w' => e = .returned (.bool (a == b)) ∧ Quiet w w' := by
  obtain ⟨A, c, rfl, hc, hm, hrow⟩ := h
  obtain ⟨A2, c2, rfl, hc2, hm2, hrow2⟩ := h2
  unfold maxLen at hm hm2
  by_cases hlen : a.length = b.length
  · have HN := hide hlen
    have hd : ((a.length : Int) != (b.length : Int)) = false := by simp; omega
    have hle : (a.length : Int) = (b.length : Int) := by omega
    go_enter Try.func81, Try.ntmps81
    go_wp2_with fail
    go_loopw [5] (fun i wr => ∃ k : Nat, k ≤ a.length ∧ i = .int .i64 k ∧ Hid ((a == b) = (a.drop k == b.drop k)) ∧ Quiet w wr) (fun i _ => a.length - (intOf i).toNat)
    case atStart => exact ⟨0, Nat.zero_le _, rfl, rfl, Quiet.refl _⟩
    case round =>
      obtain ⟨k, hk, rfl, hr, hq⟩ := hrel
      by_cases hlt : k < a.length
      · obtain ⟨b1, off, x, rfl, hx, hcw⟩ := hrow.int hlt
        obtain ⟨b2, off2, y, rfl, hy, hcw2⟩ := hrow2.int (k := k) (by rw [← HN.out]; exact hlt)
        rw [← hq.cell] at hcw hcw2
        have k0 : (0 : Int) ≤ ↑k := by omega
        have k1 : (↑k : Int) < ↑a.length := by omega
        have k2 : (↑k : Int) < ↑b.length := by omega
        by_cases he : x = y
        · have HF := hide (show (a == b) = (a.drop (k + 1) == b.drop (k + 1)) by rw [hr.out, hx, hy, same_step, if_pos he])
          subst he
          clear hx hy
          go_wp2_with fail
          go_quiet (fail)
          go_wp2_with fail
          go_roundw
          case rel => exact ⟨k + 1, by omega, by go_num, HF.out, hq.drewN _⟩
          case measure => simp [intOf]; omega
        · have HF := hide (show (a == b) = false by rw [hr.out, hx, hy, same_step, if_neg he])
          have he' : (x != y) = true := by simpa using he
          clear hx hy
          go_wp2_with fail
          go_quiet (fail)
          go_wp2_with fail
          go_ret
          exact ⟨by rw [HF.out]; rfl, hq.drewN _⟩
      · obtain rfl : k = a.length := by omega
        have HF := hide (show (a == b) = true by rw [hr.out, List.drop_length, HN.out, List.drop_length]; rfl)
        go_wp2_with fail
        go_ret
        exact ⟨by rw [HF.out]; rfl, hq⟩
  · have HF := hide (show (a == b) = false by
      cases h : (a == b) with
      | false => rfl
      | true => exact absurd (congrArg List.length (by simpa using h)) hlen)
    have hd : ((a.length : Int) != (b.length : Int)) = true := by simp; omega
    go_enter Try.func81, Try.ntmps81
    go_wp2_with fail
    go_ret
    exact ⟨by rw [HF.out]; rfl, Quiet.refl _⟩

set_option maxHeartbeats 400000 in
theorem g_EqualI {hi hi' : Nat} (va vb : Value) (a b : List Int) (w : World) (h : Ints hi w va a) (h2 : Ints hi' w vb b) :
    Calls Try.prog 51 #[va, vb] w fun e w' => e = .returned (.bool (a == b)) ∧ Quiet w w' := by
  obtain ⟨A, c, rfl, hc, hm, hrow⟩ := h
  obtain ⟨A2, c2, rfl, hc2, hm2, hrow2⟩ := h2
  unfold maxLen at hm hm2
  by_cases hlen : a.length = b.length
  · have HN := hide hlen
    have hd : ((a.length : Int) != (b.length : Int)) = false := by simp; omega
    have hle : (a.length : Int) = (b.length : Int) := by omega
    go_enter Try.func51, Try.ntmps51
    go_wp2_with fail
    go_loopw [13] (fun i wr => ∃ k : Nat, k ≤ a.length ∧ i = .int .i64 k ∧ Hid ((a == b) = (a.drop k == b.drop k)) ∧ Quiet w wr) (fun i _ => a.length - (intOf i).toNat)
    case atStart => exact ⟨0, Nat.zero_le _, rfl, rfl, Quiet.refl _⟩
    case round =>
      obtain ⟨k, hk, rfl, hr, hq⟩ := hrel
      by_cases hlt : k < a.length
      · obtain ⟨b1, off, x, rfl, hx, hcw⟩ := hrow.int hlt
        obtain ⟨b2, off2, y, rfl, hy, hcw2⟩ := hrow2.int (k := k) (by rw [← HN.out]; exact hlt)
        rw [← hq.cell] at hcw hcw2
        have k0 : (0 : Int) ≤ ↑k := by omega
        have k1 : (↑k : Int) < ↑a.length := by omega
        have k2 : (↑k : Int) < ↑b.length := by omega
        by_cases he : x = y
        · have HF := hide (show (a == b) = (a.drop (k + 1) == b.drop (k + 1)) by rw [hr.out, hx, hy, same_step, if_pos he])
          subst he
          clear hx hy
          go_wp2_with fail
          go_quiet (fail)
          go_wp2_with fail
          go_roundw
          case rel => exact ⟨k + 1, by omega, by go_num, HF.out, hq.drewN _⟩
          case measure => simp [intOf]; omega
        · have HF := hide (show (a == b) = false by rw [hr.out, hx, hy, same_step, if_neg he])
          have he' : (x != y) = true := by simpa using he
          clear hx hy
          go_wp2_with fail
          go_quiet (fail)
          go_wp2_with fail
          go_ret
          exact ⟨by rw [HF.out]; rfl, hq.drewN _⟩
      · obtain rfl : k = a.length := by omega
        have HF := hide (show (a == b) = true by rw [hr.out, List.drop_length, HN.out, List.drop_length]; rfl)
        go_wp2_with fail
        go_ret
        exact ⟨by rw [HF.out]; rfl, hq⟩
  · have HF := hide (show (a == b) = false by
      cases h : (a == b) with
      | false => rfl
      | true => exact absurd (congrArg List.length (by simpa using h)) hlen)
    have hd : ((a.length : Int) != (b.length : Int)) = true := by simp; omega
    go_enter Try.func51, Try.ntmps51
    go_wp2_with fail
    go_ret
    exact ⟨by rw [HF.out]; rfl, Quiet.refl _⟩

end Go.Proofs.Ytlipmbcjpmbjnaa
