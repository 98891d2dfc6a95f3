/- The walks: total assignments and bits. -/
import Derived.Test.YtkmkdfogpdndoaaBase
import Derived.Test.YtkmkdfogpdndoaaClause
namespace Go.Proofs.Ytkmkdfogpdndoaa
open Go.RowKit
set_option linter.unusedVariables false

set_option maxHeartbeats 400000 in
theorem i_total (n : Nat) (bits : Int) (w : World) (h1 : n ≤ 12) (h2 : 0 ≤ bits) (h3 : bits ≤ 65536) :
    Calls Try.prog 81 #[.int .i64 n, .int .i64 bits] w fun e w' => ∃ v', e = .returned v' ∧ FInts w.heap.size w'.heap.size w' v' (totalL bits n) ∧ Below w.heap.size w w' := by
  go_enter Try.func81, Try.ntmps81
  go_wp2_with fail
  go_loopw [5, 6] (fun v i wr => ∃ k : Nat, k ≤ n ∧ i = .int .i64 (k + 1) ∧ OwnI w.heap.size wr v (totalL bits k) ∧ Below w.heap.size w wr) (fun _ i _ => (n + 1) - (intOf i).toNat)
  case atStart => exact ⟨0, Nat.zero_le _, rfl, OwnI.nil _ _, Below.refl _ _⟩
  case round =>
    obtain ⟨k, hk, rfl, hown, hbel⟩ := hrel
    by_cases hlt : k < n
    · have hsz := hbel.size
      have HL := hide (totalL_length bits k)
      cases hb : bitB bits k with
      | true =>
        have hb' := hb
        unfold bitB at hb'
        go_wp2_with (at_builtin; refine append_int rfl _ _ rfl w.heap.size rfl hown rfl (by rw [HL.out]; omega) hsz ?_; intro v1 w1 hown1 hb1)
        go_roundw
        case rel => exact ⟨k + 1, by omega, by go_num, by rw [totalL, hb]; exact hown1, hbel.trans hb1⟩
        case measure => simp [intOf]; omega
      | false =>
        have hb' := hb
        unfold bitB at hb'
        go_wp2_with (at_builtin; refine append_int rfl _ _ rfl w.heap.size rfl hown rfl (by rw [HL.out]; omega) hsz ?_; intro v1 w1 hown1 hb1)
        go_roundw
        case rel => exact ⟨k + 1, by omega, by go_num, by rw [totalL, hb]; exact hown1, hbel.trans hb1⟩
        case measure => simp [intOf]; omega
    · obtain rfl : k = n := by omega
      go_wp2_with fail
      go_ret
      exact ⟨_, rfl, hown.fints, hbel⟩

theorem fTotalOf_len {vars bits : Int} {r0 : List Int} {r1 : Bool} (hR : fTotalOf vars bits = (r0, r1)) : r0.length ≤ 1048576 := by
  unfold fTotalOf at hR
  split at hR
  · rename_i h
    have h' := h
    simp only [Bool.and_eq_true] at h'
    have hv : 0 ≤ vars ∧ vars ≤ 12 := by simpa [varsB, inB] using h'.1
    injection hR with h1 h2
    rw [← h1, totalL_length]
    omega
  · injection hR with h1 h2
    rw [← h1]; simp

end Go.Proofs.Ytkmkdfogpdndoaa
