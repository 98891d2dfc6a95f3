/- The walks: total assignments and bits. -/
import Derived.Test.YtojppgkhnebipaaBase
import Derived.Test.YtojppgkhnebipaaClause
namespace Go.Proofs.Ytojppgkhnebipaa
open Go.RowKit
set_option linter.unusedVariables false

set_option maxHeartbeats 400000 in
theorem i_total (n : Nat) (bits : Int) (w : World) (h1 : n ≤ 12) (h2 : 0 ≤ bits) (h3 : bits ≤ 65536) :
    Calls Try.prog 51 #[.int .i64 n, .int .i64 bits] w fun e w' => ∃ v', e = .returned v' ∧ FInts w.heap.size w'.heap.size w' v' (totalL bits n) ∧ Below w.heap.size w w' := by
  go_enter Try.func51, Try.ntmps51
  go_wp2_with fail
  go_loopw [5, 6] (fun v i wr => ∃ k : Nat, k ≤ n ∧ i = .int .i64 (k + 1) ∧ OwnI w.heap.size wr v (totalL bits k) ∧ Below w.heap.size w wr) (fun _ i _ => (n + 1) - (intOf i).toNat)
  case atStart => exact ⟨0, Nat.zero_le _, rfl, OwnI.nil _ _, Below.refl _ _⟩
  case round =>
    obtain ⟨k, hk, rfl, hown, hbel⟩ := hrel
    by_cases hlt : k < n
    · have hsz := hbel.size
      have HL := hide (totalL_length bits k)
      cases hb : bitB bits k with
      | true =>
        have hb' := hb
        unfold bitB at hb'
        go_wp2_with (at_builtin; refine append_int rfl _ _ rfl w.heap.size rfl hown rfl (by rw [HL.out]; omega) hsz ?_; intro v1 w1 hown1 hb1)
        go_roundw
        case rel => exact ⟨k + 1, by omega, by go_num, by rw [totalL, hb]; exact hown1, hbel.trans hb1⟩
        case measure => simp [intOf]; omega
      | false =>
        have hb' := hb
        unfold bitB at hb'
        go_wp2_with (at_builtin; refine append_int rfl _ _ rfl w.heap.size rfl hown rfl (by rw [HL.out]; omega) hsz ?_; intro v1 w1 hown1 hb1)
        go_roundw
        case rel => exact ⟨k + 1, by omega, by go_num, by rw [totalL, hb]; exact hown1, hbel.trans hb1⟩
        case measure => simp [intOf]; omega
    · obtain rfl : k = n := by omega
      go_wp2_with fail
      go_ret
      exact ⟨_, rfl, hown.fints, hbel⟩

set_option maxHeartbeats 400000 in
theorem s_total (n : Nat) (bits : Int) (w : World) (h1 : n ≤ 12) (h2 : 0 ≤ bits) (h3 : bits ≤ 65536) :
    Calls Try.prog 49 #[.int .i64 n, .int .i64 bits] w fun e w' => ∃ v', e = .returned v' ∧ FInts w.heap.size w'.heap.size w' v' (totalL bits n) ∧ Below w.heap.size w w' := by
  go_enter Try.func49, Try.ntmps49
  go_wp2_with fail
  go_loopw [5, 6] (fun v i wr => ∃ k : Nat, k ≤ n ∧ i = .int .i64 (k + 1) ∧ OwnI w.heap.size wr v (totalL bits k) ∧ Below w.heap.size w wr) (fun _ i _ => (n + 1) - (intOf i).toNat)
  case atStart => exact ⟨0, Nat.zero_le _, rfl, OwnI.made _ _ (Nat.le_refl _), (Below.refl _ _).alloc (Nat.le_refl _) _⟩
  case round =>
    obtain ⟨k, hk, rfl, hown, hbel⟩ := hrel
    by_cases hlt : k < n
    · have hsz := hbel.size
      have HL := hide (totalL_length bits k)
      cases hb : bitB bits k with
      | true =>
        have hb' := hb
        unfold bitB at hb'
        go_wp2_with (at_builtin; refine append_int rfl _ _ rfl w.heap.size rfl hown rfl (by rw [HL.out]; omega) hsz ?_; intro v1 w1 hown1 hb1)
        go_roundw
        case rel => exact ⟨k + 1, by omega, by go_num, by rw [totalL, hb]; exact hown1, hbel.trans hb1⟩
        case measure => simp [intOf]; omega
      | false =>
        have hb' := hb
        unfold bitB at hb'
        go_wp2_with (at_builtin; refine append_int rfl _ _ rfl w.heap.size rfl hown rfl (by rw [HL.out]; omega) hsz ?_; intro v1 w1 hown1 hb1)
        go_roundw
        case rel => exact ⟨k + 1, by omega, by go_num, by rw [totalL, hb]; exact hown1, hbel.trans hb1⟩
        case measure => simp [intOf]; omega
    · obtain rfl : k = n := by omega
      go_wp2_with fail
      go_ret
      exact ⟨_, rfl, hown.fints, hbel⟩

theorem S_TotalOf (vars bits : Int) (r0 : List Int) (r1 : Bool) (w : World) (hR : fTotalOf vars bits = (r0, r1)) :
    Calls Try.prog 25 #[.int .i64 vars, .int .i64 bits] w fun e w' => ∃ v', e = .returned (.tuple #[v', .bool r1]) ∧ FInts w.heap.size w'.heap.size w' v' r0 ∧ Below w.heap.size w w' := by
  cases hv : varsB vars with
  | false =>
    obtain ⟨rfl, rfl⟩ : r0 = [] ∧ r1 = false := by simpa [fTotalOf, hv, eq_comm] using hR
    clear hR
    go_enter Try.func25, Try.ntmps25
    go_wp2_with (first | (go_at_call 47; refine (s_l2Vars _ _).mono ?_; rintro e w' ⟨rfl, rfl⟩))
    go_ret2
    exact ⟨_, rfl, (OwnI.made _ _ (Nat.le_refl _)).fints, (Below.refl _ _).alloc (Nat.le_refl _) _⟩
  | true =>
    have hv' : 0 ≤ vars ∧ vars ≤ 12 := by simpa [varsB, inB] using hv
    obtain ⟨n, rfl⟩ := Int.eq_ofNat_of_zero_le hv'.1
    have hn : n ≤ 12 := by omega
    obtain ⟨hp1, hp2⟩ := pow_le hn
    cases hb : inB bits 0 (2 ^ n - 1) with
    | false =>
      obtain ⟨rfl, rfl⟩ : r0 = [] ∧ r1 = false := by simpa [fTotalOf, hv, bitsOkB, hb, eq_comm] using hR
      clear hR
      go_enter Try.func25, Try.ntmps25
      go_wp2_with (first | (go_at_call 47; refine (s_l2Vars _ _).mono ?_; rintro e w' ⟨rfl, rfl⟩) | (go_at_call 48; refine (s_l1In _ _ _ _).mono ?_; rintro e w' ⟨rfl, rfl⟩))
      go_ret2
      exact ⟨_, rfl, (OwnI.made _ _ (Nat.le_refl _)).fints, (Below.refl _ _).alloc (Nat.le_refl _) _⟩
    | true =>
      obtain ⟨rfl, rfl⟩ : r0 = totalL bits n ∧ r1 = true := by simpa [fTotalOf, hv, bitsOkB, hb, eq_comm] using hR
      have hb' : 0 ≤ bits ∧ bits ≤ 2 ^ n - 1 := by simpa [inB] using hb
      clear hR
      go_enter Try.func25, Try.ntmps25
      go_wp2_with (first | (go_at_call 47; refine (s_l2Vars _ _).mono ?_; rintro e w' ⟨rfl, rfl⟩) | (go_at_call 48; refine (s_l1In _ _ _ _).mono ?_; rintro e w' ⟨rfl, rfl⟩) | (go_at_call 49; refine (s_total _ _ _ hn (by omega) (by omega)).mono ?_; rintro e w1 ⟨v1, rfl, hf1, hb1⟩))
      go_ret2
      exact ⟨_, rfl, hf1, hb1⟩

theorem I_TotalOf (vars bits : Int) (r0 : List Int) (r1 : Bool) (w : World) (hR : fTotalOf vars bits = (r0, r1)) :
    Calls Try.prog 26 #[.int .i64 vars, .int .i64 bits] w fun e w' => ∃ v', e = .returned (.tuple #[v', .bool r1]) ∧ FInts w.heap.size w'.heap.size w' v' r0 ∧ Below w.heap.size w w' := by
  cases hv : varsB vars with
  | false =>
    obtain ⟨rfl, rfl⟩ : r0 = [] ∧ r1 = false := by simpa [fTotalOf, hv, eq_comm] using hR
    clear hR
    go_enter Try.func26, Try.ntmps26
    go_wp2_with (first | (go_at_call 45; refine (i_varsOk _ _).mono ?_; rintro e w' ⟨rfl, rfl⟩))
    go_ret2
    exact ⟨_, rfl, FInts.nil _ _ _, Below.refl _ _⟩
  | true =>
    have hv' : 0 ≤ vars ∧ vars ≤ 12 := by simpa [varsB, inB] using hv
    obtain ⟨n, rfl⟩ := Int.eq_ofNat_of_zero_le hv'.1
    have hn : n ≤ 12 := by omega
    obtain ⟨hp1, hp2⟩ := pow_le hn
    cases hb : inB bits 0 (2 ^ n - 1) with
    | false =>
      obtain ⟨rfl, rfl⟩ : r0 = [] ∧ r1 = false := by simpa [fTotalOf, hv, bitsOkB, hb, eq_comm] using hR
      clear hR
      go_enter Try.func26, Try.ntmps26
      go_wp2_with (first | (go_at_call 45; refine (i_varsOk _ _).mono ?_; rintro e w' ⟨rfl, rfl⟩) | (go_at_call 50; refine (i_within _ _ _ _).mono ?_; rintro e w' ⟨rfl, rfl⟩))
      go_ret2
      exact ⟨_, rfl, FInts.nil _ _ _, Below.refl _ _⟩
    | true =>
      obtain ⟨rfl, rfl⟩ : r0 = totalL bits n ∧ r1 = true := by simpa [fTotalOf, hv, bitsOkB, hb, eq_comm] using hR
      have hb' : 0 ≤ bits ∧ bits ≤ 2 ^ n - 1 := by simpa [inB] using hb
      clear hR
      go_enter Try.func26, Try.ntmps26
      go_wp2_with (first | (go_at_call 45; refine (i_varsOk _ _).mono ?_; rintro e w' ⟨rfl, rfl⟩) | (go_at_call 50; refine (i_within _ _ _ _).mono ?_; rintro e w' ⟨rfl, rfl⟩) | (go_at_call 51; refine (i_total _ _ _ hn (by omega) (by omega)).mono ?_; rintro e w1 ⟨v1, rfl, hf1, hb1⟩))
      go_ret2
      exact ⟨_, rfl, hf1, hb1⟩

theorem fTotalOf_len {vars bits : Int} {r0 : List Int} {r1 : Bool} (hR : fTotalOf vars bits = (r0, r1)) : r0.length ≤ 1048576 := by
  unfold fTotalOf at hR
  split at hR
  · rename_i h
    have h' := h
    simp only [Bool.and_eq_true] at h'
    have hv : 0 ≤ vars ∧ vars ≤ 12 := by simpa [varsB, inB] using h'.1
    injection hR with h1 h2
    rw [← h1, totalL_length]
    omega
  · injection hR with h1 h2
    rw [← h1]; simp

set_option maxHeartbeats 400000 in
theorem i_bitsOf {hi : Nat} (v : Value) (zs : List Int) (w : World) (h : Ints hi w v zs) (hl : ∀ l ∈ zs, l ≠ 0 ∧ -12 ≤ l ∧ l ≤ 12) :
    Calls Try.prog 53 #[v] w fun e w' => e = .returned (.int .i64 (bitsL 0 zs)) ∧ w = w' := by
  obtain ⟨A, c, rfl, hc, hm, hrow⟩ := h
  unfold maxLen at hm
  have HL := hide hl
  clear hl
  go_enter Try.func53, Try.ntmps53
  go_wp2_with fail
  go_loop [3, 8] (fun q i => ∃ (k : Nat) (acc : Int), k ≤ zs.length ∧ i = .int .i64 k ∧ q = .int .i64 acc ∧ Hid (bitsL 0 zs = bitsL acc (zs.drop k))) (fun _ i => zs.length - (intOf i).toNat)
  case atStart => exact ⟨0, 0, Nat.zero_le _, rfl, rfl, rfl⟩
  case round =>
    obtain ⟨k, acc, hk, rfl, rfl, hr⟩ := hrel
    by_cases hlt : k < zs.length
    · obtain ⟨b, off, y, rfl, hx, hcw⟩ := hrow.int hlt
      have hy := HL.out y (List.mem_of_getElem? (get_of_drop hx))
      by_cases hp : 0 < y
      · obtain ⟨m, rfl⟩ : ∃ m : Nat, y = (m : Int) + 1 := ⟨(y - 1).toNat, by omega⟩
        obtain ⟨hp1, hp2⟩ := pow_le (n := m) (by omega)
        have HF := hide (show bitsL 0 zs = bitsL (orI acc (2 ^ m)) (zs.drop (k + 1)) by rw [hr.out, hx, bitsL_pos])
        have hd : decide ((0 : Int) < (m : Int) + 1) = true := by simp
        have hm12 : m ≤ 11 := by omega
        clear hx hy
        go_wp2_with fail
        go_round
        case rel => exact ⟨k + 1, _, by omega, by go_num, rfl, HF.out⟩
        case measure => simp [intOf]; omega
      · have HF := hide (show bitsL 0 zs = bitsL acc (zs.drop (k + 1)) by rw [hr.out, hx, bitsL_neg hp])
        have hd : decide ((0 : Int) < y) = false := by simpa using hp
        clear hx hy
        go_wp2_with fail
        go_round
        case rel => exact ⟨k + 1, _, by omega, by go_num, rfl, HF.out⟩
        case measure => simp [intOf]; omega
    · obtain rfl : k = zs.length := by omega
      go_wp2_with fail
      go_ret
      exact ⟨ret_int (by rw [hr.out, List.drop_length]; rfl), rfl⟩

set_option maxHeartbeats 400000 in
theorem s_l3Bits {hi : Nat} (v : Value) (zs : List Int) (w : World) (h : Ints hi w v zs) (hl : ∀ l ∈ zs, l ≠ 0 ∧ -12 ≤ l ∧ l ≤ 12) :
    Calls Try.prog 52 #[v] w fun e w' => (∃ u, e = .returned (.tuple #[.int .i64 (bitsL 0 zs), .int .i64 u])) ∧ w = w' := by
  obtain ⟨A, c, rfl, hc, hm, hrow⟩ := h
  unfold maxLen at hm
  have HL := hide hl
  clear hl
  go_enter Try.func52, Try.ntmps52
  go_wp2_with fail
  go_loop [4, 5, 6] (fun q r i => ∃ (k : Nat) (acc u : Int), k ≤ zs.length ∧ i = .int .i64 k ∧ q = .int .i64 acc ∧ r = .int .i64 u ∧ Hid (bitsL 0 zs = bitsL acc (zs.drop k))) (fun _ _ i => zs.length - (intOf i).toNat)
  case atStart => exact ⟨0, 0, 0, Nat.zero_le _, rfl, rfl, rfl, rfl⟩
  case round =>
    obtain ⟨k, acc, u, hk, rfl, rfl, rfl, hr⟩ := hrel
    by_cases hlt : k < zs.length
    · obtain ⟨b, off, y, rfl, hx, hcw⟩ := hrow.int hlt
      have hy := HL.out y (List.mem_of_getElem? (get_of_drop hx))
      by_cases hp : 0 < y
      · obtain ⟨m, rfl⟩ : ∃ m : Nat, y = (m : Int) + 1 := ⟨(y - 1).toNat, by omega⟩
        obtain ⟨hp1, hp2⟩ := pow_le (n := m) (by omega)
        have HF := hide (show bitsL 0 zs = bitsL (orI acc (2 ^ m)) (zs.drop (k + 1)) by rw [hr.out, hx, bitsL_pos])
        have hd : decide ((0 : Int) < (m : Int) + 1) = true := by simp
        have hm12 : m ≤ 11 := by omega
        have HV := hide (show varW ((m : Int) + 1) = (m : Int) + 1 by unfold varW; rw [if_neg (by omega)])
        clear hx hy
        go_wp2_with (go_at_call 62; refine (s_l2Var _ _).mono ?_; rintro e w' ⟨rfl, rfl⟩; rw [HV.out])
        go_round
        case rel => exact ⟨k + 1, _, _, by omega, by go_num, rfl, rfl, HF.out⟩
        case measure => simp [intOf]; omega
      · obtain ⟨m, hm⟩ : ∃ m : Nat, varW y = (m : Int) + 1 := ⟨(varW y - 1).toNat, by rw [varW_small (by omega)]; omega⟩
        have hm12 : m ≤ 11 := by rw [varW_small (by omega)] at hm; omega
        obtain ⟨hp1, hp2⟩ := pow_le (n := m) (by omega)
        have HF := hide (show bitsL 0 zs = bitsL acc (zs.drop (k + 1)) by rw [hr.out, hx, bitsL_neg hp])
        have hd : decide ((0 : Int) < y) = false := by simpa using hp
        have HM := hide hm
        clear hx hy hm
        go_wp2_with (go_at_call 62; refine (s_l2Var _ _).mono ?_; rintro e w' ⟨rfl, rfl⟩; rw [HM.out])
        go_round
        case rel => exact ⟨k + 1, _, _, by omega, by go_num, rfl, rfl, HF.out⟩
        case measure => simp [intOf]; omega
    · obtain rfl : k = zs.length := by omega
      go_wp2_with fail
      go_ret2
      exact ⟨⟨u, by rw [hr.out, List.drop_length]; rfl⟩, rfl⟩

theorem S_BitsOfTotal {hi : Nat} (vars : Int) (v : Value) (a : List Int) (r0 : Int) (r1 : Bool) (w : World) (h : Ints hi w v a) (hn : a.length ≤ 1048576) (hR : fBitsOfTotal vars a = (r0, r1)) :
    Calls Try.prog 29 #[.int .i64 vars, v] w fun e w' => e = .returned (.tuple #[.int .i64 r0, .bool r1]) ∧ Below w.heap.size w w' := by
  have h0 := h
  obtain ⟨A, c, rfl, hc, hm, hrow⟩ := h0
  clear hrow
  unfold maxLen at hm
  cases hcl : clauseB vars a with
  | false =>
    obtain ⟨rfl, rfl⟩ : r0 = 0 ∧ r1 = false := by simpa [fBitsOfTotal, hcl, eq_comm] using hR
    clear hR
    go_enter Try.func29, Try.ntmps29
    go_wp2_with (go_at_call 46; refine (s_l3Good _ _ _ _ h).mono ?_; rintro e w1 ⟨rfl, hq⟩)
    go_ret2
    exact ⟨rfl, hq.below _⟩
  | true =>
    have hs := clauseB_small hcl
    have HS := hide hs
    clear hs
    cases he : ((a.length : Int) == vars) with
    | false =>
      obtain ⟨rfl, rfl⟩ : r0 = 0 ∧ r1 = false := by simpa [fBitsOfTotal, hcl, he, eq_comm] using hR
      clear hR
      have hne : ((a.length : Int) != vars) = true := by rw [bne, he]; rfl
      go_enter Try.func29, Try.ntmps29
      go_wp2_with (go_at_call 46; refine (s_l3Good _ _ _ _ h).mono ?_; rintro e w1 ⟨rfl, hq⟩)
      go_ret2
      exact ⟨rfl, hq.below _⟩
    | true =>
      obtain ⟨hr0, rfl⟩ : r0 = bitsL 0 a ∧ r1 = true := by simpa [fBitsOfTotal, hcl, he, eq_comm] using hR
      have HR := hide hr0
      clear hR hr0
      have hne : ((a.length : Int) != vars) = false := by rw [bne, he]; rfl
      go_enter Try.func29, Try.ntmps29
      go_wp2_with (first | (go_at_call 46; refine (s_l3Good _ _ _ _ h).mono ?_; rintro e w1 ⟨rfl, hq⟩) | (go_at_call 52; refine (s_l3Bits _ _ _ (h.below (hq.below _)) HS.out).mono ?_; rintro e w2 ⟨⟨u, rfl⟩, rfl⟩))
      go_ret2
      exact ⟨by rw [HR.out]; rfl, hq.below _⟩

theorem I_BitsOfTotal {hi : Nat} (vars : Int) (v : Value) (a : List Int) (r0 : Int) (r1 : Bool) (w : World) (h : Ints hi w v a) (hn : a.length ≤ 1048576) (hR : fBitsOfTotal vars a = (r0, r1)) :
    Calls Try.prog 30 #[.int .i64 vars, v] w fun e w' => e = .returned (.tuple #[.int .i64 r0, .bool r1]) ∧ Below w.heap.size w w' := by
  have h0 := h
  obtain ⟨A, c, rfl, hc, hm, hrow⟩ := h0
  clear hrow
  unfold maxLen at hm
  cases hcl : clauseB vars a with
  | false =>
    obtain ⟨rfl, rfl⟩ : r0 = 0 ∧ r1 = false := by simpa [fBitsOfTotal, hcl, eq_comm] using hR
    clear hR
    go_enter Try.func30, Try.ntmps30
    go_wp2_with (go_at_call 24; refine (i_IsAssignment _ _ _ _ h).mono ?_; rintro e w1 ⟨rfl, hq⟩)
    go_ret2
    exact ⟨rfl, hq.below _⟩
  | true =>
    have hs := clauseB_small hcl
    have HS := hide hs
    clear hs
    cases he : ((a.length : Int) == vars) with
    | false =>
      obtain ⟨rfl, rfl⟩ : r0 = 0 ∧ r1 = false := by simpa [fBitsOfTotal, hcl, he, eq_comm] using hR
      clear hR
      have hne : ((a.length : Int) != vars) = true := by rw [bne, he]; rfl
      go_enter Try.func30, Try.ntmps30
      go_wp2_with (go_at_call 24; refine (i_IsAssignment _ _ _ _ h).mono ?_; rintro e w1 ⟨rfl, hq⟩)
      go_ret2
      exact ⟨rfl, hq.below _⟩
    | true =>
      obtain ⟨hr0, rfl⟩ : r0 = bitsL 0 a ∧ r1 = true := by simpa [fBitsOfTotal, hcl, he, eq_comm] using hR
      have HR := hide hr0
      clear hR hr0
      have hne : ((a.length : Int) != vars) = false := by rw [bne, he]; rfl
      go_enter Try.func30, Try.ntmps30
      go_wp2_with (first | (go_at_call 24; refine (i_IsAssignment _ _ _ _ h).mono ?_; rintro e w1 ⟨rfl, hq⟩) | (go_at_call 53; refine (i_bitsOf _ _ _ (h.below (hq.below _)) HS.out).mono ?_; rintro e w2 ⟨rfl, rfl⟩))
      go_ret2
      exact ⟨by rw [HR.out]; rfl, hq.below _⟩

end Go.Proofs.Ytojppgkhnebipaa
