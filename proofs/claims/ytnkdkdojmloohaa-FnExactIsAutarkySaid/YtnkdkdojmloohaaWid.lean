/- The walks: the width of a formula, its value under an assignment, equivalence. -/
import Derived.Test.YtnkdkdojmloohaaTopC
import Derived.Test.YtnkdkdojmloohaaVal
namespace Go.Proofs.Ytnkdkdojmloohaa
open Go.RowKit
set_option linter.unusedVariables false

def maxT : Nat → List (List Int) → Nat
  | m, [] => m
  | m, c :: r => maxT (if m < c.length then c.length else m) r

def minV (a : List Int) : Int → List (List Int) → Int
  | m, [] => m
  | m, c :: r => minV a (if valueI a (-1) c < m then valueI a (-1) c else m) r

theorem s_l1Most_up (a b : Int) (w : World) (h : a ≤ b) : Calls Try.prog 94 #[.int .i64 a, .int .i64 b] w fun e w' => e = .returned (.int .i64 b) ∧ w = w' := by
  have hd : ¬ (b < a) := by omega
  go_enter Try.func94, Try.ntmps94
  go_wp2_with fail
  go_ret
  exact ⟨rfl, rfl⟩

theorem s_l1Most_dn (a b : Int) (w : World) (h : b < a) : Calls Try.prog 94 #[.int .i64 a, .int .i64 b] w fun e w' => e = .returned (.int .i64 a) ∧ w = w' := by
  go_enter Try.func94, Try.ntmps94
  go_wp2_with fail
  go_ret
  exact ⟨rfl, rfl⟩

theorem s_l1Least_up (a b : Int) (w : World) (h : b ≤ a) : Calls Try.prog 101 #[.int .i64 a, .int .i64 b] w fun e w' => e = .returned (.int .i64 b) ∧ w = w' := by
  have hd : ¬ (a < b) := by omega
  go_enter Try.func101, Try.ntmps101
  go_wp2_with fail
  go_ret
  exact ⟨rfl, rfl⟩

theorem s_l1Least_dn (a b : Int) (w : World) (h : a < b) : Calls Try.prog 101 #[.int .i64 a, .int .i64 b] w fun e w' => e = .returned (.int .i64 a) ∧ w = w' := by
  go_enter Try.func101, Try.ntmps101
  go_wp2_with fail
  go_ret
  exact ⟨rfl, rfl⟩

set_option maxHeartbeats 400000 in
theorem i_widthOf {hi : Nat} (v : Value) (t : List (List Int)) (w : World) (h : Tab hi w v t) :
    Calls Try.prog 57 #[v] w fun e w' => e = .returned (.int .i64 (maxT 0 t : Nat)) ∧ Quiet w w' := by
  obtain ⟨A, c, ps, rfl, hc, hm, rfl, hrow, hps⟩ := h.open_
  unfold maxLen at hm
  go_enter Try.func57, Try.ntmps57
  go_wp2_with fail
  go_loopw [3, 8] (fun q i wr => ∃ k m : Nat, k ≤ ps.length ∧ i = .int .i64 k ∧ q = .int .i64 m ∧ Hid (maxT 0 (ps.map (·.2)) = maxT m ((ps.drop k).map (·.2))) ∧ Quiet w wr) (fun _ i _ => ps.length - (intOf i).toNat)
  case atStart => exact ⟨0, 0, Nat.zero_le _, rfl, rfl, rfl, Quiet.refl _⟩
  case round =>
    obtain ⟨k, m, hk, rfl, rfl, hr, hq⟩ := hrel
    by_cases hlt : k < ps.length
    · obtain ⟨b, off, u, z, rfl, hx, hcw, hz⟩ := hrow.tab hps hlt
      rw [← hq.cell] at hcw
      obtain ⟨A1, c1, rfl, hc1, hm1, -⟩ := id hz
      obtain ⟨n, hn⟩ : ∃ n, z.length = n := ⟨_, rfl⟩
      by_cases hmx : m < n
      · have HF := hide (show maxT 0 (ps.map (·.2)) = maxT n ((ps.drop (k + 1)).map (·.2)) by rw [hr.out, hx]; simp [maxT, hn, hmx])
        rw [hn] at hcw
        clear hx hz hn
        go_wp2_with fail
        go_roundw
        case rel => exact ⟨k + 1, n, by omega, by go_num, by first | rfl | (congr 1; omega), HF.out, hq⟩
        case measure => simp [intOf]; omega
      · have HF := hide (show maxT 0 (ps.map (·.2)) = maxT m ((ps.drop (k + 1)).map (·.2)) by rw [hr.out, hx]; simp [maxT, hn, hmx])
        rw [hn] at hcw
        clear hx hz hn
        go_wp2_with fail
        go_roundw
        case rel => exact ⟨k + 1, m, by omega, by go_num, by first | rfl | (congr 1; omega), HF.out, hq⟩
        case measure => simp [intOf]; omega
    · obtain rfl : k = ps.length := by omega
      go_wp2_with fail
      go_ret
      exact ⟨ret_int (by rw [hr.out, List.drop_length]; rfl), hq⟩

set_option maxHeartbeats 400000 in
theorem s_l2Width {hi : Nat} (v : Value) (t : List (List Int)) (w : World) (h : Tab hi w v t) :
    Calls Try.prog 56 #[v] w fun e w' => e = .returned (.int .i64 (maxT 0 t : Nat)) ∧ Quiet w w' := by
  obtain ⟨A, c, ps, rfl, hc, hm, rfl, hrow, hps⟩ := h.open_
  unfold maxLen at hm
  go_enter Try.func56, Try.ntmps56
  go_wp2_with fail
  go_loopw [3, 4] (fun q i wr => ∃ k m : Nat, k ≤ ps.length ∧ i = .int .i64 k ∧ q = .int .i64 m ∧ Hid (maxT 0 (ps.map (·.2)) = maxT m ((ps.drop k).map (·.2))) ∧ Quiet w wr) (fun _ i _ => ps.length - (intOf i).toNat)
  case atStart => exact ⟨0, 0, Nat.zero_le _, rfl, rfl, rfl, Quiet.refl _⟩
  case round =>
    obtain ⟨k, m, hk, rfl, rfl, hr, hq⟩ := hrel
    by_cases hlt : k < ps.length
    · obtain ⟨b, off, u, z, rfl, hx, hcw, hz⟩ := hrow.tab hps hlt
      rw [← hq.cell] at hcw
      obtain ⟨A1, c1, rfl, hc1, hm1, -⟩ := id hz
      obtain ⟨n, hn⟩ : ∃ n, z.length = n := ⟨_, rfl⟩
      by_cases hmx : m < n
      · have HF := hide (show maxT 0 (ps.map (·.2)) = maxT n ((ps.drop (k + 1)).map (·.2)) by rw [hr.out, hx]; simp [maxT, hn, hmx])
        rw [hn] at hcw
        clear hx hz hn
        go_wp2_with (go_at_call 94; refine (s_l1Most_up _ _ _ (by omega)).mono ?_; rintro e w1 ⟨rfl, rfl⟩)
        go_roundw
        case rel => exact ⟨k + 1, n, by omega, by go_num, rfl, HF.out, hq⟩
        case measure => simp [intOf]; omega
      · have HF := hide (show maxT 0 (ps.map (·.2)) = maxT m ((ps.drop (k + 1)).map (·.2)) by rw [hr.out, hx]; simp [maxT, hn, hmx])
        rw [hn] at hcw
        clear hx hz hn
        by_cases heq : m = n
        · subst heq
          go_wp2_with (go_at_call 94; refine (s_l1Most_up _ _ _ (by omega)).mono ?_; rintro e w1 ⟨rfl, rfl⟩)
          go_roundw
          case rel => exact ⟨k + 1, m, by omega, by go_num, rfl, HF.out, hq⟩
          case measure => simp [intOf]; omega
        · go_wp2_with (go_at_call 94; refine (s_l1Most_dn _ _ _ (by omega)).mono ?_; rintro e w1 ⟨rfl, rfl⟩)
          go_roundw
          case rel => exact ⟨k + 1, m, by omega, by go_num, rfl, HF.out, hq⟩
          case measure => simp [intOf]; omega
    · obtain rfl : k = ps.length := by omega
      go_wp2_with fail
      go_ret
      exact ⟨ret_int (by rw [hr.out, List.drop_length]; rfl), hq⟩

def fWidthOfCnf (f : CnfL) : Int × Bool := if goodB f then ((maxT 0 f.2 : Nat), true) else (0, false)

set_option maxHeartbeats 400000 in
theorem S_WidthOfCnf {hi : Nat} (v : Value) (f : CnfL) (r0 : Int) (r1 : Bool) (w : World) (h : RCnf hi w v f) (hn0 : szC f ≤ 1048576) (hR : fWidthOfCnf f = (r0, r1)) :
    Calls Try.prog 24 #[v] w fun e w' => e = .returned (.tuple #[.int .i64 r0, .bool r1]) ∧ Below w.heap.size w w' := by
  obtain ⟨A, n, c, rfl, ht⟩ := h.open2
  obtain ⟨vars, t⟩ := f
  dsimp only at ht ⊢
  have hal : Below w.heap.size w (w.alloc (.cells #[.int .i64 vars, .slice A n c] 27)) := (Below.refl _ _).alloc (Nat.le_refl _) _
  have htb := ht.top.below hal
  cases hg : goodB (vars, t) with
  | false =>
    obtain ⟨rfl, rfl⟩ : r0 = 0 ∧ r1 = false := by simpa [fWidthOfCnf, hg, eq_comm] using hR
    clear hR
    go_enter Try.func24, Try.ntmps24
    go_wp2_with (go_at_call 48; refine (s_l2Good _ (vars, t) _ ⟨_, rfl, htb⟩).mono ?_; rintro e w1 ⟨rfl, hb1⟩)
    go_ret2
    exact ⟨rfl, (box2 hb1).2.2.1⟩
  | true =>
    obtain ⟨hr0, rfl⟩ : r0 = (maxT 0 t : Nat) ∧ r1 = true := by simpa [fWidthOfCnf, hg, eq_comm] using hR
    have HR := hide hr0
    clear hR hr0
    go_enter Try.func24, Try.ntmps24
    go_wp2_with (first | (go_at_call 48; refine (s_l2Good _ (vars, t) _ ⟨_, rfl, htb⟩).mono ?_; rintro e w1 ⟨rfl, hb1⟩; obtain ⟨c0, c1, hbw, hsz⟩ := box2 hb1) | (go_at_call 56; refine (s_l2Width _ t _ (htb.below hb1)).mono ?_; rintro e w2 ⟨rfl, hq2⟩))
    go_ret2
    exact ⟨by rw [HR.out]; rfl, hbw.trans (hq2.below _)⟩

set_option maxHeartbeats 400000 in
theorem I_WidthOfCnf {hi : Nat} (v : Value) (f : CnfL) (r0 : Int) (r1 : Bool) (w : World) (h : RCnf hi w v f) (hn0 : szC f ≤ 1048576) (hR : fWidthOfCnf f = (r0, r1)) :
    Calls Try.prog 25 #[v] w fun e w' => e = .returned (.tuple #[.int .i64 r0, .bool r1]) ∧ Below w.heap.size w w' := by
  obtain ⟨A, n, c, rfl, ht⟩ := h.open2
  obtain ⟨vars, t⟩ := f
  dsimp only at ht ⊢
  have hal : Below w.heap.size w (w.alloc (.cells #[.int .i64 vars, .slice A n c] 27)) := (Below.refl _ _).alloc (Nat.le_refl _) _
  have htb := ht.top.below hal
  cases hg : goodB (vars, t) with
  | false =>
    obtain ⟨rfl, rfl⟩ : r0 = 0 ∧ r1 = false := by simpa [fWidthOfCnf, hg, eq_comm] using hR
    clear hR
    go_enter Try.func25, Try.ntmps25
    go_wp2_with (go_at_call 18; refine (i_IsCnf _ (vars, t) _ ⟨_, rfl, htb⟩).mono ?_; rintro e w1 ⟨rfl, hb1⟩)
    go_ret2
    exact ⟨rfl, (box2 hb1).2.2.1⟩
  | true =>
    obtain ⟨hr0, rfl⟩ : r0 = (maxT 0 t : Nat) ∧ r1 = true := by simpa [fWidthOfCnf, hg, eq_comm] using hR
    have HR := hide hr0
    clear hR hr0
    go_enter Try.func25, Try.ntmps25
    go_wp2_with (first | (go_at_call 18; refine (i_IsCnf _ (vars, t) _ ⟨_, rfl, htb⟩).mono ?_; rintro e w1 ⟨rfl, hb1⟩; obtain ⟨c0, c1, hbw, hsz⟩ := box2 hb1) | (go_at_call 57; refine (i_widthOf _ t _ (htb.below hb1)).mono ?_; rintro e w2 ⟨rfl, hq2⟩))
    go_ret2
    exact ⟨by rw [HR.out]; rfl, hbw.trans (hq2.below _)⟩

end Go.Proofs.Ytnkdkdojmloohaa
