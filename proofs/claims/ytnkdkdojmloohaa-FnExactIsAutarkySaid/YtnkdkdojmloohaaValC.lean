/- The walks: the value of a formula under an assignment. -/
import Derived.Test.YtnkdkdojmloohaaWid
namespace Go.Proofs.Ytnkdkdojmloohaa
open Go.RowKit
set_option linter.unusedVariables false

theorem s_l3Asked {hi hi' : Nat} (v : Value) (f : CnfL) (va : Value) (a : List Int) (w : World) (h : RCnf hi w v f) (h2 : Ints hi' w va a) :
    Calls Try.prog 69 #[v, va] w fun e w' => e = .returned (.bool (goodB f && clauseB f.1 a)) ∧ Below w.heap.size w w' := by
  obtain ⟨A, n, c, rfl, ht⟩ := h.open2
  obtain ⟨vars, t⟩ := f
  dsimp only at ht ⊢
  have hal : Below w.heap.size w (w.alloc (.cells #[.int .i64 vars, .slice A n c] 27)) := (Below.refl _ _).alloc (Nat.le_refl _) _
  have htb := ht.top.below hal
  have h2b := h2.top.below hal
  cases hg : goodB (vars, t) with
  | false =>
    go_enter Try.func69, Try.ntmps69
    go_wp2_with (go_at_call 48; refine (s_l2Good _ (vars, t) _ ⟨_, rfl, htb⟩).mono ?_; rintro e w1 ⟨rfl, hb1⟩)
    go_ret
    exact ⟨rfl, (box2 hb1).2.2.1⟩
  | true =>
    cases hcl : clauseB vars a with
    | false =>
      go_enter Try.func69, Try.ntmps69
      go_wp2_with (first | (go_at_call 48; refine (s_l2Good _ (vars, t) _ ⟨_, rfl, htb⟩).mono ?_; rintro e w1 ⟨rfl, hb1⟩; obtain ⟨c0, c1, hbw, hsz⟩ := box2 hb1) | (go_at_call 100; refine (s_l3Good _ _ a _ (h2b.below hb1)).mono ?_; rintro e w2 ⟨rfl, hq2⟩))
      go_ret
      exact ⟨rfl, hbw.trans (hq2.below _)⟩
    | true =>
      go_enter Try.func69, Try.ntmps69
      go_wp2_with (first | (go_at_call 48; refine (s_l2Good _ (vars, t) _ ⟨_, rfl, htb⟩).mono ?_; rintro e w1 ⟨rfl, hb1⟩; obtain ⟨c0, c1, hbw, hsz⟩ := box2 hb1) | (go_at_call 100; refine (s_l3Good _ _ a _ (h2b.below hb1)).mono ?_; rintro e w2 ⟨rfl, hq2⟩))
      go_ret
      exact ⟨rfl, hbw.trans (hq2.below _)⟩

set_option maxHeartbeats 800000 in
theorem i_cnfValue {hi hi' : Nat} (v : Value) (t : List (List Int)) (va : Value) (a : List Int) (w : World) (h : Tab hi w v t) (h2b : Ints hi' w va a) :
    Calls Try.prog 72 #[v, va] w fun e w' => e = .returned (.int .i64 (minV a 1 t)) ∧ Quiet w w' := by
  obtain ⟨A, c, ps, rfl, hc, hm, rfl, hrowb, hps⟩ := h.open_
  unfold maxLen at hm
  have HPS := hide hps
  clear hps
  go_enter Try.func72, Try.ntmps72
  go_wp2_with fail
  go_loopw [5, 10] (fun q i wr => ∃ (k : Nat) (m : Int), k ≤ ps.length ∧ i = .int .i64 k ∧ q = .int .i64 m ∧ Hid (minV a 1 (ps.map (·.2)) = minV a m ((ps.drop k).map (·.2))) ∧ Quiet w wr) (fun _ i _ => ps.length - (intOf i).toNat)
  case atStart => exact ⟨0, 1, Nat.zero_le _, rfl, rfl, rfl, Quiet.refl _⟩
  case round =>
    obtain ⟨k, m, hk, rfl, rfl, hr, hq⟩ := hrel
    have har := h2b.below (hq.below _)
    by_cases hlt : k < ps.length
    · obtain ⟨b, off, u, z, rfl, hx, hcw, hz⟩ := hrowb.tab HPS.out hlt
      rw [← hq.cell] at hcw
      have hzq := hz.below (hq.below _)
      obtain ⟨q, hqv⟩ : ∃ q, valueI a (-1) z = q := ⟨_, rfl⟩
      by_cases hlt2 : q < m
      · have HF := hide (show minV a 1 (ps.map (·.2)) = minV a q ((ps.drop (k + 1)).map (·.2)) by rw [hr.out, hx]; simp [minV, hqv, hlt2])
        clear hx
        go_wp2_with (go_at_call 80; refine (i_clauseValue _ _ z a _ hzq har).mono ?_; rintro e w1 ⟨rfl, rfl⟩; rw [hqv])
        go_roundw
        case rel => exact ⟨k + 1, q, by omega, by go_num, by first | rfl | (congr 1; omega), HF.out, hq⟩
        case measure => simp [intOf]; omega
      · have HF := hide (show minV a 1 (ps.map (·.2)) = minV a m ((ps.drop (k + 1)).map (·.2)) by rw [hr.out, hx]; simp [minV, hqv, hlt2])
        clear hx
        by_cases heq : q = m
        · subst heq
          go_wp2_with (go_at_call 80; refine (i_clauseValue _ _ z a _ hzq har).mono ?_; rintro e w1 ⟨rfl, rfl⟩; rw [hqv])
          go_roundw
          case rel => exact ⟨k + 1, q, by omega, by go_num, by first | rfl | (congr 1; omega), HF.out, hq⟩
          case measure => simp [intOf]; omega
        · go_wp2_with (go_at_call 80; refine (i_clauseValue _ _ z a _ hzq har).mono ?_; rintro e w1 ⟨rfl, rfl⟩; rw [hqv])
          go_roundw
          case rel => exact ⟨k + 1, m, by omega, by go_num, by first | rfl | (congr 1; omega), HF.out, hq⟩
          case measure => simp [intOf]; omega
    · obtain rfl : k = ps.length := by omega
      go_wp2_with fail
      go_ret
      exact ⟨ret_int (by rw [hr.out, List.drop_length]; rfl), hq⟩

set_option maxHeartbeats 800000 in
theorem s_l3CnfValue {hi hi' : Nat} (v : Value) (f : CnfL) (va : Value) (a : List Int) (w : World) (h : RCnf hi w v f) (h2 : Ints hi' w va a) :
    Calls Try.prog 70 #[v, va] w fun e w' => e = .returned (.int .i64 (minV a 1 f.2)) ∧ Below w.heap.size w w' := by
  obtain ⟨cv, rfl, ht⟩ := h
  obtain ⟨vars, t⟩ := f
  dsimp only at ht ⊢
  obtain ⟨A, c, ps, rfl, hc, hm, rfl, hrow, hps⟩ := ht.open_
  unfold maxLen at hm
  obtain ⟨wb, hwb⟩ : ∃ wb, wb = w.alloc (.cells #[.int .i64 vars, .slice A ps.length c] 27) := ⟨_, rfl⟩
  have hal : Below w.heap.size w wb := by rw [hwb]; exact (Below.refl _ _).alloc (Nat.le_refl _) _
  have hcx1 : wb.cell? ⟨w.heap.size, 1, none⟩ = some (.slice A ps.length c) := by rw [hwb]; simp
  have hrowb := hrow.below hal
  have hps' : ∀ p ∈ ps, Ints hi wb p.1 p.2 := fun p hp => (hps p hp).below hal
  have h2b := h2.below hal
  have HPS := hide hps'
  have HWB := hide hwb
  clear hps hps' hrow ht hwb
  go_enter Try.func70, Try.ntmps70
  go_wp2_with fail
  rw [← HWB.out]
  go_loopw [5, 6] (fun q i wr => ∃ (k : Nat) (m : Int), k ≤ ps.length ∧ i = .int .i64 k ∧ q = .int .i64 m ∧ Hid (minV a 1 (ps.map (·.2)) = minV a m ((ps.drop k).map (·.2))) ∧ Quiet wb wr) (fun _ i _ => ps.length - (intOf i).toNat)
  case atStart => exact ⟨0, 1, Nat.zero_le _, rfl, rfl, rfl, Quiet.refl _⟩
  case round =>
    obtain ⟨k, m, hk, rfl, rfl, hr, hq⟩ := hrel
    have har := h2b.below (hq.below _)
    have hc1 := (hq.cell _).trans hcx1
    by_cases hlt : k < ps.length
    · obtain ⟨b, off, u, z, rfl, hx, hcw, hz⟩ := hrowb.tab HPS.out hlt
      rw [← hq.cell] at hcw
      have hzq := hz.below (hq.below _)
      obtain ⟨q, hqv⟩ : ∃ q, valueI a (-1) z = q := ⟨_, rfl⟩
      by_cases hlt2 : q < m
      · have HF := hide (show minV a 1 (ps.map (·.2)) = minV a q ((ps.drop (k + 1)).map (·.2)) by rw [hr.out, hx]; simp [minV, hqv, hlt2])
        clear hx
        go_wp2_with (first | (go_at_call 76; refine (s_l3Value _ _ z a _ hzq har).mono ?_; rintro e w1 ⟨rfl, rfl⟩; rw [hqv]) | (go_at_call 101; refine (s_l1Least_up _ _ _ (by omega)).mono ?_; rintro e w2 ⟨rfl, rfl⟩))
        go_roundw
        case rel => exact ⟨k + 1, q, by omega, by go_num, by first | rfl | (congr 1; omega), HF.out, hq⟩
        case measure => simp [intOf]; omega
      · have HF := hide (show minV a 1 (ps.map (·.2)) = minV a m ((ps.drop (k + 1)).map (·.2)) by rw [hr.out, hx]; simp [minV, hqv, hlt2])
        clear hx
        by_cases heq : q = m
        · subst heq
          go_wp2_with (first | (go_at_call 76; refine (s_l3Value _ _ z a _ hzq har).mono ?_; rintro e w1 ⟨rfl, rfl⟩; rw [hqv]) | (go_at_call 101; refine (s_l1Least_up _ _ _ (by omega)).mono ?_; rintro e w2 ⟨rfl, rfl⟩))
          go_roundw
          case rel => exact ⟨k + 1, q, by omega, by go_num, by first | rfl | (congr 1; omega), HF.out, hq⟩
          case measure => simp [intOf]; omega
        · go_wp2_with (first | (go_at_call 76; refine (s_l3Value _ _ z a _ hzq har).mono ?_; rintro e w1 ⟨rfl, rfl⟩; rw [hqv]) | (go_at_call 101; refine (s_l1Least_dn _ _ _ (by omega)).mono ?_; rintro e w2 ⟨rfl, rfl⟩))
          go_roundw
          case rel => exact ⟨k + 1, m, by omega, by go_num, by first | rfl | (congr 1; omega), HF.out, hq⟩
          case measure => simp [intOf]; omega
    · obtain rfl : k = ps.length := by omega
      go_wp2_with fail
      go_ret
      exact ⟨ret_int (by rw [hr.out, List.drop_length]; rfl), hal.trans (hq.below _)⟩

def fValueOfCnf (f : CnfL) (a : List Int) : Int × Bool := if goodB f && clauseB f.1 a then (minV a 1 f.2, true) else (0, false)

set_option maxHeartbeats 400000 in
theorem S_ValueOfCnf {hi hi' : Nat} (v : Value) (f : CnfL) (va : Value) (a : List Int) (r0 : Int) (r1 : Bool) (w : World) (h : RCnf hi w v f) (h2 : Ints hi' w va a) (hn0 : szC f ≤ 1048576) (hn1 : a.length ≤ 1048576) (hR : fValueOfCnf f a = (r0, r1)) :
    Calls Try.prog 36 #[v, va] w fun e w' => e = .returned (.tuple #[.int .i64 r0, .bool r1]) ∧ Below w.heap.size w w' := by
  obtain ⟨A, n, c, rfl, ht⟩ := h.open2
  obtain ⟨vars, t⟩ := f
  dsimp only at ht ⊢
  have hal : Below w.heap.size w (w.alloc (.cells #[.int .i64 vars, .slice A n c] 27)) := (Below.refl _ _).alloc (Nat.le_refl _) _
  have htb := ht.top.below hal
  have h2b := h2.top.below hal
  cases hg : (goodB (vars, t) && clauseB vars a) with
  | false =>
    obtain ⟨rfl, rfl⟩ : r0 = 0 ∧ r1 = false := by simpa [fValueOfCnf, hg, eq_comm] using hR
    clear hR
    go_enter Try.func36, Try.ntmps36
    go_wp2_with (go_at_call 69; refine (s_l3Asked _ (vars, t) _ a _ ⟨_, rfl, htb⟩ h2b).mono ?_; rintro e w1 ⟨rfl, hb1⟩; rw [hg])
    go_ret2
    exact ⟨rfl, (box2 hb1).2.2.1⟩
  | true =>
    obtain ⟨hr0, rfl⟩ : r0 = minV a 1 t ∧ r1 = true := by
      have hg' := hg
      simp only [fValueOfCnf, hg', if_true] at hR
      injection hR with h1 h2
      exact ⟨h1.symm, h2.symm⟩
    have HR := hide hr0
    clear hR hr0
    go_enter Try.func36, Try.ntmps36
    go_wp2_with (first | (go_at_call 69; refine (s_l3Asked _ (vars, t) _ a _ ⟨_, rfl, htb⟩ h2b).mono ?_; rintro e w1 ⟨rfl, hb1⟩; rw [hg]; obtain ⟨c0, c1, hbw, hsz⟩ := box2 hb1) | (go_at_call 70; refine (s_l3CnfValue _ (vars, t) _ a _ ⟨_, rfl, htb.below hb1⟩ (h2b.below hb1)).mono ?_; rintro e w2 ⟨rfl, hb2⟩))
    go_ret2
    exact ⟨by rw [HR.out]; rfl, hbw.trans (hb2.mono hbw.size)⟩

set_option maxHeartbeats 400000 in
theorem I_ValueOfCnf {hi hi' : Nat} (v : Value) (f : CnfL) (va : Value) (a : List Int) (r0 : Int) (r1 : Bool) (w : World) (h : RCnf hi w v f) (h2 : Ints hi' w va a) (hn0 : szC f ≤ 1048576) (hn1 : a.length ≤ 1048576) (hR : fValueOfCnf f a = (r0, r1)) :
    Calls Try.prog 37 #[v, va] w fun e w' => e = .returned (.tuple #[.int .i64 r0, .bool r1]) ∧ Below w.heap.size w w' := by
  obtain ⟨A, n, c, rfl, ht⟩ := h.open2
  obtain ⟨vars, t⟩ := f
  dsimp only at ht ⊢
  have hal : Below w.heap.size w (w.alloc (.cells #[.int .i64 vars, .slice A n c] 27)) := (Below.refl _ _).alloc (Nat.le_refl _) _
  have htb := ht.top.below hal
  have h2b := h2.top.below hal
  cases hg : goodB (vars, t) with
  | false =>
    obtain ⟨rfl, rfl⟩ : r0 = 0 ∧ r1 = false := by simpa [fValueOfCnf, hg, eq_comm] using hR
    clear hR
    go_enter Try.func37, Try.ntmps37
    go_wp2_with (go_at_call 18; refine (i_IsCnf _ (vars, t) _ ⟨_, rfl, htb⟩).mono ?_; rintro e w1 ⟨rfl, hb1⟩)
    go_ret2
    exact ⟨rfl, (box2 hb1).2.2.1⟩
  | true =>
    cases hcl : clauseB vars a with
    | false =>
      obtain ⟨rfl, rfl⟩ : r0 = 0 ∧ r1 = false := by simpa [fValueOfCnf, hg, hcl, eq_comm] using hR
      clear hR
      go_enter Try.func37, Try.ntmps37
      go_wp2_with (first | (go_at_call 18; refine (i_IsCnf _ (vars, t) _ ⟨_, rfl, htb⟩).mono ?_; rintro e w1 ⟨rfl, hb1⟩; obtain ⟨c0, c1, hbw, hsz⟩ := box2 hb1) | (go_at_call 71; refine (i_IsAssignment _ _ a _ (h2b.below hb1)).mono ?_; rintro e w2 ⟨rfl, hq2⟩))
      go_ret2
      exact ⟨rfl, hbw.trans (hq2.below _)⟩
    | true =>
      obtain ⟨hr0, rfl⟩ : r0 = minV a 1 t ∧ r1 = true := by simpa [fValueOfCnf, hg, hcl, eq_comm] using hR
      have HR := hide hr0
      clear hR hr0
      go_enter Try.func37, Try.ntmps37
      go_wp2_with (first | (go_at_call 18; refine (i_IsCnf _ (vars, t) _ ⟨_, rfl, htb⟩).mono ?_; rintro e w1 ⟨rfl, hb1⟩; obtain ⟨c0, c1, hbw, hsz⟩ := box2 hb1) | (go_at_call 71; refine (i_IsAssignment _ _ a _ (h2b.below hb1)).mono ?_; rintro e w2 ⟨rfl, hq2⟩; have c1' := (hq2.cell _).trans c1; have t2 := (htb.below hb1).below (hq2.below _); have a2 := (h2b.below hb1).below (hq2.below _)) | (go_at_call 72; refine (i_cnfValue _ t _ a _ t2 a2).mono ?_; rintro e w3 ⟨rfl, hq3⟩))
      go_ret2
      exact ⟨by rw [HR.out]; rfl, hbw.trans ((hq2.trans hq3).below _)⟩

end Go.Proofs.Ytnkdkdojmloohaa
