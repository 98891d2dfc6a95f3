/- The walks: whether two formulas are equivalent. -/
import Derived.Test.YtnkdkdojmloohaaTopC
namespace Go.Proofs.Ytnkdkdojmloohaa
open Go.RowKit
set_option linter.unusedVariables false

def fAreEquivalentCnfs (f g : CnfL) : Bool × Bool := if goodB f then (if goodB g then (if f.1 = g.1 then (equivL f.2 g.2 (rangeFrom 0 (2 ^ f.1.toNat)), true) else (false, false)) else (false, false)) else (false, false)

set_option maxHeartbeats 800000 in
theorem S_AreEquivalentCnfs {hi hi' : Nat} (v : Value) (f : CnfL) (v2 : Value) (g : CnfL) (r0 : Bool) (r1 : Bool) (w : World) (h : RCnf hi w v f) (h2 : RCnf hi' w v2 g) (hn0 : szC f ≤ 1048576) (hn1 : szC g ≤ 1048576) (hR : fAreEquivalentCnfs f g = (r0, r1)) :
    Calls Try.prog 28 #[v, v2] w fun e w' => e = .returned (.tuple #[.bool r0, .bool r1]) ∧ Below w.heap.size w w' := by
  obtain ⟨A, n1, c, rfl, ht⟩ := h.open2
  obtain ⟨A2, n2, c2, rfl, hu⟩ := h2.open2
  obtain ⟨vars, t⟩ := f
  obtain ⟨vars2, u⟩ := g
  dsimp only at ht hu ⊢
  obtain ⟨wb, hwb⟩ : ∃ wb, wb = (w.alloc (.cells #[.int .i64 vars, .slice A n1 c] 27)).alloc (.cells #[.int .i64 vars2, .slice A2 n2 c2] 27) := ⟨_, rfl⟩
  have hal : Below w.heap.size w wb := by rw [hwb]; exact ((Below.refl _ _).alloc (Nat.le_refl _) _).alloc (by simp) _
  have x00 : wb.cell? ⟨w.heap.size, 0, none⟩ = some (.int .i64 vars) := by rw [hwb]; simp
  have x01 : wb.cell? ⟨w.heap.size, 1, none⟩ = some (.slice A n1 c) := by rw [hwb]; simp
  have x10 : wb.cell? ⟨w.heap.size + 1, 0, none⟩ = some (.int .i64 vars2) := by rw [hwb]; simp
  have x11 : wb.cell? ⟨w.heap.size + 1, 1, none⟩ = some (.slice A2 n2 c2) := by rw [hwb]; simp
  have tf := ht.below hal
  have tg := hu.below hal
  have HWB := hide hwb
  clear hwb h h2 ht hu
  cases hg : goodB (vars, t) with
  | false =>
    obtain ⟨rfl, rfl⟩ : r0 = false ∧ r1 = false := by simpa [fAreEquivalentCnfs, hg, eq_comm] using hR
    clear hR
    go_enter Try.func28, Try.ntmps28
    go_wp2_with fail
    rw [← HWB.out]
    refine (s_l2Good _ (vars, t) _ ⟨_, rfl, tf⟩).mono ?_
    rintro e w1 ⟨rfl, hb1⟩
    go_wp2_with fail
    go_ret2
    exact ⟨rfl, hal.trans (hb1.mono hal.size)⟩
  | true =>
    cases hg2 : goodB (vars2, u) with
    | false =>
      obtain ⟨rfl, rfl⟩ : r0 = false ∧ r1 = false := by simpa [fAreEquivalentCnfs, hg, hg2, eq_comm] using hR
      clear hR
      go_enter Try.func28, Try.ntmps28
      go_wp2_with fail
      rw [← HWB.out]
      refine (s_l2Good _ (vars, t) _ ⟨_, rfl, tf⟩).mono ?_
      rintro e w1 ⟨rfl, hb1⟩
      replace x10 := below_old hb1 _ _ x10
      replace x11 := below_old hb1 _ _ x11
      replace tg := tg.below hb1
      replace hal := hal.trans (hb1.mono hal.size)
      go_wp2_with fail
      refine (s_l2Good _ (vars2, u) _ ⟨_, rfl, tg⟩).mono ?_
      rintro e w2 ⟨rfl, hb2⟩
      go_wp2_with fail
      go_ret2
      exact ⟨rfl, hal.trans (hb2.mono hal.size)⟩
    | true =>
      by_cases hv2 : vars = vars2
      · subst hv2
        have HS := hide (goodB_small hg)
        have HS2 := hide (goodB_small hg2)
        obtain ⟨n, hv, hn⟩ := varsB_nat (goodB_parts hg).1
        dsimp only at HS HS2 hv
        subst hv
        obtain ⟨N, hN, hNe, hN1, hN2⟩ := pow_nat hn
        obtain ⟨hr0, rfl⟩ : r0 = equivL t u (rangeFrom 0 N) ∧ r1 = true := by simpa [fAreEquivalentCnfs, hg, hg2, ← hNe, eq_comm] using hR
        have HR := hide hr0
        clear hR hr0 hNe
        go_enter Try.func28, Try.ntmps28
        go_wp2_with fail
        rw [← HWB.out]
        refine (s_l2Good _ ((n : Int), t) _ ⟨_, rfl, tf⟩).mono ?_
        rintro e w1 ⟨rfl, hb1⟩
        replace x00 := below_old hb1 _ _ x00
        replace x01 := below_old hb1 _ _ x01
        replace x10 := below_old hb1 _ _ x10
        replace x11 := below_old hb1 _ _ x11
        replace tf := tf.below hb1
        replace tg := tg.below hb1
        replace hal := hal.trans (hb1.mono hal.size)
        go_wp2_with fail
        refine (s_l2Good _ ((n : Int), u) _ ⟨_, rfl, tg⟩).mono ?_
        rintro e w2 ⟨rfl, hb2⟩
        replace x00 := below_old hb2 _ _ x00
        replace x01 := below_old hb2 _ _ x01
        replace x10 := below_old hb2 _ _ x10
        replace x11 := below_old hb2 _ _ x11
        replace tf := tf.below hb2
        replace tg := tg.below hb2
        replace hal := hal.trans (hb2.mono hal.size)
        clear hb1 hb2
        go_wp2_with fail
        go_loopw [6] (fun i wr => ∃ k : Nat, k ≤ N ∧ i = .int .i64 k ∧ Hid (equivL t u (rangeFrom 0 N) = equivL t u (rangeFrom k N)) ∧ Below w2.heap.size w2 wr) (fun i _ => N - (intOf i).toNat)
        case atStart => exact ⟨0, by omega, rfl, rfl, Below.refl _ _⟩
        case round =>
          obtain ⟨k, hk, rfl, hr, hq⟩ := hrel
          have y00 := below_old hq _ _ x00
          have y01 := below_old hq _ _ x01
          have y10 := below_old hq _ _ x10
          have y11 := below_old hq _ _ x11
          have tfr := tf.below hq
          have tgr := tg.below hq
          by_cases hlt : k < N
          · cases hb : allB (k : Int) t with
            | true =>
              cases hb2 : allB (k : Int) u with
              | true =>
                have HF := hide (show equivL t u (rangeFrom 0 N) = equivL t u (rangeFrom (k + 1) N) by rw [hr.out, rangeFrom_lt hlt]; simp [equivL, hb, hb2])
                go_wp2_with fail
                go_quiet ((go_at_call 59; first | exact quietC (s_l5All _ t _ _ (tfr.drewN _) HS.out (by omega)) | exact quietC (s_l5All _ u _ _ (tgr.drewN _) HS2.out (by omega))))
                go_wp2_with fail
                go_roundw
                case rel => exact ⟨k + 1, by omega, by go_num, HF.out, (below_drewN hq _)⟩
                case measure => simp [intOf]; omega
              | false =>
                have HF := hide (show equivL t u (rangeFrom 0 N) = false by rw [hr.out, rangeFrom_lt hlt]; simp [equivL, hb, hb2])
                go_wp2_with fail
                go_quiet ((go_at_call 59; first | exact quietC (s_l5All _ t _ _ (tfr.drewN _) HS.out (by omega)) | exact quietC (s_l5All _ u _ _ (tgr.drewN _) HS2.out (by omega))))
                go_wp2_with fail
                go_ret2
                exact ⟨by rw [HR.out, HF.out]; rfl, hal.trans ((below_drewN hq _).mono hal.size)⟩
            | false =>
              cases hb2 : allB (k : Int) u with
              | true =>
                have HF := hide (show equivL t u (rangeFrom 0 N) = false by rw [hr.out, rangeFrom_lt hlt]; simp [equivL, hb, hb2])
                go_wp2_with fail
                go_quiet ((go_at_call 59; first | exact quietC (s_l5All _ t _ _ (tfr.drewN _) HS.out (by omega)) | exact quietC (s_l5All _ u _ _ (tgr.drewN _) HS2.out (by omega))))
                go_wp2_with fail
                go_ret2
                exact ⟨by rw [HR.out, HF.out]; rfl, hal.trans ((below_drewN hq _).mono hal.size)⟩
              | false =>
                have HF := hide (show equivL t u (rangeFrom 0 N) = equivL t u (rangeFrom (k + 1) N) by rw [hr.out, rangeFrom_lt hlt]; simp [equivL, hb, hb2])
                go_wp2_with fail
                go_quiet ((go_at_call 59; first | exact quietC (s_l5All _ t _ _ (tfr.drewN _) HS.out (by omega)) | exact quietC (s_l5All _ u _ _ (tgr.drewN _) HS2.out (by omega))))
                go_wp2_with fail
                go_roundw
                case rel => exact ⟨k + 1, by omega, by go_num, HF.out, (below_drewN hq _)⟩
                case measure => simp [intOf]; omega
          · obtain rfl : k = N := by omega
            go_wp2_with fail
            go_ret2
            exact ⟨by rw [HR.out, hr.out, rangeFrom_end]; rfl, hal.trans (hq.mono hal.size)⟩
      · obtain ⟨rfl, rfl⟩ : r0 = false ∧ r1 = false := by simpa [fAreEquivalentCnfs, hg, hg2, hv2, eq_comm] using hR
        clear hR
        go_enter Try.func28, Try.ntmps28
        go_wp2_with fail
        rw [← HWB.out]
        refine (s_l2Good _ (vars, t) _ ⟨_, rfl, tf⟩).mono ?_
        rintro e w1 ⟨rfl, hb1⟩
        replace x00 := below_old hb1 _ _ x00
        replace x10 := below_old hb1 _ _ x10
        replace x11 := below_old hb1 _ _ x11
        replace tg := tg.below hb1
        replace hal := hal.trans (hb1.mono hal.size)
        go_wp2_with fail
        refine (s_l2Good _ (vars2, u) _ ⟨_, rfl, tg⟩).mono ?_
        rintro e w2 ⟨rfl, hb2⟩
        replace x00 := below_old hb2 _ _ x00
        replace x10 := below_old hb2 _ _ x10
        go_wp2_with fail
        go_ret2
        exact ⟨rfl, hal.trans (hb2.mono hal.size)⟩

set_option maxHeartbeats 800000 in
theorem I_AreEquivalentCnfs {hi hi' : Nat} (v : Value) (f : CnfL) (v2 : Value) (g : CnfL) (r0 : Bool) (r1 : Bool) (w : World) (h : RCnf hi w v f) (h2 : RCnf hi' w v2 g) (hn0 : szC f ≤ 1048576) (hn1 : szC g ≤ 1048576) (hR : fAreEquivalentCnfs f g = (r0, r1)) :
    Calls Try.prog 29 #[v, v2] w fun e w' => e = .returned (.tuple #[.bool r0, .bool r1]) ∧ Below w.heap.size w w' := by
  obtain ⟨A, n1, c, rfl, ht⟩ := h.open2
  obtain ⟨A2, n2, c2, rfl, hu⟩ := h2.open2
  obtain ⟨vars, t⟩ := f
  obtain ⟨vars2, u⟩ := g
  dsimp only at ht hu ⊢
  obtain ⟨wb, hwb⟩ : ∃ wb, wb = (w.alloc (.cells #[.int .i64 vars, .slice A n1 c] 27)).alloc (.cells #[.int .i64 vars2, .slice A2 n2 c2] 27) := ⟨_, rfl⟩
  have hal : Below w.heap.size w wb := by rw [hwb]; exact ((Below.refl _ _).alloc (Nat.le_refl _) _).alloc (by simp) _
  have x00 : wb.cell? ⟨w.heap.size, 0, none⟩ = some (.int .i64 vars) := by rw [hwb]; simp
  have x01 : wb.cell? ⟨w.heap.size, 1, none⟩ = some (.slice A n1 c) := by rw [hwb]; simp
  have x10 : wb.cell? ⟨w.heap.size + 1, 0, none⟩ = some (.int .i64 vars2) := by rw [hwb]; simp
  have x11 : wb.cell? ⟨w.heap.size + 1, 1, none⟩ = some (.slice A2 n2 c2) := by rw [hwb]; simp
  have tf := ht.below hal
  have tg := hu.below hal
  have HWB := hide hwb
  clear hwb h h2 ht hu
  cases hg : goodB (vars, t) with
  | false =>
    obtain ⟨rfl, rfl⟩ : r0 = false ∧ r1 = false := by simpa [fAreEquivalentCnfs, hg, eq_comm] using hR
    clear hR
    go_enter Try.func29, Try.ntmps29
    go_wp2_with fail
    rw [← HWB.out]
    refine (i_IsCnf _ (vars, t) _ ⟨_, rfl, tf⟩).mono ?_
    rintro e w1 ⟨rfl, hb1⟩
    go_wp2_with fail
    go_ret2
    exact ⟨rfl, hal.trans (hb1.mono hal.size)⟩
  | true =>
    cases hg2 : goodB (vars2, u) with
    | false =>
      obtain ⟨rfl, rfl⟩ : r0 = false ∧ r1 = false := by simpa [fAreEquivalentCnfs, hg, hg2, eq_comm] using hR
      clear hR
      go_enter Try.func29, Try.ntmps29
      go_wp2_with fail
      rw [← HWB.out]
      refine (i_IsCnf _ (vars, t) _ ⟨_, rfl, tf⟩).mono ?_
      rintro e w1 ⟨rfl, hb1⟩
      replace x10 := below_old hb1 _ _ x10
      replace x11 := below_old hb1 _ _ x11
      replace tg := tg.below hb1
      replace hal := hal.trans (hb1.mono hal.size)
      go_wp2_with fail
      refine (i_IsCnf _ (vars2, u) _ ⟨_, rfl, tg⟩).mono ?_
      rintro e w2 ⟨rfl, hb2⟩
      go_wp2_with fail
      go_ret2
      exact ⟨rfl, hal.trans (hb2.mono hal.size)⟩
    | true =>
      by_cases hv2 : vars = vars2
      · subst hv2
        have HS := hide (goodB_small hg)
        have HS2 := hide (goodB_small hg2)
        obtain ⟨n, hv, hn⟩ := varsB_nat (goodB_parts hg).1
        dsimp only at HS HS2 hv
        subst hv
        obtain ⟨N, hN, hNe, hN1, hN2⟩ := pow_nat hn
        obtain ⟨hr0, rfl⟩ : r0 = equivL t u (rangeFrom 0 N) ∧ r1 = true := by simpa [fAreEquivalentCnfs, hg, hg2, ← hNe, eq_comm] using hR
        have HR := hide hr0
        clear hR hr0 hNe
        go_enter Try.func29, Try.ntmps29
        go_wp2_with fail
        rw [← HWB.out]
        refine (i_IsCnf _ ((n : Int), t) _ ⟨_, rfl, tf⟩).mono ?_
        rintro e w1 ⟨rfl, hb1⟩
        replace x00 := below_old hb1 _ _ x00
        replace x01 := below_old hb1 _ _ x01
        replace x10 := below_old hb1 _ _ x10
        replace x11 := below_old hb1 _ _ x11
        replace tf := tf.below hb1
        replace tg := tg.below hb1
        replace hal := hal.trans (hb1.mono hal.size)
        go_wp2_with fail
        refine (i_IsCnf _ ((n : Int), u) _ ⟨_, rfl, tg⟩).mono ?_
        rintro e w2 ⟨rfl, hb2⟩
        replace x00 := below_old hb2 _ _ x00
        replace x01 := below_old hb2 _ _ x01
        replace x10 := below_old hb2 _ _ x10
        replace x11 := below_old hb2 _ _ x11
        replace tf := tf.below hb2
        replace tg := tg.below hb2
        replace hal := hal.trans (hb2.mono hal.size)
        clear hb1 hb2
        go_wp2_with fail
        go_loopw [25] (fun i wr => ∃ k : Nat, k ≤ N ∧ i = .int .i64 k ∧ Hid (equivL t u (rangeFrom 0 N) = equivL t u (rangeFrom k N)) ∧ Below w2.heap.size w2 wr) (fun i _ => N - (intOf i).toNat)
        case atStart => exact ⟨0, by omega, rfl, rfl, Below.refl _ _⟩
        case round =>
          obtain ⟨k, hk, rfl, hr, hq⟩ := hrel
          have y00 := below_old hq _ _ x00
          have y01 := below_old hq _ _ x01
          have y10 := below_old hq _ _ x10
          have y11 := below_old hq _ _ x11
          have tfr := tf.below hq
          have tgr := tg.below hq
          by_cases hlt : k < N
          · cases hb : allB (k : Int) t with
            | true =>
              cases hb2 : allB (k : Int) u with
              | true =>
                have HF := hide (show equivL t u (rangeFrom 0 N) = equivL t u (rangeFrom (k + 1) N) by rw [hr.out, rangeFrom_lt hlt]; simp [equivL, hb, hb2])
                go_wp2_with fail
                have z01 : ∀ d os, (Go.Sort.grow (redrawn wr d) os).cell? ⟨w.heap.size, 1, none⟩ = some (.slice A n1 c) := fun d os => below_old (below_regrown wr d os) _ _ y01
                have z11 : ∀ d os, (Go.Sort.grow (redrawn wr d) os).cell? ⟨w.heap.size + 1, 1, none⟩ = some (.slice A2 n2 c2) := fun d os => below_old (below_regrown wr d os) _ _ y11
                refine wp_region_quiet_below (by kernel_rfl) (by kernel_rfl) ?_
                repeat (go_big_quiet_step (((go_at_call 61; first | exact belowC fun W hW => i_isModel _ t _ _ (tfr.below hW) HS.out (by omega) | exact belowC fun W hW => i_isModel _ u _ _ (tgr.below hW) HS2.out (by omega)))))
                refine wpQuiet_nil ?_
                intro wq hw'
                have hbwq := below_of_regrown hw'
                clear hw'
                go_wp2_with fail
                go_roundw
                case rel => exact ⟨k + 1, by omega, by go_num, HF.out, (hq.trans (hbwq.mono hq.size))⟩
                case measure => simp [intOf]; omega
              | false =>
                have HF := hide (show equivL t u (rangeFrom 0 N) = false by rw [hr.out, rangeFrom_lt hlt]; simp [equivL, hb, hb2])
                go_wp2_with fail
                have z01 : ∀ d os, (Go.Sort.grow (redrawn wr d) os).cell? ⟨w.heap.size, 1, none⟩ = some (.slice A n1 c) := fun d os => below_old (below_regrown wr d os) _ _ y01
                have z11 : ∀ d os, (Go.Sort.grow (redrawn wr d) os).cell? ⟨w.heap.size + 1, 1, none⟩ = some (.slice A2 n2 c2) := fun d os => below_old (below_regrown wr d os) _ _ y11
                refine wp_region_quiet_below (by kernel_rfl) (by kernel_rfl) ?_
                repeat (go_big_quiet_step (((go_at_call 61; first | exact belowC fun W hW => i_isModel _ t _ _ (tfr.below hW) HS.out (by omega) | exact belowC fun W hW => i_isModel _ u _ _ (tgr.below hW) HS2.out (by omega)))))
                refine wpQuiet_nil ?_
                intro wq hw'
                have hbwq := below_of_regrown hw'
                clear hw'
                go_wp2_with fail
                go_ret2
                exact ⟨by rw [HR.out, HF.out]; rfl, hal.trans ((hq.trans (hbwq.mono hq.size)).mono hal.size)⟩
            | false =>
              cases hb2 : allB (k : Int) u with
              | true =>
                have HF := hide (show equivL t u (rangeFrom 0 N) = false by rw [hr.out, rangeFrom_lt hlt]; simp [equivL, hb, hb2])
                go_wp2_with fail
                have z01 : ∀ d os, (Go.Sort.grow (redrawn wr d) os).cell? ⟨w.heap.size, 1, none⟩ = some (.slice A n1 c) := fun d os => below_old (below_regrown wr d os) _ _ y01
                have z11 : ∀ d os, (Go.Sort.grow (redrawn wr d) os).cell? ⟨w.heap.size + 1, 1, none⟩ = some (.slice A2 n2 c2) := fun d os => below_old (below_regrown wr d os) _ _ y11
                refine wp_region_quiet_below (by kernel_rfl) (by kernel_rfl) ?_
                repeat (go_big_quiet_step (((go_at_call 61; first | exact belowC fun W hW => i_isModel _ t _ _ (tfr.below hW) HS.out (by omega) | exact belowC fun W hW => i_isModel _ u _ _ (tgr.below hW) HS2.out (by omega)))))
                refine wpQuiet_nil ?_
                intro wq hw'
                have hbwq := below_of_regrown hw'
                clear hw'
                go_wp2_with fail
                go_ret2
                exact ⟨by rw [HR.out, HF.out]; rfl, hal.trans ((hq.trans (hbwq.mono hq.size)).mono hal.size)⟩
              | false =>
                have HF := hide (show equivL t u (rangeFrom 0 N) = equivL t u (rangeFrom (k + 1) N) by rw [hr.out, rangeFrom_lt hlt]; simp [equivL, hb, hb2])
                go_wp2_with fail
                have z01 : ∀ d os, (Go.Sort.grow (redrawn wr d) os).cell? ⟨w.heap.size, 1, none⟩ = some (.slice A n1 c) := fun d os => below_old (below_regrown wr d os) _ _ y01
                have z11 : ∀ d os, (Go.Sort.grow (redrawn wr d) os).cell? ⟨w.heap.size + 1, 1, none⟩ = some (.slice A2 n2 c2) := fun d os => below_old (below_regrown wr d os) _ _ y11
                refine wp_region_quiet_below (by kernel_rfl) (by kernel_rfl) ?_
                repeat (go_big_quiet_step (((go_at_call 61; first | exact belowC fun W hW => i_isModel _ t _ _ (tfr.below hW) HS.out (by omega) | exact belowC fun W hW => i_isModel _ u _ _ (tgr.below hW) HS2.out (by omega)))))
                refine wpQuiet_nil ?_
                intro wq hw'
                have hbwq := below_of_regrown hw'
                clear hw'
                go_wp2_with fail
                go_roundw
                case rel => exact ⟨k + 1, by omega, by go_num, HF.out, (hq.trans (hbwq.mono hq.size))⟩
                case measure => simp [intOf]; omega
          · obtain rfl : k = N := by omega
            go_wp2_with fail
            go_ret2
            exact ⟨by rw [HR.out, hr.out, rangeFrom_end]; rfl, hal.trans (hq.mono hal.size)⟩
      · obtain ⟨rfl, rfl⟩ : r0 = false ∧ r1 = false := by simpa [fAreEquivalentCnfs, hg, hg2, hv2, eq_comm] using hR
        clear hR
        go_enter Try.func29, Try.ntmps29
        go_wp2_with fail
        rw [← HWB.out]
        refine (i_IsCnf _ (vars, t) _ ⟨_, rfl, tf⟩).mono ?_
        rintro e w1 ⟨rfl, hb1⟩
        replace x00 := below_old hb1 _ _ x00
        replace x10 := below_old hb1 _ _ x10
        replace x11 := below_old hb1 _ _ x11
        replace tg := tg.below hb1
        replace hal := hal.trans (hb1.mono hal.size)
        go_wp2_with fail
        refine (i_IsCnf _ (vars2, u) _ ⟨_, rfl, tg⟩).mono ?_
        rintro e w2 ⟨rfl, hb2⟩
        replace x00 := below_old hb2 _ _ x00
        replace x10 := below_old hb2 _ _ x10
        go_wp2_with fail
        go_ret2
        exact ⟨rfl, hal.trans (hb2.mono hal.size)⟩

end Go.Proofs.Ytnkdkdojmloohaa
