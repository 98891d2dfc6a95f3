/- The walks: searches over all bits: models, their number, the first one, implication. -/
import Derived.Test.YtlipmbcjpmbjnaaCnf
import Derived.Test.YtlipmbcjpmbjnaaTruth
namespace Go.Proofs.Ytlipmbcjpmbjnaa
open Go.RowKit
set_option linter.unusedVariables false

set_option maxHeartbeats 800000 in
theorem s_l5Implies {hi hi' : Nat} (v vc : Value) (f : CnfL) (c : List Int) (w : World) (h : RCnf hi w v f) (h2 : Ints hi' w vc c) (hv : varsB f.1 = true) (hs : ∀ c ∈ f.2, ∀ l ∈ c, l ≠ 0 ∧ -12 ≤ l ∧ l ≤ 12) (hcs : ∀ l ∈ c, l ≠ 0 ∧ -12 ≤ l ∧ l ≤ 12) :
    Calls Try.prog 61 #[v, vc] w fun e w' => e = .returned (.bool (impliesF f c)) ∧ Below w.heap.size w w' := by
  have HS := hide hs
  have HCS := hide hcs
  obtain ⟨n, hv, hn⟩ := varsB_nat hv
  obtain ⟨cv, rfl, ht⟩ := h
  obtain ⟨vars, t⟩ := f
  dsimp only at ht hv HS ⊢
  subst hv
  obtain ⟨N, hN, hNe, hN1, hN2⟩ := pow_nat hn
  have HM := hide (show impliesF ((n : Int), t) c = impliesL t c (rangeFrom 0 N) by unfold impliesF; rw [hNe]; simp)
  clear hNe hs hcs
  obtain ⟨wb, hwb⟩ : ∃ wb, wb = w.alloc (.cells #[.int .i64 (n : Int), cv] 29) := ⟨_, rfl⟩
  have hal : Below w.heap.size w wb := by rw [hwb]; exact (Below.refl _ _).alloc (Nat.le_refl _) _
  have hcx0 : wb.cell? ⟨w.heap.size, 0, none⟩ = some (.int .i64 (n : Int)) := by rw [hwb]; simp
  have hcx1 : wb.cell? ⟨w.heap.size, 1, none⟩ = some cv := by rw [hwb]; simp
  have htb := ht.below hal
  have hcb := h2.below hal
  have HWB := hide hwb
  clear hwb ht h2
  go_enter Try.func61, Try.ntmps61
  go_wp2_with fail
  rw [← HWB.out]
  go_loopw [5] (fun i wr => ∃ k : Nat, k ≤ N ∧ i = .int .i64 k ∧ Hid (impliesL t c (rangeFrom 0 N) = impliesL t c (rangeFrom k N)) ∧ Quiet wb wr) (fun i _ => N - (intOf i).toNat)
  case atStart => exact ⟨0, by omega, rfl, rfl, Quiet.refl _⟩
  case round =>
    obtain ⟨k, hk, rfl, hr, hq⟩ := hrel
    have hc0 := (hq.cell _).trans hcx0
    have hc1 := (hq.cell _).trans hcx1
    have htr := htb.below (hq.below _)
    have hcr := hcb.below (hq.below _)
    by_cases hlt : k < N
    · cases hb : trueB (k : Int) c with
      | true =>
        have HF := hide (show impliesL t c (rangeFrom 0 N) = impliesL t c (rangeFrom (k + 1) N) by rw [hr.out, rangeFrom_lt hlt]; simp [impliesL, hb])
        go_wp2_with (go_at_call 95; refine (s_l5True _ _ _ _ hcr HCS.out (by omega)).mono ?_; rintro e w1 ⟨rfl, hq1⟩)
        go_roundw
        case rel => exact ⟨k + 1, by omega, by go_num, HF.out, hq.trans hq1⟩
        case measure => simp [intOf]; omega
      | false =>
        cases hb2 : allB (k : Int) t with
        | false =>
          have HF := hide (show impliesL t c (rangeFrom 0 N) = impliesL t c (rangeFrom (k + 1) N) by rw [hr.out, rangeFrom_lt hlt]; simp [impliesL, hb2])
          go_wp2_with (first | (go_at_call 95; refine (s_l5True _ _ _ _ hcr HCS.out (by omega)).mono ?_; rintro e w1 ⟨rfl, hq1⟩; have hc1' := (hq1.cell _).trans hc1; have htr1 := htr.below (hq1.below _)) | (go_at_call 96; refine (s_l5All _ _ _ _ htr1 HS.out (by omega)).mono ?_; rintro e w2 ⟨rfl, hq2⟩))
          go_roundw
          case rel => exact ⟨k + 1, by omega, by go_num, HF.out, (hq.trans hq1).trans hq2⟩
          case measure => simp [intOf]; omega
        | true =>
          have HF := hide (show impliesL t c (rangeFrom 0 N) = false by rw [hr.out, rangeFrom_lt hlt]; simp [impliesL, hb, hb2])
          go_wp2_with (first | (go_at_call 95; refine (s_l5True _ _ _ _ hcr HCS.out (by omega)).mono ?_; rintro e w1 ⟨rfl, hq1⟩; have hc1' := (hq1.cell _).trans hc1; have htr1 := htr.below (hq1.below _)) | (go_at_call 96; refine (s_l5All _ _ _ _ htr1 HS.out (by omega)).mono ?_; rintro e w2 ⟨rfl, hq2⟩))
          go_ret
          exact ⟨by rw [HM.out, HF.out]; rfl, hal.trans (((hq.trans hq1).trans hq2).below _)⟩
    · obtain rfl : k = N := by omega
      go_wp2_with fail
      go_ret
      exact ⟨by rw [HM.out, hr.out, rangeFrom_end]; rfl, hal.trans (hq.below _)⟩

set_option maxHeartbeats 800000 in
/-- the search over models: what the function value does to a state is the caller's -/
theorem i_models {σ : Type} {hi : Nat} (cv : Value) (n : Nat) (t : List (List Int)) (g : FuncId) (lb : Array Value) (w : World) (s0 : σ) (Inv : Nat → σ → World → Prop) (step : σ → Nat → σ) (cont : σ → Nat → Bool)
    (hn : n ≤ 12) (hs : ∀ c ∈ t, ∀ l ∈ c, l ≠ 0 ∧ -12 ≤ l ∧ l ≤ 12)
    (eg : ∀ args W, (callFunc g args).run Try.prog W = .ok (.enter g args) W)
    (hI0 : Inv 0 s0 (w.alloc (.cells #[.int .i64 n, cv] 29)))
    (hprot : ∀ k s W, Inv k s W → W.cell? ⟨w.heap.size, 0, none⟩ = some (.int .i64 n) ∧ W.cell? ⟨w.heap.size, 1, none⟩ = some cv ∧ Tab hi W cv t)
    (hstab : ∀ k s W W', Inv k s W → Below W.heap.size W W' → Inv k s W')
    (hskip : ∀ k s W, Inv k s W → Inv (k + 1) s W)
    (hstep : ∀ s W (b : Nat), Inv b s W → b ≤ 4096 → Calls Try.prog g (#[.int .i64 b] ++ lb) W fun e w' => e = .returned (.bool (cont s b)) ∧ Inv (b + 1) (step s b) w') :
    Calls Try.prog 130 #[.agg #[.int .i64 n, cv], .func (.func g) #[] lb] w fun e w' => e = .returned (.tuple #[]) ∧ ∃ k, Inv k (runM t step cont (rangeFrom 0 (2 ^ n)) s0) w' := by
  have HS := hide hs
  have HP := hide hprot
  have HST := hide hstab
  have HSP := hide hstep
  have HSK := hide hskip
  obtain ⟨N, hN, hNe, hN1, hN2⟩ := pow_nat hn
  rw [← hNe]
  clear hNe hs hprot hstab hstep hskip
  obtain ⟨wb, hwb⟩ : ∃ wb, wb = w.alloc (.cells #[.int .i64 (n : Int), cv] 29) := ⟨_, rfl⟩
  rw [← hwb] at hI0
  have HI := hide hI0
  have HWB := hide hwb
  clear hwb hI0
  go_enter Try.func130, Try.ntmps130
  go_wp2_with fail
  rw [← HWB.out]
  go_loopw [8] (fun i wr => ∃ (k : Nat) (s : σ), k ≤ N ∧ i = .int .i64 k ∧ Hid (runM t step cont (rangeFrom 0 N) s0 = runM t step cont (rangeFrom k N) s) ∧ Hid (Inv k s wr)) (fun i _ => N - (intOf i).toNat)
  case atStart => exact ⟨0, s0, by omega, rfl, rfl, HI.out⟩
  case round =>
    obtain ⟨k, s, hk, rfl, hr, hI⟩ := hrel
    obtain ⟨hc0, hc1, htr⟩ := HP.out k s wr hI.out
    by_cases hlt : k < N
    · cases hb : allB (k : Int) t with
      | false =>
        have HF := hide (show runM t step cont (rangeFrom 0 N) s0 = runM t step cont (rangeFrom (k + 1) N) s by rw [hr.out, rangeFrom_lt hlt, runM_no hb])
        go_wp2_with (go_at_call 150; refine (i_isModel _ _ _ _ htr HS.out (by omega)).mono ?_; rintro e w1 ⟨rfl, hb1⟩)
        go_roundw
        case rel => exact ⟨k + 1, s, by omega, by go_num, HF.out, HSK.out _ _ _ (HST.out _ _ _ _ hI.out hb1)⟩
        case measure => simp [intOf]; omega
      | true =>
        cases hct : cont s k with
        | true =>
          have HF := hide (show runM t step cont (rangeFrom 0 N) s0 = runM t step cont (rangeFrom (k + 1) N) (step s k) by rw [hr.out, rangeFrom_lt hlt, runM_on hb hct])
          go_wp2_with (go_at_call 150; refine (i_isModel _ _ _ _ htr HS.out (by omega)).mono ?_; rintro e w1 ⟨rfl, hb1⟩)
          refine (HSP.out s w1 k (HST.out _ _ _ _ hI.out hb1) (by omega)).mono ?_
          rintro e w2 ⟨rfl, hI2⟩
          have HI2 := hide hI2
          clear hI2
          go_wp2_with fail
          go_roundw
          case rel => exact ⟨k + 1, step s k, by omega, by go_num, HF.out, HI2.out⟩
          case measure => simp [intOf]; omega
        | false =>
          have HF := hide (show runM t step cont (rangeFrom 0 N) s0 = step s k by rw [hr.out, rangeFrom_lt hlt, runM_stop hb hct])
          go_wp2_with (go_at_call 150; refine (i_isModel _ _ _ _ htr HS.out (by omega)).mono ?_; rintro e w1 ⟨rfl, hb1⟩)
          refine (HSP.out s w1 k (HST.out _ _ _ _ hI.out hb1) (by omega)).mono ?_
          rintro e w2 ⟨rfl, hI2⟩
          have HI2 := hide hI2
          clear hI2
          go_wp2_with fail
          refine bodyPost_ret (results_none rfl _ _ _) rfl ?_
          exact ⟨rfl, k + 1, by rw [HF.out]; exact HI2.out⟩
    · obtain rfl : k = N := by omega
      go_wp2_with fail
      go_end0
      exact ⟨rfl, _, by rw [hr.out, rangeFrom_end]; exact hI.out⟩

end Go.Proofs.Ytlipmbcjpmbjnaa
