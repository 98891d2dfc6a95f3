/- The contract of LeastCore: the reference's. -/
import Derived.Test.YtkmkdfogpdndoaaLeast
import Derived.Test.YtkmkdfogpdndoaaTopC
namespace Go.Proofs.Ytkmkdfogpdndoaa
open Go.RowKit
set_option linter.unusedVariables false

def leastP (f : CnfL) : List Nat → Bool := fun l => coreB f.1 f.2 (castL l)

set_option maxHeartbeats 1600000 in
theorem S_LeastCore {hi : Nat} (v : Value) (f : CnfL) (r0 : List Int) (r1 : Bool) (w : World) (h : RCnf hi w v f) (hn0 : szC f ≤ 1048576) (hR : fLeastCore f = (r0, r1)) :
    Calls Try.prog 44 #[v] w fun e w' => ∃ v', e = .returned (.tuple #[v', .bool r1]) ∧ FInts w.heap.size w'.heap.size w' v' r0 ∧ Below w.heap.size w w' := by
  obtain ⟨A, m, c, rfl, ht⟩ := h.open2
  obtain ⟨vars, t⟩ := f
  dsimp only at ht ⊢
  obtain ⟨N, hN⟩ : ∃ N, t.length = N := ⟨_, rfl⟩
  have hlen : m = t.length := by obtain ⟨A', c', ps', e, _⟩ := ht; injection e with _ e2
  subst hlen
  rw [hN] at ht ⊢
  obtain ⟨wb, hwb⟩ : ∃ wb, wb = w.alloc (.cells #[.int .i64 vars, .slice A N c] 29) := ⟨_, rfl⟩
  have hal : Below w.heap.size w wb := by rw [hwb]; exact (Below.refl _ _).alloc (Nat.le_refl _) _
  have hBb : Blk wb w.heap.size 29 #[.int .i64 vars, .slice A N c] := by rw [hwb]; exact Blk.new _ _ _
  obtain ⟨x00, x01, -, -⟩ := blkTwo hBb
  have htb := ht.top.below hal
  have HWB := hide hwb
  have HN := hide hN
  clear hwb h ht hN
  cases hg : goodB (vars, t) with
  | false =>
    obtain ⟨rfl, rfl⟩ : r0 = [] ∧ r1 = false := by simpa [fLeastCore, hg, eq_comm] using hR
    clear hR
    go_enter Try.func44, Try.ntmps44
    go_wp2_with fail
    rw [← HWB.out]
    refine (s_l2Good _ (vars, t) _ ⟨_, rfl, htb⟩).mono ?_
    rintro e w1 ⟨rfl, hb1⟩
    rw [hg]
    go_wp2_with fail
    go_ret2
    exact ⟨_, rfl, ⟨_, _, rfl, Nat.le_refl _, by simp [maxLen], Own.nil _ _ _ _⟩, (below_stp hal hb1).trans ((Below.refl _ _).alloc (below_stp hal hb1).size _)⟩
  | true =>
    by_cases h12 : N ≤ 12
    · cases hs : satB (vars, t) with
      | true =>
        obtain ⟨rfl, rfl⟩ : r0 = [] ∧ r1 = false := by simpa [fLeastCore, hg, hs, HN.out, h12, eq_comm] using hR
        clear hR
        go_enter Try.func44, Try.ntmps44
        go_wp2_with fail
        rw [← HWB.out]
        refine (s_l2Good _ (vars, t) _ ⟨_, rfl, htb⟩).mono ?_
        rintro e w1 ⟨rfl, hb1⟩
        rw [hg]
        replace x00 := below_old hb1 _ _ x00
        replace x01 := below_old hb1 _ _ x01
        replace htb := htb.below hb1
        go_wp2_with fail
        refine (s_l5Sat _ (vars, t) _ ⟨_, rfl, htb⟩ hg).mono ?_
        rintro e w2 ⟨rfl, hb2⟩
        rw [hs]
        have hb12 := below_stp (below_stp hal hb1) hb2
        go_wp2_with fail
        go_ret2
        exact ⟨_, rfl, ⟨_, _, rfl, Nat.le_refl _, by simp [maxLen], Own.nil _ _ _ _⟩, hb12.trans ((Below.refl _ _).alloc hb12.size _)⟩
      | false =>
        obtain ⟨n, hv, hn⟩ := varsB_nat (goodB_parts hg).1
        dsimp only at hv
        subst hv
        have HS := hide (goodB_small hg)
        have hRR : (match leastF (leastP ((n : Int), t)) N (rangeFrom 0 (N + 1)) with | some l => (castL l, true) | none => ([], false)) = (r0, r1) := by
          rw [← hR]
          unfold fLeastCore
          rw [if_pos hg]
          dsimp only
          rw [HN.out, if_pos (by simpa using h12), hs]
          rfl
        have HR := hide hRR
        clear hR hRR
        go_enter Try.func44, Try.ntmps44
        go_wp2_with fail
        rw [← HWB.out]
        refine (s_l2Good _ ((n : Int), t) _ ⟨_, rfl, htb⟩).mono ?_
        rintro e w1 ⟨rfl, hb1⟩
        rw [hg]
        replace x00 := below_old hb1 _ _ x00
        replace x01 := below_old hb1 _ _ x01
        replace htb := htb.below hb1
        go_wp2_with fail
        refine (s_l5Sat _ ((n : Int), t) _ ⟨_, rfl, htb⟩ hg).mono ?_
        rintro e w2 ⟨rfl, hb2⟩
        rw [hs]
        replace x00 := below_old hb2 _ _ x00
        replace x01 := below_old hb2 _ _ x01
        have HT := hide (htb.below hb2)
        have hb12 := below_stp (below_stp hal hb1) hb2
        have hs2 := hb12.size
        clear htb hb1 hb2
        go_wp2_with fail
        go_loopw [4] (fun i wr => ∃ k : Nat, k ≤ N + 1 ∧ i = .int .i64 k ∧ Hid (leastF (leastP ((n : Int), t)) N (rangeFrom 0 (N + 1)) = leastF (leastP ((n : Int), t)) N (rangeFrom k (N + 1))) ∧ Below w2.heap.size w2 wr) (fun i _ => (N + 1) - (intOf i).toNat)
        case atStart => exact ⟨0, Nat.zero_le _, rfl, rfl, Below.refl _ _⟩
        case round =>
          obtain ⟨k, hk, rfl, hch, hbel⟩ := hrel
          have y00 := below_old hbel _ _ x00
          have y01 := below_old hbel _ _ x01
          have hsr := hbel.size
          by_cases hlt : k ≤ N
          · have hstep : leastF (leastP ((n : Int), t)) N (rangeFrom k (N + 1)) = match chooseR n t k 0 [] with | some l => some l | none => leastF (leastP ((n : Int), t)) N (rangeFrom (k + 1) (N + 1)) := by
              rw [rangeFrom_lt (by omega), leastF]
              unfold chooseR
              rw [HN.out]
              rfl
            have HCS := hide (hch.out.trans hstep)
            have hal2 : Below wr.heap.size wr (wr.alloc (.cells #[] 3)) := (Below.refl _ _).alloc (Nat.le_refl _) _
            have HREC := hide (show Calls Try.prog 105 #[.agg #[.int .i64 n, .slice A N c], .slice (some ⟨wr.heap.size, 0, none⟩) 0 0, .int .i64 k] (wr.alloc (.cells #[] 3)) fun e w' => ∃ v' zs r1, e = .returned (.tuple #[v', .bool r1]) ∧ FInts (wr.alloc (.cells #[] 3)).heap.size w'.heap.size w' v' zs ∧ chooseP n t k [] zs r1 ∧ Below (wr.alloc (.cells #[] 3)).heap.size (wr.alloc (.cells #[] 3)) w' from by
              have h9 := s_l5Choose n A c t hn HS.out (by rw [HN.out]; exact h12) k _ wr.heap.size wr.heap.size 0 0 [] (wr.alloc (.cells #[] 3)) (by rw [HN.out]; exact (HT.out.below hbel).below hal2) ⟨_, _, rfl, Nat.le_refl _, by simp [maxLen], Row.nil _ _ _⟩ (by simp) (by simp; omega)
              rw [HN.out] at h9
              exact h9)
            have HAL2 := hide hal2
            clear hch hstep hal2
            go_wp2_with fail
            refine HREC.out.mono ?_
            rintro e w5 ⟨v5, zs5, r5, rfl, hF5, hP5, hb5⟩
            have hbf := below_stp hbel (below_stp HAL2.out hb5)
            have hsa := HAL2.out.size
            cases r5 with
            | true =>
              have HF := hide hF5
              have HP := hide hP5
              go_wp2_with fail
              go_ret2
              obtain ⟨l, hl⟩ : ∃ l, chooseR n t k 0 [] = some l := by
                have h1 := HP.out.1
                change true = (chooseR n t k 0 []).isSome at h1
                cases hc : chooseR n t k 0 [] with
                | none => rw [hc] at h1; cases h1
                | some l => exact ⟨l, rfl⟩
              have hz : zs5 = castL l := HP.out.2 l hl
              have hr := HR.out
              rw [HCS.out, hl] at hr
              injection hr with hr1 hr2
              subst hr1 hr2
              exact ⟨_, rfl, by rw [← hz]; exact HF.out.mono (Nat.le_trans hs2 (Nat.le_trans hsr hsa)) (Nat.le_refl _), hb12.trans (hbf.mono hs2)⟩
            | false =>
              have HP := hide hP5
              go_wp2_with fail
              go_roundw
              case rel =>
                refine ⟨k + 1, by omega, by go_num, ?_, hbf⟩
                have h1 := HP.out.1
                change false = (chooseR n t k 0 []).isSome at h1
                refine HCS.out.trans ?_
                cases hc : chooseR n t k 0 [] with
                | none => rfl
                | some l => rw [hc] at h1; cases h1
              case measure => simp [intOf]; omega
          · obtain rfl : k = N + 1 := by omega
            go_wp2_with fail
            go_ret2
            have hr := HR.out
            rw [hch.out, show rangeFrom (N + 1) (N + 1) = [] from by simp [rangeFrom]] at hr
            injection hr with hr1 hr2
            subst hr1 hr2
            exact ⟨_, rfl, ⟨_, _, rfl, Nat.le_refl _, by simp [maxLen], Own.nil _ _ _ _⟩, (hb12.trans (hbel.mono hs2)).trans ((Below.refl _ _).alloc (by omega) _)⟩
    · obtain ⟨rfl, rfl⟩ : r0 = [] ∧ r1 = false := by simpa [fLeastCore, hg, HN.out, h12, eq_comm] using hR
      clear hR
      go_enter Try.func44, Try.ntmps44
      go_wp2_with fail
      rw [← HWB.out]
      refine (s_l2Good _ (vars, t) _ ⟨_, rfl, htb⟩).mono ?_
      rintro e w1 ⟨rfl, hb1⟩
      rw [hg]
      replace x00 := below_old hb1 _ _ x00
      replace x01 := below_old hb1 _ _ x01
      go_wp2_with fail
      go_ret2
      exact ⟨_, rfl, ⟨_, _, rfl, Nat.le_refl _, by simp [maxLen], Own.nil _ _ _ _⟩, (below_stp hal hb1).trans ((Below.refl _ _).alloc (below_stp hal hb1).size _)⟩

end Go.Proofs.Ytkmkdfogpdndoaa
