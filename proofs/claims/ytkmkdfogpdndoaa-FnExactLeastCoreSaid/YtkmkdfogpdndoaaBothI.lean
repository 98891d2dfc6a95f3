/- The contract of the program's BothCnfs. -/
import Derived.Test.YtkmkdfogpdndoaaBoth
import Derived.Test.YtkmkdfogpdndoaaCat
import Derived.Test.YtkmkdfogpdndoaaPl2
import Derived.Deep.RegionHeld3
namespace Go.Proofs.Ytkmkdfogpdndoaa
open Go.RowKit
set_option linter.unusedVariables false

theorem below_step {w W w' : World} (h : Below w.heap.size w W) (hb : Below W.heap.size W w') : Below w.heap.size w w' := h.trans (hb.mono h.size)
theorem fBothCnfs_len {f g r0 : CnfL} {r1 : Bool} (hn : szC f ≤ 1048576) (hn2 : szC g ≤ 1048576) (hR : fBothCnfs f g = (r0, r1)) : szC r0 ≤ 1048576 := by
  have h0 : szC ((0, []) : CnfL) ≤ 1048576 := by simp [szC, cntT]
  unfold fBothCnfs at hR
  split at hR
  · split at hR
    · split at hR
      · rename_i hg
        injection hR with h1 _
        have := goodB_sz hg
        rw [← h1]; omega
      · injection hR with h1 _; rw [← h1]; exact h0
    · injection hR with h1 _; rw [← h1]; exact h0
  · injection hR with h1 _; rw [← h1]; exact h0

set_option maxHeartbeats 1600000 in
theorem I_BothCnfs {hi hi' : Nat} (v : Value) (f : CnfL) (v2 : Value) (g : CnfL) (r0 : CnfL) (r1 : Bool) (w : World) (h : RCnf hi w v f) (h2 : RCnf hi' w v2 g) (hn0 : szC f ≤ 1048576) (hn1 : szC g ≤ 1048576) (hR : fBothCnfs f g = (r0, r1)) :
    Calls Try.prog 33 #[v, v2] w fun e w' => ∃ v', e = .returned (.tuple #[v', .bool r1]) ∧ FCnf w.heap.size w'.heap.size w' v' r0 ∧ Below w.heap.size w w' := by
  obtain ⟨A, n1, c, rfl, ht⟩ := h.open2
  obtain ⟨A2, n2, c2, rfl, hu⟩ := h2.open2
  obtain ⟨vars, t⟩ := f
  obtain ⟨vars2, u⟩ := g
  dsimp only at ht hu ⊢
  obtain ⟨wa, hwa⟩ : ∃ wa, wa = (w.alloc (.cells #[.int .i64 vars, .slice A n1 c] 29)).alloc (.cells #[.int .i64 vars2, .slice A2 n2 c2] 29) := ⟨_, rfl⟩
  have hala : Below w.heap.size w wa := by rw [hwa]; exact ((Below.refl _ _).alloc (Nat.le_refl _) _).alloc (by simp) _
  have hsa : wa.heap.size = w.heap.size + 1 + 1 := by rw [hwa]; simp
  have xa00 : wa.cell? ⟨w.heap.size, 0, none⟩ = some (.int .i64 vars) := by rw [hwa]; simp
  have xa01 : wa.cell? ⟨w.heap.size, 1, none⟩ = some (.slice A n1 c) := by rw [hwa]; simp
  have xa10 : wa.cell? ⟨w.heap.size + 1, 0, none⟩ = some (.int .i64 vars2) := by rw [hwa]; simp
  have xa11 : wa.cell? ⟨w.heap.size + 1, 1, none⟩ = some (.slice A2 n2 c2) := by rw [hwa]; simp
  obtain ⟨wb, hwb⟩ : ∃ wb, wb = wa.alloc (.cells #[.int .i64 0, .slice none 0 0] 29) := ⟨_, rfl⟩
  have halb : Below wa.heap.size wa wb := by rw [hwb]; exact (Below.refl _ _).alloc (Nat.le_refl _) _
  have hyr : Blk wb (w.heap.size + 1 + 1) 29 #[.int .i64 0, .slice none 0 0] := by rw [hwb, ← hsa]; exact Blk.new _ _ _
  have x00 := below_old halb _ _ xa00
  have x01 := below_old halb _ _ xa01
  have x10 := below_old halb _ _ xa10
  have x11 := below_old halb _ _ xa11
  have hal := hala.trans (halb.mono (by omega))
  have tf := ht.top.below hal
  have tg := hu.top.below hal
  have HGE := hide (show w.heap.size ≤ w.heap.size + 1 + 1 by omega)
  have HWB := hide (show wb = ((w.alloc (.cells #[.int .i64 vars, .slice A n1 c] 29)).alloc (.cells #[.int .i64 vars2, .slice A2 n2 c2] 29)).alloc (.cells #[.int .i64 0, .slice none 0 0] 29) by rw [hwb, hwa])
  clear hwb hwa h h2 hala halb hsa xa00 xa01 xa10 xa11
  cases hg : goodB (vars, t) with
  | false =>
    obtain ⟨rfl, rfl⟩ : r0 = (0, []) ∧ r1 = false := by simpa [fBothCnfs, hg, eq_comm] using hR
    clear hR
    go_enter Try.func33, Try.ntmps33
    go_wp2_with fail
    rw [← HWB.out]
    refine (i_IsCnf _ (vars, t) _ ⟨_, rfl, tf⟩).mono ?_
    rintro e w1 ⟨rfl, hb1⟩
    rw [hg]
    have hyr := hyr.below hb1 hyr.lt
    obtain ⟨z0, z1, g0, g1⟩ := blkTwo hyr
    obtain ⟨u0, u1, -, -⟩ := blkTwo (blkSet hyr (.int .i64 0) (.slice none 0 0))
    have HB := hide (((hal.trans (hb1.mono hal.size)).setCell (p := ⟨w.heap.size + 1 + 1, 0, none⟩) HGE.out (.int .i64 0)).setCell (p := ⟨w.heap.size + 1 + 1, 1, none⟩) HGE.out (.slice none 0 0))
    go_wp2_with fail
    refine bodyPost_ret (v := .tuple #[.agg #[.int .i64 0, .slice none 0 0], .bool false]) (by simp [results, Try.results33, go_sem, u0, u1]) rfl ⟨_, rfl, ⟨_, rfl, FTab.nil _ _ _⟩, HB.out⟩
  | true =>
    cases hg2 : goodB (vars2, u) with
    | false =>
      obtain ⟨rfl, rfl⟩ : r0 = (0, []) ∧ r1 = false := by simpa [fBothCnfs, hg, hg2, eq_comm] using hR
      clear hR
      go_enter Try.func33, Try.ntmps33
      go_wp2_with fail
      rw [← HWB.out]
      refine (i_IsCnf _ (vars, t) _ ⟨_, rfl, tf⟩).mono ?_
      rintro e w1 ⟨rfl, hb1⟩
      rw [hg]
      replace x10 := below_old hb1 _ _ x10
      replace x11 := below_old hb1 _ _ x11
      replace tg := tg.below hb1
      replace hal := hal.trans (hb1.mono hal.size)
      replace hyr := hyr.below hb1 hyr.lt
      go_wp2_with fail
      refine (i_IsCnf _ (vars2, u) _ ⟨_, rfl, tg⟩).mono ?_
      rintro e w2 ⟨rfl, hb2⟩
      rw [hg2]
      have hyr := hyr.below hb2 hyr.lt
      obtain ⟨z0, z1, g0, g1⟩ := blkTwo hyr
      obtain ⟨u0, u1, -, -⟩ := blkTwo (blkSet hyr (.int .i64 0) (.slice none 0 0))
      have HB := hide (((hal.trans (hb2.mono hal.size)).setCell (p := ⟨w.heap.size + 1 + 1, 0, none⟩) HGE.out (.int .i64 0)).setCell (p := ⟨w.heap.size + 1 + 1, 1, none⟩) HGE.out (.slice none 0 0))
      go_wp2_with fail
      refine bodyPost_ret (v := .tuple #[.agg #[.int .i64 0, .slice none 0 0], .bool false]) (by simp [results, Try.results33, go_sem, u0, u1]) rfl ⟨_, rfl, ⟨_, rfl, FTab.nil _ _ _⟩, HB.out⟩
    | true =>
      obtain ⟨gd, hgd⟩ : ∃ gd, goodB (bothF (vars, t) (vars2, u)) = gd := ⟨_, rfl⟩
      have hr : r0 = (if gd then bothF (vars, t) (vars2, u) else (0, [])) ∧ r1 = gd := by
        simp only [fBothCnfs, hg, hg2, hgd, if_true] at hR
        cases gd <;> simpa [eq_comm] using hR
      have HR := hide hr
      have HT := hide (show t.length ≤ 1048576 from Nat.le_trans (goodB_len hg) (by omega))
      have HU := hide (show u.length ≤ 1048576 from Nat.le_trans (goodB_len hg2) (by omega))
      have HTU := hide (show (t ++ u).length ≤ 16777216 by have := goodB_len hg; have := goodB_len hg2; dsimp only at *; rw [List.length_append]; omega)
      have HZ := hide (show ∀ z ∈ t ++ u, z.length ≤ 16777216 from fun z hz => by
        rcases List.mem_append.1 hz with hz | hz
        · have h1 := mem_cntT hz; have h2 : szT t ≤ 1048576 := hn0; unfold szT at h2; omega
        · have h1 := mem_cntT hz; have h2 : szT u ≤ 1048576 := hn1; unfold szT at h2; omega)
      clear hR hr
      go_enter Try.func33, Try.ntmps33
      go_wp2_with fail
      rw [← HWB.out]
      refine (i_IsCnf _ (vars, t) _ ⟨_, rfl, tf⟩).mono ?_
      rintro e w1 ⟨rfl, hb1⟩
      rw [hg]
      replace x00 := below_old hb1 _ _ x00
      replace x01 := below_old hb1 _ _ x01
      replace x10 := below_old hb1 _ _ x10
      replace x11 := below_old hb1 _ _ x11
      replace tf := tf.below hb1
      replace tg := tg.below hb1
      replace hyr := hyr.below hb1 hyr.lt
      replace hal := hal.trans (hb1.mono hal.size)
      go_wp2_with fail
      refine (i_IsCnf _ (vars2, u) _ ⟨_, rfl, tg⟩).mono ?_
      rintro e w2 ⟨rfl, hb2⟩
      rw [hg2]
      replace x00 := below_old hb2 _ _ x00
      replace x01 := below_old hb2 _ _ x01
      replace x10 := below_old hb2 _ _ x10
      replace x11 := below_old hb2 _ _ x11
      replace tf := tf.below hb2
      replace tg := tg.below hb2
      replace hyr := hyr.below hb2 hyr.lt
      replace hal := hal.trans (hb2.mono hal.size)
      clear hb1 hb2 ht hu
      obtain ⟨M, hM⟩ : ∃ M : Int, (if vars < vars2 then vars2 else vars) = M := ⟨_, rfl⟩
      have HM := hide (show topI vars vars2 = M from hM)
      go_wp2_with fail
      go_region_held3 (fun w' => w'.cell? ⟨w.heap.size, 0, none⟩ = some (.int .i64 vars) ∧ w'.cell? ⟨w.heap.size, 1, none⟩ = some (.slice A n1 c) ∧ w'.cell? ⟨w.heap.size + 1, 0, none⟩ = some (.int .i64 vars2) ∧ w'.cell? ⟨w.heap.size + 1, 1, none⟩ = some (.slice A2 n2 c2)) (refine ⟨below_old (w := w2) ?_ _ _ x00, below_old (w := w2) ?_ _ _ x01, below_old (w := w2) ?_ _ _ x10, below_old (w := w2) ?_ _ _ x11⟩ <;> (repeat (first | exact hB4 | exact hB3 | exact Below.refl _ _ | apply below_drew_of | apply below_alloc_of)))
        ((first | (go_at_call 75; go_loud(refine (g_ConcatT w2.heap.size _ _ t u _ (tf.below (by (repeat (first | exact Below.refl _ _ | apply below_drew_of | apply below_alloc_of)))) (tg.below (by (repeat (first | exact Below.refl _ _ | apply below_drew_of | apply below_alloc_of)))) (by simp) (by simp) HT.out HU.out).mono ?_; rintro e w3 ⟨v3, rfl, ht3, hb3⟩; have hB3 := below_step (w := w2) (by (repeat (first | exact Below.refl _ _ | apply below_drew_of | apply below_alloc_of))) hb3; have ht3size := hB3.size)) | (go_at_call 64; go_loud(refine (i_cloneLists _ (t ++ u) _ ht3 HTU.out HZ.out).mono ?_; rintro e w4 ⟨v4, ps, rfl, hps, hF, hb4⟩; have hB4 := below_step hB3 hb4; obtain ⟨A4, c4, rfl⟩ := hF.open_))))
      all_goals (obtain ⟨w5, hw5⟩ : ∃ w5, w5 = w4.alloc (.cells #[.int .i64 M, .slice A4 ps.length c4] 60) := ⟨_, rfl⟩)
      all_goals (have hb5 : Below w4.heap.size w4 w5 := (by rw [hw5]; exact (Below.refl _ _).alloc (Nat.le_refl _) _); have hB5 : Blk w5 w4.heap.size 60 #[.int .i64 M, .slice A4 ps.length c4] := (by rw [hw5]; exact Blk.new _ _ _); have hw24 : w.heap.size + 1 + 1 < w2.heap.size := hyr.lt; have hF5 : FRT (w.heap.size + 1 + 1 + 1) w5 (.slice A4 ps.length c4) ps := (hF.below hb5).mono (Nat.le_trans hw24 (Nat.le_trans (Nat.le_refl _) ht3size)); have hT5 := hF5.ftab.read; rw [hps] at hT5; have hy5 := (hyr.below hB4 hyr.lt).below hb5 (Nat.lt_of_lt_of_le hyr.lt hB4.size); have hal4 := hal.trans (hB4.mono hal.size); have hal5 := hal4.trans (hb5.mono hal4.size); rw [← hw5]; clear hw5)
      all_goals go_wp2_with fail
      all_goals refine (i_famCnf gd M A4 _ c4 (t ++ u) _ _ hB5 hT5 (by rw [← HM.out]; exact hgd)).mono ?_
      all_goals rintro e w7 ⟨rfl, hb7⟩
      all_goals (have hy7 := hy5.below hb7 hy5.lt; obtain ⟨z0, z1, g2, g3⟩ := blkTwo hy7; have hbf := hal5.trans (hb7.mono hal5.size); have hFr := hF5.below hb7; have hNr := hFr.notAt (g := w.heap.size + 1 + 1) (by omega); have hRr := HR.out; rw [show bothF (vars, t) (vars2, u) = (M, t ++ u) from by unfold bothF; rw [HM.out]] at hRr; have HRR := hide hRr; clear hRr)
      all_goals cases gd
      · rw [giveR_no]
        obtain ⟨u0, u1, -, -⟩ := blkTwo (blkSet hy7 (.int .i64 0) (.slice none 0 0))
        have HB := hide ((hbf.setCell (p := ⟨w.heap.size + 1 + 1, 0, none⟩) HGE.out (.int .i64 0)).setCell (p := ⟨w.heap.size + 1 + 1, 1, none⟩) HGE.out (.slice none 0 0))
        go_wp2_with fail
        obtain ⟨hr0, rfl⟩ := HRR.out
        have hr0' : r0 = (0, []) := hr0
        refine bodyPost_ret (v := .tuple #[.agg #[.int .i64 0, .slice none 0 0], .bool false]) (by simp [results, Try.results33, go_sem, u0, u1]) rfl ⟨_, rfl, by rw [hr0']; exact ⟨_, rfl, FTab.nil _ _ _⟩, HB.out⟩
      · rw [giveR_yes]
        obtain ⟨u0, u1, -, -⟩ := blkTwo (blkSet hy7 (.int .i64 M) (.slice A4 ps.length c4))
        have HB := hide ((hbf.setCell (p := ⟨w.heap.size + 1 + 1, 0, none⟩) HGE.out (.int .i64 M)).setCell (p := ⟨w.heap.size + 1 + 1, 1, none⟩) HGE.out (.slice A4 ps.length c4))
        have HFS := hide ((hFr.set_ hNr 0 (.int .i64 M)).set_ hNr 1 (.slice A4 ps.length c4))
        go_wp2_with fail
        obtain ⟨hr0, rfl⟩ := HRR.out
        have hr0' : r0 = (M, t ++ u) := hr0
        refine bodyPost_ret (v := .tuple #[.agg #[.int .i64 M, (.slice A4 ps.length c4)], .bool true]) (by simp [results, Try.results33, go_sem, u0, u1]) rfl ⟨_, rfl, by rw [hr0']; exact ⟨_, rfl, by have h9 := HFS.out.ftab; rw [hps] at h9; exact h9.mono (by omega) (Nat.le_refl _)⟩, HB.out⟩
      · rw [giveR_no]
        obtain ⟨u0, u1, -, -⟩ := blkTwo (blkSet hy7 (.int .i64 0) (.slice none 0 0))
        have HB := hide ((hbf.setCell (p := ⟨w.heap.size + 1 + 1, 0, none⟩) HGE.out (.int .i64 0)).setCell (p := ⟨w.heap.size + 1 + 1, 1, none⟩) HGE.out (.slice none 0 0))
        go_wp2_with fail
        obtain ⟨hr0, rfl⟩ := HRR.out
        have hr0' : r0 = (0, []) := hr0
        refine bodyPost_ret (v := .tuple #[.agg #[.int .i64 0, .slice none 0 0], .bool false]) (by simp [results, Try.results33, go_sem, u0, u1]) rfl ⟨_, rfl, by rw [hr0']; exact ⟨_, rfl, FTab.nil _ _ _⟩, HB.out⟩
      · rw [giveR_yes]
        obtain ⟨u0, u1, -, -⟩ := blkTwo (blkSet hy7 (.int .i64 M) (.slice A4 ps.length c4))
        have HB := hide ((hbf.setCell (p := ⟨w.heap.size + 1 + 1, 0, none⟩) HGE.out (.int .i64 M)).setCell (p := ⟨w.heap.size + 1 + 1, 1, none⟩) HGE.out (.slice A4 ps.length c4))
        have HFS := hide ((hFr.set_ hNr 0 (.int .i64 M)).set_ hNr 1 (.slice A4 ps.length c4))
        go_wp2_with fail
        obtain ⟨hr0, rfl⟩ := HRR.out
        have hr0' : r0 = (M, t ++ u) := hr0
        refine bodyPost_ret (v := .tuple #[.agg #[.int .i64 M, (.slice A4 ps.length c4)], .bool true]) (by simp [results, Try.results33, go_sem, u0, u1]) rfl ⟨_, rfl, by rw [hr0']; exact ⟨_, rfl, by have h9 := HFS.out.ftab; rw [hps] at h9; exact h9.mono (by omega) (Nat.le_refl _)⟩, HB.out⟩
      · rw [giveR_no]
        obtain ⟨u0, u1, -, -⟩ := blkTwo (blkSet hy7 (.int .i64 0) (.slice none 0 0))
        have HB := hide ((hbf.setCell (p := ⟨w.heap.size + 1 + 1, 0, none⟩) HGE.out (.int .i64 0)).setCell (p := ⟨w.heap.size + 1 + 1, 1, none⟩) HGE.out (.slice none 0 0))
        go_wp2_with fail
        obtain ⟨hr0, rfl⟩ := HRR.out
        have hr0' : r0 = (0, []) := hr0
        refine bodyPost_ret (v := .tuple #[.agg #[.int .i64 0, .slice none 0 0], .bool false]) (by simp [results, Try.results33, go_sem, u0, u1]) rfl ⟨_, rfl, by rw [hr0']; exact ⟨_, rfl, FTab.nil _ _ _⟩, HB.out⟩
      · rw [giveR_yes]
        obtain ⟨u0, u1, -, -⟩ := blkTwo (blkSet hy7 (.int .i64 M) (.slice A4 ps.length c4))
        have HB := hide ((hbf.setCell (p := ⟨w.heap.size + 1 + 1, 0, none⟩) HGE.out (.int .i64 M)).setCell (p := ⟨w.heap.size + 1 + 1, 1, none⟩) HGE.out (.slice A4 ps.length c4))
        have HFS := hide ((hFr.set_ hNr 0 (.int .i64 M)).set_ hNr 1 (.slice A4 ps.length c4))
        go_wp2_with fail
        obtain ⟨hr0, rfl⟩ := HRR.out
        have hr0' : r0 = (M, t ++ u) := hr0
        refine bodyPost_ret (v := .tuple #[.agg #[.int .i64 M, (.slice A4 ps.length c4)], .bool true]) (by simp [results, Try.results33, go_sem, u0, u1]) rfl ⟨_, rfl, by rw [hr0']; exact ⟨_, rfl, by have h9 := HFS.out.ftab; rw [hps] at h9; exact h9.mono (by omega) (Nat.le_refl _)⟩, HB.out⟩
      · rw [giveR_no]
        obtain ⟨u0, u1, -, -⟩ := blkTwo (blkSet hy7 (.int .i64 0) (.slice none 0 0))
        have HB := hide ((hbf.setCell (p := ⟨w.heap.size + 1 + 1, 0, none⟩) HGE.out (.int .i64 0)).setCell (p := ⟨w.heap.size + 1 + 1, 1, none⟩) HGE.out (.slice none 0 0))
        go_wp2_with fail
        obtain ⟨hr0, rfl⟩ := HRR.out
        have hr0' : r0 = (0, []) := hr0
        refine bodyPost_ret (v := .tuple #[.agg #[.int .i64 0, .slice none 0 0], .bool false]) (by simp [results, Try.results33, go_sem, u0, u1]) rfl ⟨_, rfl, by rw [hr0']; exact ⟨_, rfl, FTab.nil _ _ _⟩, HB.out⟩
      · rw [giveR_yes]
        obtain ⟨u0, u1, -, -⟩ := blkTwo (blkSet hy7 (.int .i64 M) (.slice A4 ps.length c4))
        have HB := hide ((hbf.setCell (p := ⟨w.heap.size + 1 + 1, 0, none⟩) HGE.out (.int .i64 M)).setCell (p := ⟨w.heap.size + 1 + 1, 1, none⟩) HGE.out (.slice A4 ps.length c4))
        have HFS := hide ((hFr.set_ hNr 0 (.int .i64 M)).set_ hNr 1 (.slice A4 ps.length c4))
        go_wp2_with fail
        obtain ⟨hr0, rfl⟩ := HRR.out
        have hr0' : r0 = (M, t ++ u) := hr0
        refine bodyPost_ret (v := .tuple #[.agg #[.int .i64 M, (.slice A4 ps.length c4)], .bool true]) (by simp [results, Try.results33, go_sem, u0, u1]) rfl ⟨_, rfl, by rw [hr0']; exact ⟨_, rfl, by have h9 := HFS.out.ftab; rw [hps] at h9; exact h9.mono (by omega) (Nat.le_refl _)⟩, HB.out⟩

end Go.Proofs.Ytkmkdfogpdndoaa
