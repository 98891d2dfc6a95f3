/- The contracts of the exported BothCnfs. -/
import Derived.Test.YtkmkdfogpdndoaaFam2
import Derived.Test.YtkmkdfogpdndoaaTabs2
import Derived.Test.YtkmkdfogpdndoaaWid
namespace Go.Proofs.Ytkmkdfogpdndoaa
open Go.RowKit
set_option linter.unusedVariables false

def topI (a b : Int) : Int := if a < b then b else a
/-- both formulas in one -/
def bothF (f g : CnfL) : CnfL := (topI f.1 g.1, f.2 ++ g.2)
def fBothCnfs (f g : CnfL) : CnfL × Bool := if goodB f then (if goodB g then (if goodB (bothF f g) then (bothF f g, true) else ((0, []), false)) else ((0, []), false)) else ((0, []), false)

theorem s_l1Most' (a b : Int) (w : World) : Calls Try.prog 74 #[.int .i64 a, .int .i64 b] w fun e w' => e = .returned (.int .i64 (topI a b)) ∧ w = w' := by
  by_cases h : b < a
  · have HM := hide (show topI a b = a by unfold topI; rw [if_neg (by omega)])
    go_enter Try.func74, Try.ntmps74
    go_wp2_with fail
    go_ret
    exact ⟨by rw [HM.out]; rfl, rfl⟩
  · have HM := hide (show topI a b = b by unfold topI; by_cases h2 : a < b; (· rw [if_pos h2]); (· rw [if_neg h2]; omega))
    go_enter Try.func74, Try.ntmps74
    go_wp2_with fail
    go_ret
    exact ⟨by rw [HM.out]; rfl, rfl⟩
theorem FRT.mono {base base' : Nat} {w : World} {v : Value} {ps : List (Value × List Int)} (h : FRT base w v ps) (hb : base' ≤ base) : FRT base' w v ps := by
  refine ⟨⟨h.1.1, ?_⟩, h.2.1.mono hb (Nat.le_refl _), h.2.2⟩
  rcases h.1.2 with h1 | ⟨g, cap, cur, rfl, h2, hr⟩
  · exact .inl h1
  · exact .inr ⟨g, cap, cur, rfl, Nat.le_trans hb h2, hr⟩
theorem fldCnf (x : Int) (A : Option Addr) (n c : Nat) (W : World) : (Instr.field 29 (.agg #[.int .i64 x, .slice A n c]) 1).run Try.prog W = .ok (.slice A n c) W := by kernel_rfl
theorem NotAt.append {g : Nat} {wr wm : World} {v v' v2 : Value} {ps qs : List (Value × List Int)} (h : NotAt g v ps) (hg : g < wr.heap.size) (hu : FRT wr.heap.size wm v2 qs) (hat : ∀ b, v'.ownBlock = some b → v.ownBlock = some b ∨ wr.heap.size ≤ b) : NotAt g v' (ps ++ qs) := by
  refine ⟨fun e => ?_, fun p hp h0 => ?_⟩
  · rcases hat g e with h1 | h1
    · exact h.1 h1
    · omega
  · rcases List.mem_append.1 hp with hp | hp
    · exact h.2 p hp h0
    · exact (hu.notAt hg).2 p hp h0
theorem mem_cntT {z : List Int} : ∀ {t : List (List Int)}, z ∈ t → z.length ≤ cntT t
  | [], h => by simp at h
  | y :: r, h => by
    simp only [cntT]
    rcases List.mem_cons.1 h with rfl | h
    · omega
    · have := mem_cntT h; omega

set_option maxHeartbeats 1600000 in
theorem S_BothCnfs {hi hi' : Nat} (v : Value) (f : CnfL) (v2 : Value) (g : CnfL) (r0 : CnfL) (r1 : Bool) (w : World) (h : RCnf hi w v f) (h2 : RCnf hi' w v2 g) (hn0 : szC f ≤ 1048576) (hn1 : szC g ≤ 1048576) (hR : fBothCnfs f g = (r0, r1)) :
    Calls Try.prog 32 #[v, v2] w fun e w' => ∃ v', e = .returned (.tuple #[v', .bool r1]) ∧ FCnf w.heap.size w'.heap.size w' v' r0 ∧ Below w.heap.size w w' := by
  obtain ⟨A, n1, c, rfl, ht⟩ := h.open2
  obtain ⟨A2, n2, c2, rfl, hu⟩ := h2.open2
  obtain ⟨vars, t⟩ := f
  obtain ⟨vars2, u⟩ := g
  dsimp only at ht hu ⊢
  obtain ⟨wa, hwa⟩ : ∃ wa, wa = (w.alloc (.cells #[.int .i64 vars, .slice A n1 c] 29)).alloc (.cells #[.int .i64 vars2, .slice A2 n2 c2] 29) := ⟨_, rfl⟩
  have hala : Below w.heap.size w wa := by rw [hwa]; exact ((Below.refl _ _).alloc (Nat.le_refl _) _).alloc (by simp) _
  have hsa : wa.heap.size = w.heap.size + 1 + 1 := by rw [hwa]; simp
  have xa00 : wa.cell? ⟨w.heap.size, 0, none⟩ = some (.int .i64 vars) := by rw [hwa]; simp
  have xa01 : wa.cell? ⟨w.heap.size, 1, none⟩ = some (.slice A n1 c) := by rw [hwa]; simp
  have xa10 : wa.cell? ⟨w.heap.size + 1, 0, none⟩ = some (.int .i64 vars2) := by rw [hwa]; simp
  have xa11 : wa.cell? ⟨w.heap.size + 1, 1, none⟩ = some (.slice A2 n2 c2) := by rw [hwa]; simp
  obtain ⟨wb, hwb⟩ : ∃ wb, wb = wa.alloc (.cells #[.int .i64 0, .slice none 0 0] 29) := ⟨_, rfl⟩
  have halb : Below wa.heap.size wa wb := by rw [hwb]; exact (Below.refl _ _).alloc (Nat.le_refl _) _
  have hyr : Blk wb (w.heap.size + 1 + 1) 29 #[.int .i64 0, .slice none 0 0] := by rw [hwb, ← hsa]; exact Blk.new _ _ _
  have x00 := below_old halb _ _ xa00
  have x01 := below_old halb _ _ xa01
  have x10 := below_old halb _ _ xa10
  have x11 := below_old halb _ _ xa11
  have hal := hala.trans (halb.mono (by omega))
  have tf := ht.top.below hal
  have tg := hu.top.below hal
  have HGE := hide (show w.heap.size ≤ w.heap.size + 1 + 1 by omega)
  have HWB := hide (show wb = ((w.alloc (.cells #[.int .i64 vars, .slice A n1 c] 29)).alloc (.cells #[.int .i64 vars2, .slice A2 n2 c2] 29)).alloc (.cells #[.int .i64 0, .slice none 0 0] 29) by rw [hwb, hwa])
  clear hwb hwa h h2 hala halb hsa xa00 xa01 xa10 xa11
  cases hg : goodB (vars, t) with
  | false =>
    obtain ⟨rfl, rfl⟩ : r0 = (0, []) ∧ r1 = false := by simpa [fBothCnfs, hg, eq_comm] using hR
    clear hR
    go_enter Try.func32, Try.ntmps32
    go_wp2_with fail
    rw [← HWB.out]
    refine (s_l2Good _ (vars, t) _ ⟨_, rfl, tf⟩).mono ?_
    rintro e w1 ⟨rfl, hb1⟩
    rw [hg]
    have hyr := hyr.below hb1 hyr.lt
    obtain ⟨z0, z1, g0, g1⟩ := blkTwo hyr
    obtain ⟨u0, u1, -, -⟩ := blkTwo (blkSet hyr (.int .i64 0) (.slice none 0 0))
    have HB := hide (((hal.trans (hb1.mono hal.size)).setCell (p := ⟨w.heap.size + 1 + 1, 0, none⟩) HGE.out (.int .i64 0)).setCell (p := ⟨w.heap.size + 1 + 1, 1, none⟩) HGE.out (.slice none 0 0))
    go_wp2_with fail
    refine bodyPost_ret (v := .tuple #[.agg #[.int .i64 0, .slice none 0 0], .bool false]) (by simp [results, Try.results32, go_sem, u0, u1]) rfl ⟨_, rfl, ⟨_, rfl, FTab.nil _ _ _⟩, HB.out⟩
  | true =>
    cases hg2 : goodB (vars2, u) with
    | false =>
      obtain ⟨rfl, rfl⟩ : r0 = (0, []) ∧ r1 = false := by simpa [fBothCnfs, hg, hg2, eq_comm] using hR
      clear hR
      go_enter Try.func32, Try.ntmps32
      go_wp2_with fail
      rw [← HWB.out]
      refine (s_l2Good _ (vars, t) _ ⟨_, rfl, tf⟩).mono ?_
      rintro e w1 ⟨rfl, hb1⟩
      rw [hg]
      replace x10 := below_old hb1 _ _ x10
      replace x11 := below_old hb1 _ _ x11
      replace tg := tg.below hb1
      replace hal := hal.trans (hb1.mono hal.size)
      replace hyr := hyr.below hb1 hyr.lt
      go_wp2_with fail
      refine (s_l2Good _ (vars2, u) _ ⟨_, rfl, tg⟩).mono ?_
      rintro e w2 ⟨rfl, hb2⟩
      rw [hg2]
      have hyr := hyr.below hb2 hyr.lt
      obtain ⟨z0, z1, g0, g1⟩ := blkTwo hyr
      obtain ⟨u0, u1, -, -⟩ := blkTwo (blkSet hyr (.int .i64 0) (.slice none 0 0))
      have HB := hide (((hal.trans (hb2.mono hal.size)).setCell (p := ⟨w.heap.size + 1 + 1, 0, none⟩) HGE.out (.int .i64 0)).setCell (p := ⟨w.heap.size + 1 + 1, 1, none⟩) HGE.out (.slice none 0 0))
      go_wp2_with fail
      refine bodyPost_ret (v := .tuple #[.agg #[.int .i64 0, .slice none 0 0], .bool false]) (by simp [results, Try.results32, go_sem, u0, u1]) rfl ⟨_, rfl, ⟨_, rfl, FTab.nil _ _ _⟩, HB.out⟩
    | true =>
      obtain ⟨gd, hgd⟩ : ∃ gd, goodB (bothF (vars, t) (vars2, u)) = gd := ⟨_, rfl⟩
      have hr : r0 = (if gd then bothF (vars, t) (vars2, u) else (0, [])) ∧ r1 = gd := by
        simp only [fBothCnfs, hg, hg2, hgd, if_true] at hR
        cases gd <;> simpa [eq_comm] using hR
      have HR := hide hr
      have HT := hide (show t.length ≤ 16777216 from Nat.le_trans (goodB_len hg) (by omega))
      have HU := hide (show u.length ≤ 16777216 from Nat.le_trans (goodB_len hg2) (by omega))
      have HZ1 := hide (show ∀ z ∈ t, z.length ≤ 16777216 from fun z hz => by have h1 := mem_cntT hz; have h2 : szT t ≤ 1048576 := hn0; unfold szT at h2; omega)
      have HZ2 := hide (show ∀ z ∈ u, z.length ≤ 16777216 from fun z hz => by have h1 := mem_cntT hz; have h2 : szT u ≤ 1048576 := hn1; unfold szT at h2; omega)
      clear hR hr
      go_enter Try.func32, Try.ntmps32
      go_wp2_with fail
      rw [← HWB.out]
      refine (s_l2Good _ (vars, t) _ ⟨_, rfl, tf⟩).mono ?_
      rintro e w1 ⟨rfl, hb1⟩
      rw [hg]
      replace x00 := below_old hb1 _ _ x00
      replace x01 := below_old hb1 _ _ x01
      replace x10 := below_old hb1 _ _ x10
      replace x11 := below_old hb1 _ _ x11
      replace tf := tf.below hb1
      replace tg := tg.below hb1
      replace hyr := hyr.below hb1 hyr.lt
      replace hal := hal.trans (hb1.mono hal.size)
      go_wp2_with fail
      refine (s_l2Good _ (vars2, u) _ ⟨_, rfl, tg⟩).mono ?_
      rintro e w2 ⟨rfl, hb2⟩
      rw [hg2]
      replace x00 := below_old hb2 _ _ x00
      replace x01 := below_old hb2 _ _ x01
      replace x10 := below_old hb2 _ _ x10
      replace x11 := below_old hb2 _ _ x11
      replace tf := tf.below hb2
      replace tg := tg.below hb2
      replace hyr := hyr.below hb2 hyr.lt
      replace hal := hal.trans (hb2.mono hal.size)
      go_wp2_with fail
      refine (s_l2Own vars A n1 c t _ tf HT.out HZ1.out).mono ?_
      rintro e w3 ⟨q, ps, rfl, hps, hF, hb3⟩
      have HW2 := hide (show w.heap.size + 1 + 1 < w2.heap.size from hyr.lt)
      replace x00 := below_old hb3 _ _ x00
      replace x01 := below_old hb3 _ _ x01
      replace x10 := below_old hb3 _ _ x10
      replace x11 := below_old hb3 _ _ x11
      replace tf := tf.below hb3
      replace tg := tg.below hb3
      replace hyr := hyr.below hb3 hyr.lt
      replace hal := hal.trans (hb3.mono hal.size)
      obtain ⟨Aq, cq, rfl⟩ := hF.open_
      obtain ⟨wd, hwd⟩ : ∃ wd, wd = w3.alloc (.cells #[.int .i64 vars, .slice Aq ps.length cq] 29) := ⟨_, rfl⟩
      have hald : Below w3.heap.size w3 wd := by rw [hwd]; exact (Below.refl _ _).alloc (Nat.le_refl _) _
      have hBd : Blk wd w3.heap.size 29 #[.int .i64 vars, .slice Aq ps.length cq] := by rw [hwd]; exact Blk.new _ _ _
      have HWD := hide hwd
      have hF2 := hF.below hald
      have HNA := hide (show NotAt w3.heap.size (.slice Aq ps.length cq) ps from by
        refine ⟨fun e => ?_, fun p hp h0 e => ?_⟩
        · have := (hF.1.block_lt e).2; omega
        · obtain ⟨b, hb1, _, hb2⟩ := (hF.2.1.1 p hp).block h0
          rw [hb1] at e
          have : b = w3.heap.size := by simpa using e
          omega)
      have hs3 : w.heap.size + 1 + 1 < w3.heap.size := hyr.lt
      have E0 : ¬ (w.heap.size = w3.heap.size) := by omega
      have E1 : ¬ (w.heap.size + 1 = w3.heap.size) := by omega
      have o00 := below_old ((Below.refl w3.heap.size w3).alloc (Nat.le_refl _) (.cells #[.int .i64 vars, .slice Aq ps.length cq] 29)) _ _ x00
      have o01 := below_old ((Below.refl w3.heap.size w3).alloc (Nat.le_refl _) (.cells #[.int .i64 vars, .slice Aq ps.length cq] 29)) _ _ x01
      have o10 := below_old ((Below.refl w3.heap.size w3).alloc (Nat.le_refl _) (.cells #[.int .i64 vars, .slice Aq ps.length cq] 29)) _ _ x10
      have o11 := below_old ((Below.refl w3.heap.size w3).alloc (Nat.le_refl _) (.cells #[.int .i64 vars, .slice Aq ps.length cq] 29)) _ _ x11
      clear hwd
      replace x00 := below_old hald _ _ x00
      replace x01 := below_old hald _ _ x01
      replace x10 := below_old hald _ _ x10
      replace x11 := below_old hald _ _ x11
      replace tf := tf.below hald
      replace tg := tg.below hald
      replace hyr := hyr.below hald hyr.lt
      replace hal := hal.trans (hald.mono hal.size)
      obtain ⟨d0, d1, e0, e1⟩ := blkTwo hBd
      go_wp2_with fail
      rw [← HWD.out]
      clear o00 o01 o10 o11
      refine (s_l1Most' _ _ _).mono ?_
      rintro e w4 ⟨rfl, rfl⟩
      go_wp2_with fail
      obtain ⟨we, hwe⟩ : ∃ we, we = wd.setCell ⟨w3.heap.size, 0, none⟩ (.int .i64 (topI vars vars2)) := ⟨_, rfl⟩
      have hbe : Below w3.heap.size wd we := by rw [hwe]; exact (Below.refl _ _).setCell (p := ⟨w3.heap.size, 0, none⟩) (Nat.le_refl _) _
      have hse : w3.heap.size < we.heap.size := Nat.lt_of_lt_of_le hBd.lt hbe.size
      have hBe : Blk we w3.heap.size 29 #[.int .i64 (topI vars vars2), .slice Aq ps.length cq] := by rw [hwe]; simpa using hBd.set_ 0 (.int .i64 (topI vars vars2))
      have hFe : FRT (w.heap.size + 1 + 1 + 1) we (.slice Aq ps.length cq) ps := by rw [hwe]; exact (hF2.set_ HNA.out 0 _).mono (by have := HW2.out; omega)
      have HWE := hide hwe
      rw [← hwe]
      replace x00 := (hbe.cell (p := ⟨w.heap.size, 0, none⟩) (by show w.heap.size < _; omega)).trans x00
      replace x01 := (hbe.cell (p := ⟨w.heap.size, 1, none⟩) (by show w.heap.size < _; omega)).trans x01
      replace x10 := (hbe.cell (p := ⟨w.heap.size + 1, 0, none⟩) (by show w.heap.size + 1 < _; omega)).trans x10
      replace x11 := (hbe.cell (p := ⟨w.heap.size + 1, 1, none⟩) (by show w.heap.size + 1 < _; omega)).trans x11
      replace tg := tg.under hbe (by omega)
      replace hyr := hyr.below hbe (by omega)
      replace hal := hal.trans (hbe.mono (by omega))
      have HTG := hide (tg.below (below_drew we))
      have HPL := hide (show ps.length = t.length by rw [← hps]; simp)
      have HWR := hide (show w.heap.size + 1 + 1 + 1 ≤ we.heap.size by omega)
      have HNN := hide (show ∀ W, Below we.heap.size we W → ¬ (w3.heap.size = W.heap.size) from fun W hW => by have := hW.size; omega)
      have HBK := hide (show ∀ W, Below we.heap.size we W → W.cell? ⟨w3.heap.size, 0, none⟩ = some (.int .i64 (topI vars vars2)) ∧ W.cell? ⟨w3.heap.size, 1, none⟩ = some (.slice Aq ps.length cq) from fun W hW => ⟨below_old hW _ _ (blkTwo hBe).1, below_old hW _ _ (blkTwo hBe).2.1⟩)
      have HBG := hide (show ∀ W, we.grownBy W (Value.slice Aq ps.length cq).ownBlock → Blk W w3.heap.size 29 #[.int .i64 (topI vars vars2), .slice Aq ps.length cq] from fun W hW => (hW.block w3.heap.size hBe.lt (fun e => HNA.out.1 e.symm)).trans hBe)
      have HSE := hide hse
      have HG3 := hide (show w.heap.size ≤ w3.heap.size by omega)
      obtain ⟨y0, y1, f0, f1⟩ := blkTwo hBe
      clear d0 d1 e0 e1 hwe hbe E0 E1 hald hBd hF2 hF hb3 hb2 hb1
      go_region_law (first | (go_simp; go_at_call 62; refine (s_l2Own vars2 A2 n2 c2 u _ HTG.out HU.out HZ2.out).mono ?_; rintro e w5 ⟨q5, qs, rfl, hqs, hF5, hb5⟩; have hb5' := (below_drew we).trans hb5; obtain ⟨A5, c5, rfl⟩ := hF5.open_; have hF5' : FRT we.heap.size w5 (.slice A5 qs.length c5) qs := hF5.mono (by show we.heap.size ≤ we.heap.size + 1 + 1; omega); have HLN : ps.length + qs.length ≤ 1073741824 := (by have h1 : qs.length = u.length := (by rw [← hqs]; simp); have h2 := HPL.out; have h3 := HT.out; have h4 := HU.out; omega); obtain ⟨p0, p1⟩ := HBK.out w5 hb5'; have hfd := fldCnf vars2 A5 qs.length c5) | ((refine step_ftab rfl _ _ rfl (w.heap.size + 1 + 1 + 1) ?_ we hFe w5 hb5' hF5' ?_ HWR.out HLN ?_ ?_); (· rfl); (· (repeat (first | exact Below.refl _ _ | apply below_drew_of | apply below_alloc_of))); (· rfl); (intro v6 w6 hF6 hb6 hg6 hat6; have hB6 := HBG.out w6 hg6; obtain ⟨A6, c6, rfl⟩ := hF6.open_; simp only [List.length_append] at hF6 hat6; obtain ⟨p0, p1, g0, g1⟩ := blkTwo hB6)))
      all_goals (have hN6 := HNA.out.append HSE.out hF5' hat6; have hBf : Blk (w6.setCell ⟨w3.heap.size, 1, none⟩ (.slice A6 (ps.length + qs.length) c6)) w3.heap.size 29 #[.int .i64 (topI vars vars2), .slice A6 (ps.length + qs.length) c6] := (by simpa using hB6.set_ 1 (.slice A6 (ps.length + qs.length) c6)); have hFf := hF6.set_ hN6 1 (.slice A6 (ps.length + qs.length) c6); have hyf := (hyr.below hb6 (by omega)).far (p := ⟨w3.heap.size, 1, none⟩) (by show ¬ (w.heap.size + 1 + 1 = w3.heap.size); omega) (.slice A6 (ps.length + qs.length) c6); have hbf := (hal.trans (hb6.mono (by omega))).setCell (p := ⟨w3.heap.size, 1, none⟩) HG3.out (.slice A6 (ps.length + qs.length) c6))
      all_goals (obtain ⟨wf, hwf⟩ : ∃ wf, wf = w6.setCell ⟨w3.heap.size, 1, none⟩ (.slice A6 (ps.length + qs.length) c6) := ⟨_, rfl⟩)
      all_goals rw [← hwf] at hBf hFf hyf hbf ⊢
      all_goals clear hwf
      all_goals (have hTf := hFf.ftab.read; rw [List.map_append, hps, hqs] at hTf; obtain ⟨b0, b1, -, -⟩ := blkTwo hBf)
      all_goals go_wp2_with fail
      all_goals refine (s_l4Give gd (topI vars vars2) A6 _ c6 (t ++ u) _ hTf hgd).mono ?_
      all_goals rintro e w7 ⟨rfl, hb7⟩
      all_goals (have hy7 := hyf.below hb7 hyf.lt; obtain ⟨z0, z1, g2, g3⟩ := blkTwo hy7)
      all_goals cases gd
      · rw [giveR_no]
        obtain ⟨u0, u1, -, -⟩ := blkTwo (blkSet hy7 (.int .i64 0) (.slice none 0 0))
        have HB := hide (((hbf.trans (hb7.mono hbf.size)).setCell (p := ⟨w.heap.size + 1 + 1, 0, none⟩) HGE.out (.int .i64 0)).setCell (p := ⟨w.heap.size + 1 + 1, 1, none⟩) HGE.out (.slice none 0 0))
        go_wp2_with fail
        obtain ⟨hr0, rfl⟩ := HR.out
        have hr0' : r0 = (0, []) := hr0
        refine bodyPost_ret (v := .tuple #[.agg #[.int .i64 0, .slice none 0 0], .bool false]) (by simp [results, Try.results32, go_sem, u0, u1]) rfl ⟨_, rfl, by rw [hr0']; exact ⟨_, rfl, FTab.nil _ _ _⟩, HB.out⟩
      · rw [giveR_yes]
        obtain ⟨u0, u1, -, -⟩ := blkTwo (blkSet hy7 (.int .i64 (topI vars vars2)) (.slice A6 (ps.length + qs.length) c6))
        have HB := hide (((hbf.trans (hb7.mono hbf.size)).setCell (p := ⟨w.heap.size + 1 + 1, 0, none⟩) HGE.out (.int .i64 (topI vars vars2))).setCell (p := ⟨w.heap.size + 1 + 1, 1, none⟩) HGE.out (.slice A6 (ps.length + qs.length) c6))
        have hFr := hFf.below hb7
        have hNr := hFr.notAt (g := w.heap.size + 1 + 1) (by omega)
        have HFS := hide ((hFr.set_ hNr 0 (.int .i64 (topI vars vars2))).set_ hNr 1 (.slice A6 (ps.length + qs.length) c6))
        go_wp2_with fail
        obtain ⟨hr0, rfl⟩ := HR.out
        have hr0' : r0 = (topI vars vars2, t ++ u) := hr0
        refine bodyPost_ret (v := .tuple #[.agg #[.int .i64 (topI vars vars2), (.slice A6 (ps.length + qs.length) c6)], .bool true]) (by simp [results, Try.results32, go_sem, u0, u1]) rfl ⟨_, rfl, by rw [hr0']; exact ⟨_, rfl, by have h9 := HFS.out.ftab; rw [List.map_append, hps, hqs] at h9; exact h9.mono (by omega) (Nat.le_refl _)⟩, HB.out⟩
      · rw [giveR_no]
        obtain ⟨u0, u1, -, -⟩ := blkTwo (blkSet hy7 (.int .i64 0) (.slice none 0 0))
        have HB := hide (((hbf.trans (hb7.mono hbf.size)).setCell (p := ⟨w.heap.size + 1 + 1, 0, none⟩) HGE.out (.int .i64 0)).setCell (p := ⟨w.heap.size + 1 + 1, 1, none⟩) HGE.out (.slice none 0 0))
        go_wp2_with fail
        obtain ⟨hr0, rfl⟩ := HR.out
        have hr0' : r0 = (0, []) := hr0
        refine bodyPost_ret (v := .tuple #[.agg #[.int .i64 0, .slice none 0 0], .bool false]) (by simp [results, Try.results32, go_sem, u0, u1]) rfl ⟨_, rfl, by rw [hr0']; exact ⟨_, rfl, FTab.nil _ _ _⟩, HB.out⟩
      · rw [giveR_yes]
        obtain ⟨u0, u1, -, -⟩ := blkTwo (blkSet hy7 (.int .i64 (topI vars vars2)) (.slice A6 (ps.length + qs.length) c6))
        have HB := hide (((hbf.trans (hb7.mono hbf.size)).setCell (p := ⟨w.heap.size + 1 + 1, 0, none⟩) HGE.out (.int .i64 (topI vars vars2))).setCell (p := ⟨w.heap.size + 1 + 1, 1, none⟩) HGE.out (.slice A6 (ps.length + qs.length) c6))
        have hFr := hFf.below hb7
        have hNr := hFr.notAt (g := w.heap.size + 1 + 1) (by omega)
        have HFS := hide ((hFr.set_ hNr 0 (.int .i64 (topI vars vars2))).set_ hNr 1 (.slice A6 (ps.length + qs.length) c6))
        go_wp2_with fail
        obtain ⟨hr0, rfl⟩ := HR.out
        have hr0' : r0 = (topI vars vars2, t ++ u) := hr0
        refine bodyPost_ret (v := .tuple #[.agg #[.int .i64 (topI vars vars2), (.slice A6 (ps.length + qs.length) c6)], .bool true]) (by simp [results, Try.results32, go_sem, u0, u1]) rfl ⟨_, rfl, by rw [hr0']; exact ⟨_, rfl, by have h9 := HFS.out.ftab; rw [List.map_append, hps, hqs] at h9; exact h9.mono (by omega) (Nat.le_refl _)⟩, HB.out⟩
      · rw [giveR_no]
        obtain ⟨u0, u1, -, -⟩ := blkTwo (blkSet hy7 (.int .i64 0) (.slice none 0 0))
        have HB := hide (((hbf.trans (hb7.mono hbf.size)).setCell (p := ⟨w.heap.size + 1 + 1, 0, none⟩) HGE.out (.int .i64 0)).setCell (p := ⟨w.heap.size + 1 + 1, 1, none⟩) HGE.out (.slice none 0 0))
        go_wp2_with fail
        obtain ⟨hr0, rfl⟩ := HR.out
        have hr0' : r0 = (0, []) := hr0
        refine bodyPost_ret (v := .tuple #[.agg #[.int .i64 0, .slice none 0 0], .bool false]) (by simp [results, Try.results32, go_sem, u0, u1]) rfl ⟨_, rfl, by rw [hr0']; exact ⟨_, rfl, FTab.nil _ _ _⟩, HB.out⟩
      · rw [giveR_yes]
        obtain ⟨u0, u1, -, -⟩ := blkTwo (blkSet hy7 (.int .i64 (topI vars vars2)) (.slice A6 (ps.length + qs.length) c6))
        have HB := hide (((hbf.trans (hb7.mono hbf.size)).setCell (p := ⟨w.heap.size + 1 + 1, 0, none⟩) HGE.out (.int .i64 (topI vars vars2))).setCell (p := ⟨w.heap.size + 1 + 1, 1, none⟩) HGE.out (.slice A6 (ps.length + qs.length) c6))
        have hFr := hFf.below hb7
        have hNr := hFr.notAt (g := w.heap.size + 1 + 1) (by omega)
        have HFS := hide ((hFr.set_ hNr 0 (.int .i64 (topI vars vars2))).set_ hNr 1 (.slice A6 (ps.length + qs.length) c6))
        go_wp2_with fail
        obtain ⟨hr0, rfl⟩ := HR.out
        have hr0' : r0 = (topI vars vars2, t ++ u) := hr0
        refine bodyPost_ret (v := .tuple #[.agg #[.int .i64 (topI vars vars2), (.slice A6 (ps.length + qs.length) c6)], .bool true]) (by simp [results, Try.results32, go_sem, u0, u1]) rfl ⟨_, rfl, by rw [hr0']; exact ⟨_, rfl, by have h9 := HFS.out.ftab; rw [List.map_append, hps, hqs] at h9; exact h9.mono (by omega) (Nat.le_refl _)⟩, HB.out⟩

end Go.Proofs.Ytkmkdfogpdndoaa
