/- The walk of the reference's SortClauses. -/
import Derived.Test.YtlipmbcjpmbjnaaInsT
import Derived.Test.YtlipmbcjpmbjnaaFam
import Derived.Test.YtlipmbcjpmbjnaaCore
namespace Go.Proofs.Ytlipmbcjpmbjnaa
open Go.RowKit
set_option linter.unusedVariables false

def fSortClauses (f : CnfL) : CnfL × Bool := if goodB f then ((f.1, putAllC f.2 []), true) else ((0, []), false)
theorem fSortClauses_len {f r0 : CnfL} {r1 : Bool} (hn : szC f ≤ 1048576) (hR : fSortClauses f = (r0, r1)) : szC r0 ≤ 1048576 := by
  unfold fSortClauses at hR
  split at hR
  · rename_i hg
    injection hR with e1 e2
    subst e1
    have h9 : goodB (f.1, putAllC f.2 []) = true := by
      obtain ⟨g1, g2, g3⟩ := goodB_parts hg
      have hl := putAllC_len f.2 []
      unfold goodB allCl
      simp [g1]
      refine ⟨by simp at hl; omega, fun c hc => ?_⟩
      rw [putAllC_mem] at hc
      rcases hc with hc | hc
      · exact g3 c hc
      · cases hc
    have := goodB_sz h9
    omega
  · injection hR with e1 e2
    subst e1
    simp [szC, cntT]

theorem cntT_mem {z : List Int} : ∀ {t : List (List Int)}, z ∈ t → z.length ≤ cntT t
  | y :: r, h => by
    rw [cntT]
    rcases List.mem_cons.1 h with rfl | h
    · omega
    · have := cntT_mem h; omega
theorem apart_symm {p q : Value × List Int} (h : Apart p q) : Apart q p := by
  rcases h with h | h | h
  · exact .inr (.inl h)
  · exact .inl h
  · exact .inr (.inr (fun e => h e.symm))
theorem Rws.perm {lo hi : Nat} {w : World} {ps qs : List (Value × List Int)} (h : Rws lo hi w ps) (hp : ps.Perm qs) : Rws lo hi w qs :=
  ⟨fun p hp2 => h.1 p (hp.mem_iff.2 hp2), (hp.pairwise_iff (fun h => apart_symm h)).1 h.2⟩
theorem notAt_ins {g : Nat} {wr wm : World} {v v' u : Value} {z : List Int} {ps qs : List (Value × List Int)} (h : NotAt g v ps) (hg : g < wr.heap.size) (hu : FInts wr.heap.size wm.heap.size wm u z) (hw : wr.heap.size ≤ wm.heap.size) (hat : ∀ b, v'.ownBlock = some b → v.ownBlock = some b ∨ wm.heap.size ≤ b) (hmem : ∀ p ∈ qs, p ∈ ps ∨ p = (u, z)) : NotAt g v' qs := by
  refine ⟨fun e => ?_, fun p hp h0 => ?_⟩
  · rcases hat g e with h1 | h1
    · exact h.1 h1
    · omega
  · rcases hmem p hp with hp | rfl
    · exact h.2 p hp h0
    · obtain ⟨b, hb1, hb2, _⟩ := hu.block h0
      intro e
      rw [hb1] at e
      have : b = g := by simpa using e
      omega

/-- a fresh clause to its place in a table of the call's own -/
theorem s_insertF {base : Nat} (g n cap : Nat) (ps : List (Value × List Int)) (u : Value) (x : List Int) (w W : World) (h : FRT base w (.slice (some ⟨g, 0, none⟩) n cap) ps) (hwW : Below w.heap.size w W) (hu : FInts w.heap.size W.heap.size W u x) (hn : ps.length ≤ 100000) (hp : (ps.map (·.2)).Pairwise (fun a b => clsLt a b = true)) (hs : ∀ c ∈ ps.map (·.2), smallL c) (hx : smallL x) :
    Calls Try.prog 45 #[.slice (some ⟨g, 0, none⟩) n cap, u] W fun e w' => ∃ v' qs g' n' cap', e = .returned v' ∧ v' = .slice (some ⟨g', 0, none⟩) n' cap' ∧ FRT base w' v' qs ∧ qs.map (·.2) = putC x (ps.map (·.2)) ∧ Below W.heap.size W w' ∧ (∀ b, v'.ownBlock = some b → (Value.slice (some ⟨g, 0, none⟩) n cap).ownBlock = some b ∨ W.heap.size ≤ b) ∧ ∀ p ∈ qs, p ∈ ps ∨ p = (u, x) := by
  have hW := h.below hwW
  have hbw : base ≤ w.heap.size ∧ g < w.heap.size := by
    have := h.1.block_lt (g := g) rfl
    omega
  obtain ⟨A, c, e, h1, h2, h3⟩ := hW.1.own
  injection e with e1 e2 e3
  subst e1 e3
  have hpn : ps.length = n := by simpa using e2.symm
  have hcell : ∀ j y, (ps.map (·.1))[j]? = some y → W.cell? ⟨g, j, none⟩ = some y := by
    intro j y hj
    have h0 : 0 < (ps.map (·.1)).length := by have := (List.getElem?_eq_some_iff.1 hj).1; omega
    obtain ⟨b, off, e9, _, _, hc⟩ := h3 h0
    injection e9 with e9; injection e9 with e10 e11
    subst e10 e11
    simpa using (hc j y hj).1
  refine (s_l2Insert g n cap u _ ps x W ⟨by simpa [hpn] using h1, h2⟩ rfl hpn hcell (Nat.lt_of_lt_of_le hbw.2 hwW.size) (fun p hp2 => (hW.2.1.1 p hp2).ints) hu.ints (by omega) hp hs hx).mono ?_
  rintro e w' ⟨v', rfl, hh⟩
  rcases hh with ⟨hq, rfl, hqq⟩ | ⟨k, hk, hq, hO, hb⟩
  · exact ⟨_, ps, g, n, cap, rfl, rfl, hW.below (hqq.below _), hq.symm, hqq.below _, fun b hb => .inl hb, fun p hp2 => .inl hp2⟩
  · have hR : Rws base W.heap.size W (ps ++ [(u, x)]) := (h.2.1.below hwW).snoc hu hbw.1 hwW.size
    have hperm : (ps ++ [(u, x)]).Perm (ps.take k ++ [(u, x)] ++ ps.drop k) := by
      conv => lhs; rw [← List.take_append_drop k ps]
      rw [List.append_assoc, List.append_assoc]
      exact List.Perm.append_left _ List.perm_append_comm
    have hR2 := (hR.perm hperm)
    have hmap : (ps.take k ++ [(u, x)] ++ ps.drop k).map (·.1) = (ps.map (·.1)).take k ++ [u] ++ (ps.map (·.1)).drop k := by simp [List.map_take, List.map_drop]
    have hO2 : OwnH base w' v' ((ps.take k ++ [(u, x)] ++ ps.drop k).map (·.1)) := by
      rw [hmap]
      refine ⟨hO.1, ?_⟩
      rcases hO.2 with h9 | ⟨g9, cap9, cur9, e9, hl9, r9⟩
      · exact .inl h9
      · exact .inr ⟨g9, cap9, cur9, e9, Nat.le_trans (Nat.le_trans hbw.1 hwW.size) hl9, r9⟩
    obtain ⟨g', cap', hv'⟩ : ∃ g' cap', v' = .slice (some ⟨g', 0, none⟩) (ps.length + 1) cap' := by
      rcases hO.2 with ⟨_, h9⟩ | ⟨g9, cap9, cur9, e9, _⟩
      · simp at h9
      · exact ⟨g9, cap9, by rw [e9]; simp; omega⟩
    refine ⟨v', ps.take k ++ [(u, x)] ++ ps.drop k, g', _, cap', rfl, hv', ⟨hO2, (hR2.below hb).mono (Nat.le_refl _) hb.size, fun p hp2 h0 e => ?_⟩, by rw [hq]; simp [List.map_take, List.map_drop], hb, fun b hb9 => .inr (hO.block_lt hb9).1, fun p hp2 => ?_⟩
    · obtain ⟨b9, hb8, _, hb7⟩ := (hR2.1 p hp2).block h0
      rw [hb8] at e
      have := (hO.block_lt e.symm).1
      omega
    · rcases List.mem_append.1 hp2 with hp2 | hp2
      · rcases List.mem_append.1 hp2 with hp2 | hp2
        · exact .inl (List.mem_of_mem_take hp2)
        · exact .inr (List.mem_singleton.1 hp2)
      · exact .inl (List.mem_of_mem_drop hp2)

set_option maxRecDepth 100000 in
set_option maxHeartbeats 6400000 in
theorem S_SortClauses {hi : Nat} (v : Value) (f : CnfL) (r0 : CnfL) (r1 : Bool) (w : World) (h : RCnf hi w v f) (hn0 : szC f ≤ 1048576) (hR : fSortClauses f = (r0, r1)) :
    Calls Try.prog 25 #[v] w fun e w' => ∃ v', e = .returned (.tuple #[v', .bool r1]) ∧ FCnf w.heap.size w'.heap.size w' v' r0 ∧ Below w.heap.size w w' := by
  obtain ⟨A, n1, c, rfl, ht⟩ := h.open2
  obtain ⟨vars, t⟩ := f
  dsimp only at ht ⊢
  obtain ⟨wa, hwa⟩ : ∃ wa, wa = w.alloc (.cells #[.int .i64 vars, .slice A n1 c] 29) := ⟨_, rfl⟩
  have hala : Below w.heap.size w wa := by rw [hwa]; exact (Below.refl _ _).alloc (Nat.le_refl _) _
  have hsa : wa.heap.size = w.heap.size + 1 := by rw [hwa]; simp
  have xa00 : wa.cell? ⟨w.heap.size, 0, none⟩ = some (.int .i64 vars) := by rw [hwa]; simp
  have xa01 : wa.cell? ⟨w.heap.size, 1, none⟩ = some (.slice A n1 c) := by rw [hwa]; simp
  obtain ⟨wb, hwb⟩ : ∃ wb, wb = wa.alloc (.cells #[.int .i64 0, .slice none 0 0] 29) := ⟨_, rfl⟩
  have halb : Below wa.heap.size wa wb := by rw [hwb]; exact (Below.refl _ _).alloc (Nat.le_refl _) _
  have hyr : Blk wb (w.heap.size + 1) 29 #[.int .i64 0, .slice none 0 0] := by rw [hwb, ← hsa]; exact Blk.new _ _ _
  have x00 := below_old halb _ _ xa00
  have x01 := below_old halb _ _ xa01
  have hal := hala.trans (halb.mono (by omega))
  have tf := ht.top.below hal
  have HGE := hide (show w.heap.size ≤ w.heap.size + 1 by omega)
  have HWB := hide (show wb = (w.alloc (.cells #[.int .i64 vars, .slice A n1 c] 29)).alloc (.cells #[.int .i64 0, .slice none 0 0] 29) by rw [hwb, hwa])
  clear hwb hwa h hala halb hsa xa00 xa01
  cases hg : goodB (vars, t) with
  | false =>
    obtain ⟨rfl, rfl⟩ : r0 = (0, []) ∧ r1 = false := by simpa [fSortClauses, hg, eq_comm] using hR
    clear hR
    go_enter Try.func25, Try.ntmps25
    go_wp2_with fail
    rw [← HWB.out]
    refine (s_l2Good _ (vars, t) _ ⟨_, rfl, tf⟩).mono ?_
    rintro e w1 ⟨rfl, hb1⟩
    rw [hg]
    have hyr := hyr.below hb1 hyr.lt
    obtain ⟨z0, z1, g0, g1⟩ := blkTwo hyr
    obtain ⟨u0, u1, -, -⟩ := blkTwo (blkSet hyr (.int .i64 0) (.slice none 0 0))
    have HB := hide (((hal.trans (hb1.mono hal.size)).setCell (p := ⟨w.heap.size + 1, 0, none⟩) HGE.out (.int .i64 0)).setCell (p := ⟨w.heap.size + 1, 1, none⟩) HGE.out (.slice none 0 0))
    go_wp2_with fail
    refine bodyPost_ret (v := .tuple #[.agg #[.int .i64 0, .slice none 0 0], .bool false]) (by simp [results, Try.results25, go_sem, u0, u1]) rfl ⟨_, rfl, ⟨_, rfl, FTab.nil _ _ _⟩, HB.out⟩
  | true =>
    obtain ⟨rfl, rfl⟩ : r0 = (vars, putAllC t []) ∧ r1 = true := by simpa [fSortClauses, hg, eq_comm] using hR
    have HCL := hide (goodB_parts hg).2.2
    have HT60 := hide (show t.length ≤ 60 from goodB_len hg)
    have HZ1 := hide (show ∀ z ∈ t, z.length ≤ 1048576 from fun z hz => by have h1 := cntT_mem hz; have h2 : szT t ≤ 1048576 := hn0; unfold szT at h2; omega)
    clear hR
    go_enter Try.func25, Try.ntmps25
    go_wp2_with fail
    rw [← HWB.out]
    refine (s_l2Good _ (_, t) _ ⟨_, rfl, tf⟩).mono ?_
    rintro e w1 ⟨rfl, hb1⟩
    rw [hg]
    replace x00 := below_old hb1 _ _ x00
    replace x01 := below_old hb1 _ _ x01
    replace tf := tf.below hb1
    replace hyr := hyr.below hb1 hyr.lt
    replace hal := hal.trans (hb1.mono hal.size)
    have HW1 := hide (show w.heap.size + 1 < w1.heap.size from hyr.lt)
    clear hb1 ht
    obtain ⟨wc, hwc⟩ : ∃ wc, wc = w1.alloc (.cells #[] 26) := ⟨_, rfl⟩
    have halc : Below w1.heap.size w1 wc := by rw [hwc]; exact (Below.refl _ _).alloc (Nat.le_refl _) _
    have hsc : wc.heap.size = w1.heap.size + 1 := by rw [hwc]; simp
    have hmade : FRT w1.heap.size wc (.slice (some ⟨w1.heap.size, 0, none⟩) 0 0) [] := by rw [hwc]; exact FRT.made _ _ (Nat.le_refl _)
    obtain ⟨we, hwe⟩ : ∃ we, we = wc.alloc (.cells #[.int .i64 vars, .slice (some ⟨w1.heap.size, 0, none⟩) 0 0] 29) := ⟨_, rfl⟩
    have hale : Below wc.heap.size wc we := by rw [hwe]; exact (Below.refl _ _).alloc (Nat.le_refl _) _
    have hBe : Blk we (w1.heap.size + 1) 29 #[.int .i64 vars, .slice (some ⟨w1.heap.size, 0, none⟩) 0 0] := by rw [hwe, ← hsc]; exact Blk.new _ _ _
    have hb1e : Below w1.heap.size w1 we := halc.trans (hale.mono (by omega))
    have HWE := hide (show we = (w1.alloc (.cells #[] 26)).alloc (.cells #[.int .i64 vars, .slice (some ⟨w1.heap.size, 0, none⟩) 0 0] 29) by rw [hwe, hwc])
    have HFE := hide (hmade.below hale)
    have HBE := hide hBe
    have HTG := hide (tf.below hb1e)
    have HY := hide (hyr.below hb1e hyr.lt)
    have HAL := hide (hal.trans (hb1e.mono hal.size))
    have HX01 := hide (below_old hb1e _ _ x01)
    have HSZ := hide (show w1.heap.size + 1 < we.heap.size from hBe.lt)
    clear hwe hwc hale halc hsc hmade hBe tf hyr hal hb1e
    go_wp2_with fail
    rw [← HWE.out]
    clear x00 x01
    obtain ⟨A', c', us, e', hc, hm, hut, hrow, hus⟩ := HTG.out.open_
    injection e' with e1 e2 e3
    subst e1 e2 e3
    have HUS := hide hus
    have HUT := hide hut
    have HUL := hide (show us.length ≤ 60 by have := HT60.out; rw [hut] at this; simpa using this)
    unfold maxLen at hm
    clear hus hut
    go_loopw [5] (fun i wr => ∃ (k : Nat) (q : Value) (qs : List (Value × List Int)), k ≤ us.length ∧ i = .int .i64 k ∧ Hid (qs.length ≤ k ∧ qs.map (·.2) = putAllC (t.take k) []) ∧ (∃ g n cap, q = .slice (some ⟨g, 0, none⟩) n cap) ∧ Blk wr (w1.heap.size + 1) 29 #[.int .i64 vars, q] ∧ FRT w1.heap.size wr q qs ∧ NotAt (w1.heap.size + 1) q qs ∧ Below w1.heap.size we wr) (fun i _ => us.length - (intOf i).toNat)
    case atStart => exact ⟨0, _, [], Nat.zero_le _, rfl, ⟨Nat.le_refl _, rfl⟩, ⟨_, _, _, rfl⟩, HBE.out, HFE.out, ⟨by simp [Value.ownBlock], by simp⟩, Below.refl _ _⟩
    case round =>
      obtain ⟨k, q, qs, hk, rfl, hqs, hqv, hB, hR, hNA, hbel⟩ := hrel
      obtain ⟨wo, hwo⟩ : ∃ wo, wo = wr := ⟨_, rfl⟩
      subst hwo
      have q01 := (hbel.cell (p := ⟨w.heap.size, 1, none⟩) (by show w.heap.size < _; have := HW1.out; omega)).trans HX01.out
      have hwr : w1.heap.size + 1 < wo.heap.size := Nat.lt_of_lt_of_le HSZ.out hbel.size
      obtain ⟨y0, y1, f0, f1⟩ := blkTwo hB
      by_cases hlt : k < us.length
      · obtain ⟨b, off, ur, z, rfl, hx, hcw, hzz⟩ := hrow.tab HUS.out hlt
        have hbb : b < w1.heap.size := by obtain ⟨b', off', e', hlt', _⟩ := hrow (by simp; omega); injection e' with e'; injection e' with e1 e2; have := HW1.out; omega
        replace hcw := (hbel.cell (p := ⟨b, off + k, none⟩) hbb).trans hcw
        have hzr := hzz.under hbel (by have := HW1.out; omega)
        have hdk : t.drop k = z :: t.drop (k + 1) := by rw [HUT.out, ← List.map_drop, hx]; simp
        have hmem : z ∈ t := List.mem_of_getElem? (get_of_drop hdk)
        have HZN := hide (show z.length ≤ 16777216 from Nat.le_trans (HZ1.out z hmem) (by omega))
        have HQK := hide hqs.out.1
        have HKF := hide (show putC z (qs.map (·.2)) = putAllC (t.take (k + 1)) [] by rw [hqs.out.2, take_snoc_l hdk]; unfold putAllC; rw [List.foldl_append]; rfl)
        have HASC := hide (show (qs.map (·.2)).Pairwise (fun a b => clsLt a b = true) by rw [hqs.out.2]; exact putAllC_asc _ _ List.Pairwise.nil)
        have HSM := hide (show ∀ c ∈ qs.map (·.2), smallL c from fun c hc => by
          rw [hqs.out.2, putAllC_mem] at hc
          rcases hc with hc | hc
          · exact clauseB_small (HCL.out c (List.mem_of_mem_take hc))
          · cases hc)
        have HZS := hide (show smallL z from clauseB_small (HCL.out z hmem))
        obtain ⟨Az, cz, rfl, -⟩ := id hzz
        obtain ⟨gq, nq, cq2, rfl⟩ := hqv
        have k0 : (0 : Int) ≤ ↑k := by omega
        have k1 : (↑k : Int) < ↑us.length := by omega
        have HR0 := hide hR
        have HB0 := hide hB
        have HN0 := hide hNA
        have HBL := hide hbel
        have HZR := hide (hzr.below (below_drew wo))
        have HWX := hide (show w1.heap.size + 1 < wo.heap.size by omega)
        have HGE2 := hide (show w1.heap.size ≤ w1.heap.size + 1 by omega)
        have HUL2 := hide HUL.out
        have HBK := hide (show ∀ W, Below wo.heap.size wo W → Blk W (w1.heap.size + 1) 29 #[.int .i64 vars, .slice (some ⟨gq, 0, none⟩) nq cq2] from fun W hW => hB.below hW hB.lt)
        have q01g : ∀ W, Below wo.heap.size wo W → W.cell? ⟨w.heap.size, 1, none⟩ = some (.slice (some ⟨b, off, none⟩) us.length c) := fun W hW => below_old hW _ _ q01
        have hcwg : ∀ W, Below wo.heap.size wo W → W.cell? ⟨b, off + k, none⟩ = some (.slice Az z.length cz) := fun W hW => below_old hW _ _ hcw
        have HQG := hide q01g
        have HCG := hide hcwg
        clear hx hqs hzz hmem hdk hR hB hNA q01g hcwg hbel
        go_wp2_with fail
        go_region_law (first | (go_simp; go_at_call 46; refine (s_l1Own _ z _ HZR.out HZN.out).mono ?_; rintro e w2 ⟨v2, rfl, hown2, hb2⟩; have hb2' := (below_drew wo).trans hb2; have hu := hown2.fints; obtain ⟨A2, c2, rfl, -⟩ := id hu; obtain ⟨p0, p1, -, -⟩ := blkTwo (HBK.out w2 hb2'); have pq := HQG.out w2 hb2'; have pc := HCG.out w2 hb2') | (go_simp; go_at_call 45; refine (s_insertF gq nq cq2 qs _ z wo w2 HR0.out hb2' hu (by have := HQK.out; have := HUL2.out; omega) HASC.out HSM.out HZS.out).mono ?_; rintro e w3 ⟨v3, qs3, g3, n3, c3, rfl, rfl, hR3, hq3, hb3, hat3, hmem3⟩; have hb3' := hb2'.trans (hb3.mono hb2'.size); have hB3 := HBK.out w3 hb3'; obtain ⟨p0, p1, g0, g1⟩ := blkTwo hB3; have pq := HQG.out w3 hb3'; have pc := HCG.out w3 hb3'))
        all_goals (have hN3 : NotAt (w1.heap.size + 1) (.slice (some ⟨g3, 0, none⟩) n3 c3) qs3 := notAt_ins HN0.out HWX.out hu hb2'.size hat3 hmem3; have hB4 := hB3.set_ 1 (Value.slice (some ⟨g3, 0, none⟩) n3 c3); have hR4 := hR3.set_ hN3 1 (Value.slice (some ⟨g3, 0, none⟩) n3 c3); have hb4 := (HBL.out.trans (hb3'.mono (Nat.le_of_lt (Nat.lt_trans (Nat.lt_succ_self _) HWX.out)))).setCell (p := ⟨w1.heap.size + 1, 1, none⟩) HGE2.out (Value.slice (some ⟨g3, 0, none⟩) n3 c3))
        all_goals go_wp2_with fail
        all_goals go_roundw
        all_goals first | (exact ⟨k + 1, _, qs3, by omega, by go_num, ⟨by have h1 := congrArg List.length hq3; have h2 := putC_len z (qs.map (·.2)); have h3 := HQK.out; simp only [List.length_map] at h1 h2; omega, by rw [hq3, HKF.out]⟩, ⟨_, _, _, rfl⟩, by simpa using hB4, hR4, hN3, hb4⟩) | (simp [intOf]; omega)
      · obtain rfl : k = us.length := by omega
        have HQ := hide (show putAllC t [] = qs.map (·.2) by
          rw [hqs.out.2, List.take_of_length_le (by rw [HUT.out]; simp)])
        have hyf := HY.out.below hbel (by have := HW1.out; omega)
        obtain ⟨z0, z1, g0, g1⟩ := blkTwo hyf
        obtain ⟨Aq2, cq2, rfl⟩ := hR.open_
        have hbf := HAL.out.trans (hbel.mono (by have := HW1.out; omega))
        obtain ⟨u0, u1, -, -⟩ := blkTwo (blkSet hyf (.int .i64 vars) (.slice Aq2 qs.length cq2))
        have hNr := hR.notAt (g := w.heap.size + 1) HW1.out
        have HFS := hide ((hR.set_ hNr 0 (.int .i64 vars)).set_ hNr 1 (.slice Aq2 qs.length cq2))
        have HB := hide ((hbf.setCell (p := ⟨w.heap.size + 1, 0, none⟩) HGE.out (.int .i64 vars)).setCell (p := ⟨w.heap.size + 1, 1, none⟩) HGE.out (.slice Aq2 qs.length cq2))
        clear hqs
        go_wp2_with fail
        refine bodyPost_ret (v := .tuple #[.agg #[.int .i64 vars, .slice Aq2 qs.length cq2], .bool true]) (by simp [results, Try.results25, go_sem, u0, u1]) rfl ⟨_, rfl, ⟨_, rfl, by rw [HQ.out]; exact HFS.out.ftab.mono (by have := HW1.out; omega) (Nat.le_refl _)⟩, HB.out⟩


end Go.Proofs.Ytlipmbcjpmbjnaa
