/- The contracts of ApartCnfs: the program's and the reference's. -/
import Derived.Test.YtkmkdfogpdndoaaBothI
namespace Go.Proofs.Ytkmkdfogpdndoaa
open Go.RowKit
set_option linter.unusedVariables false

/-- a formula, and another one on variables of its own -/
def apartF (f g : CnfL) : CnfL := (f.1 + g.1, f.2 ++ g.2.map (shiftL f.1))
def fApartCnfs (f g : CnfL) : CnfL × Bool := if goodB f then (if goodB g then giveF (apartF f g) else ((0, []), false)) else ((0, []), false)
theorem fApartCnfs_len {f g r0 : CnfL} {r1 : Bool} (hn : szC f ≤ 1048576) (hn2 : szC g ≤ 1048576) (hR : fApartCnfs f g = (r0, r1)) : szC r0 ≤ 1048576 := by
  have h0 : szC ((0, []) : CnfL) ≤ 1048576 := by simp [szC, cntT]
  unfold fApartCnfs at hR
  split at hR
  · split at hR
    · exact giveF_len hR
    · injection hR with h1 _; rw [← h1]; exact h0
  · injection hR with h1 _; rw [← h1]; exact h0
theorem apart_many {f g : CnfL} (h : 12 < f.1 + g.1) : goodB (apartF f g) = false := by
  have : varsB (apartF f g).1 = false := by
    unfold varsB inB apartF
    simp
    omega
  unfold goodB
  rw [this]; rfl

set_option maxHeartbeats 3200000 in
theorem S_ApartCnfs {hi hi' : Nat} (v : Value) (f : CnfL) (v2 : Value) (g : CnfL) (r0 : CnfL) (r1 : Bool) (w : World) (h : RCnf hi w v f) (h2 : RCnf hi' w v2 g) (hn0 : szC f ≤ 1048576) (hn1 : szC g ≤ 1048576) (hR : fApartCnfs f g = (r0, r1)) :
    Calls Try.prog 27 #[v, v2] w fun e w' => ∃ v', e = .returned (.tuple #[v', .bool r1]) ∧ FCnf w.heap.size w'.heap.size w' v' r0 ∧ Below w.heap.size w w' := by
  obtain ⟨A, n1, c, rfl, ht⟩ := h.open2
  obtain ⟨A2, n2, c2, rfl, hu⟩ := h2.open2
  obtain ⟨vars, t⟩ := f
  obtain ⟨vars2, u⟩ := g
  dsimp only at ht hu ⊢
  obtain ⟨wa, hwa⟩ : ∃ wa, wa = (w.alloc (.cells #[.int .i64 vars, .slice A n1 c] 29)).alloc (.cells #[.int .i64 vars2, .slice A2 n2 c2] 29) := ⟨_, rfl⟩
  have hala : Below w.heap.size w wa := by rw [hwa]; exact ((Below.refl _ _).alloc (Nat.le_refl _) _).alloc (by simp) _
  have hsa : wa.heap.size = w.heap.size + 1 + 1 := by rw [hwa]; simp
  have xa00 : wa.cell? ⟨w.heap.size, 0, none⟩ = some (.int .i64 vars) := by rw [hwa]; simp
  have xa01 : wa.cell? ⟨w.heap.size, 1, none⟩ = some (.slice A n1 c) := by rw [hwa]; simp
  have xa10 : wa.cell? ⟨w.heap.size + 1, 0, none⟩ = some (.int .i64 vars2) := by rw [hwa]; simp
  have xa11 : wa.cell? ⟨w.heap.size + 1, 1, none⟩ = some (.slice A2 n2 c2) := by rw [hwa]; simp
  obtain ⟨wb, hwb⟩ : ∃ wb, wb = wa.alloc (.cells #[.int .i64 0, .slice none 0 0] 29) := ⟨_, rfl⟩
  have halb : Below wa.heap.size wa wb := by rw [hwb]; exact (Below.refl _ _).alloc (Nat.le_refl _) _
  have hyr : Blk wb (w.heap.size + 1 + 1) 29 #[.int .i64 0, .slice none 0 0] := by rw [hwb, ← hsa]; exact Blk.new _ _ _
  have x00 := below_old halb _ _ xa00
  have x01 := below_old halb _ _ xa01
  have x10 := below_old halb _ _ xa10
  have x11 := below_old halb _ _ xa11
  have hal := hala.trans (halb.mono (by omega))
  have tf := ht.top.below hal
  have tg := hu.top.below hal
  have HGE := hide (show w.heap.size ≤ w.heap.size + 1 + 1 by omega)
  have HWB := hide (show wb = ((w.alloc (.cells #[.int .i64 vars, .slice A n1 c] 29)).alloc (.cells #[.int .i64 vars2, .slice A2 n2 c2] 29)).alloc (.cells #[.int .i64 0, .slice none 0 0] 29) by rw [hwb, hwa])
  clear hwb hwa h h2 hala halb hsa xa00 xa01 xa10 xa11
  cases hg : goodB (vars, t) with
  | false =>
    obtain ⟨rfl, rfl⟩ : r0 = (0, []) ∧ r1 = false := by simpa [fApartCnfs, hg, eq_comm] using hR
    clear hR
    go_enter Try.func27, Try.ntmps27
    go_wp2_with fail
    rw [← HWB.out]
    refine (s_l2Good _ (vars, t) _ ⟨_, rfl, tf⟩).mono ?_
    rintro e w1 ⟨rfl, hb1⟩
    rw [hg]
    have hyr := hyr.below hb1 hyr.lt
    obtain ⟨z0, z1, g0, g1⟩ := blkTwo hyr
    obtain ⟨u0, u1, -, -⟩ := blkTwo (blkSet hyr (.int .i64 0) (.slice none 0 0))
    have HB := hide (((hal.trans (hb1.mono hal.size)).setCell (p := ⟨w.heap.size + 1 + 1, 0, none⟩) HGE.out (.int .i64 0)).setCell (p := ⟨w.heap.size + 1 + 1, 1, none⟩) HGE.out (.slice none 0 0))
    go_wp2_with fail
    refine bodyPost_ret (v := .tuple #[.agg #[.int .i64 0, .slice none 0 0], .bool false]) (by simp [results, Try.results27, go_sem, u0, u1]) rfl ⟨_, rfl, ⟨_, rfl, FTab.nil _ _ _⟩, HB.out⟩
  | true =>
    cases hg2 : goodB (vars2, u) with
    | false =>
      obtain ⟨rfl, rfl⟩ : r0 = (0, []) ∧ r1 = false := by simpa [fApartCnfs, hg, hg2, eq_comm] using hR
      clear hR
      go_enter Try.func27, Try.ntmps27
      go_wp2_with fail
      rw [← HWB.out]
      refine (s_l2Good _ (vars, t) _ ⟨_, rfl, tf⟩).mono ?_
      rintro e w1 ⟨rfl, hb1⟩
      rw [hg]
      replace x10 := below_old hb1 _ _ x10
      replace x11 := below_old hb1 _ _ x11
      replace tg := tg.below hb1
      replace hal := hal.trans (hb1.mono hal.size)
      replace hyr := hyr.below hb1 hyr.lt
      go_wp2_with fail
      refine (s_l2Good _ (vars2, u) _ ⟨_, rfl, tg⟩).mono ?_
      rintro e w2 ⟨rfl, hb2⟩
      rw [hg2]
      have hyr := hyr.below hb2 hyr.lt
      obtain ⟨z0, z1, g0, g1⟩ := blkTwo hyr
      obtain ⟨u0, u1, -, -⟩ := blkTwo (blkSet hyr (.int .i64 0) (.slice none 0 0))
      have HB := hide (((hal.trans (hb2.mono hal.size)).setCell (p := ⟨w.heap.size + 1 + 1, 0, none⟩) HGE.out (.int .i64 0)).setCell (p := ⟨w.heap.size + 1 + 1, 1, none⟩) HGE.out (.slice none 0 0))
      go_wp2_with fail
      refine bodyPost_ret (v := .tuple #[.agg #[.int .i64 0, .slice none 0 0], .bool false]) (by simp [results, Try.results27, go_sem, u0, u1]) rfl ⟨_, rfl, ⟨_, rfl, FTab.nil _ _ _⟩, HB.out⟩
    | true =>
      have HS := hide (goodB_small hg2)
      obtain ⟨nv, hv, hn⟩ := varsB_nat (goodB_parts hg).1
      obtain ⟨nv2, hv2, hnn⟩ := varsB_nat (goodB_parts hg2).1
      dsimp only at HS hv hv2
      subst hv hv2
      obtain ⟨gd, hgd⟩ : ∃ gd, goodB (apartF ((nv : Int), t) ((nv2 : Int), u)) = gd := ⟨_, rfl⟩
      have hr : r0 = (if gd then apartF ((nv : Int), t) ((nv2 : Int), u) else (0, [])) ∧ r1 = gd := by
        simp only [fApartCnfs, giveF, hg, hg2, hgd, if_true] at hR
        cases gd <;> simpa [eq_comm] using hR
      have HR := hide hr
      have hws : IntKind.i64.wrap ((nv : Int) + (nv2 : Int)) = (nv : Int) + (nv2 : Int) := by rw [IntKind.wrap_i64]; omega
      have HT60 := hide (show t.length ≤ 60 from goodB_len hg)
      have HU60 := hide (show u.length ≤ 60 from goodB_len hg2)
      have HT := hide (show t.length ≤ 16777216 from Nat.le_trans (goodB_len hg) (by omega))
      have HZ1 := hide (show ∀ z ∈ t, z.length ≤ 16777216 from fun z hz => by have h1 := mem_cntT hz; have h2 : szT t ≤ 1048576 := hn0; unfold szT at h2; omega)
      have HZ2 := hide (show ∀ z ∈ u, z.length ≤ 1048576 from fun z hz => by have h1 := mem_cntT hz; have h2 : szT u ≤ 1048576 := hn1; unfold szT at h2; omega)
      clear hR hr
      go_enter Try.func27, Try.ntmps27
      go_wp2_with fail
      rw [← HWB.out]
      refine (s_l2Good _ (_, t) _ ⟨_, rfl, tf⟩).mono ?_
      rintro e w1 ⟨rfl, hb1⟩
      rw [hg]
      replace x00 := below_old hb1 _ _ x00
      replace x01 := below_old hb1 _ _ x01
      replace x10 := below_old hb1 _ _ x10
      replace x11 := below_old hb1 _ _ x11
      replace tf := tf.below hb1
      replace tg := tg.below hb1
      replace hyr := hyr.below hb1 hyr.lt
      replace hal := hal.trans (hb1.mono hal.size)
      go_wp2_with fail
      refine (s_l2Good _ (_, u) _ ⟨_, rfl, tg⟩).mono ?_
      rintro e w2 ⟨rfl, hb2⟩
      rw [hg2]
      replace x00 := below_old hb2 _ _ x00
      replace x01 := below_old hb2 _ _ x01
      replace x10 := below_old hb2 _ _ x10
      replace x11 := below_old hb2 _ _ x11
      replace tf := tf.below hb2
      replace tg := tg.below hb2
      replace hyr := hyr.below hb2 hyr.lt
      replace hal := hal.trans (hb2.mono hal.size)
      clear hb1 hb2 ht hu
      by_cases h12 : (12 : Int) < (nv : Int) + (nv2 : Int)
      · have HGF := hide (show gd = false by rw [← hgd]; exact apart_many h12)
        obtain ⟨z0, z1, g0, g1⟩ := blkTwo hyr
        obtain ⟨u0, u1, -, -⟩ := blkTwo (blkSet hyr (.int .i64 0) (.slice none 0 0))
        have HB := hide ((hal.setCell (p := ⟨w.heap.size + 1 + 1, 0, none⟩) HGE.out (.int .i64 0)).setCell (p := ⟨w.heap.size + 1 + 1, 1, none⟩) HGE.out (.slice none 0 0))
        go_wp2_with fail
        obtain ⟨hr0, rfl⟩ := HR.out
        rw [HGF.out] at hr0
        have hr0' : r0 = (0, []) := hr0
        rw [HGF.out]
        refine bodyPost_ret (v := .tuple #[.agg #[.int .i64 0, .slice none 0 0], .bool false]) (by simp [results, Try.results27, go_sem, u0, u1]) rfl ⟨_, rfl, by rw [hr0']; exact ⟨_, rfl, FTab.nil _ _ _⟩, HB.out⟩
      · go_wp2_with fail
        refine (s_l2Own (nv : Int) A n1 c t _ tf HT.out HZ1.out).mono ?_
        rintro e w3 ⟨q, ps, rfl, hps, hF, hb3⟩
        have HW2 := hide (show w.heap.size + 1 + 1 < w2.heap.size from hyr.lt)
        replace x00 := below_old hb3 _ _ x00
        replace x01 := below_old hb3 _ _ x01
        replace x10 := below_old hb3 _ _ x10
        replace x11 := below_old hb3 _ _ x11
        replace tg := tg.below hb3
        replace hyr := hyr.below hb3 hyr.lt
        replace hal := hal.trans (hb3.mono hal.size)
        obtain ⟨Aq, cq, rfl⟩ := hF.open_
        have HNA := hide (show NotAt w3.heap.size (.slice Aq ps.length cq) ps from by
          refine ⟨fun e => ?_, fun p hp h0 e => ?_⟩
          · have := (hF.1.block_lt e).2; omega
          · obtain ⟨b, hb1, _, hb2⟩ := (hF.2.1.1 p hp).block h0
            rw [hb1] at e
            have : b = w3.heap.size := by simpa using e
            omega)
        have hs3 : w.heap.size + 1 + 1 < w3.heap.size := hyr.lt
        have E0 : ¬ (w.heap.size = w3.heap.size) := by omega
        have E1 : ¬ (w.heap.size + 1 = w3.heap.size) := by omega
        obtain ⟨we, hwe⟩ : ∃ we, we = w3.alloc (.cells #[.int .i64 ((nv : Int) + (nv2 : Int)), .slice Aq ps.length cq] 29) := ⟨_, rfl⟩
        have hb35 : Below w3.heap.size w3 we := by rw [hwe]; exact (Below.refl _ _).alloc (Nat.le_refl _) _
        have hBe : Blk we w3.heap.size 29 #[.int .i64 ((nv : Int) + (nv2 : Int)), .slice Aq ps.length cq] := by rw [hwe]; exact Blk.new _ _ _
        have hFe : FRT (w.heap.size + 1 + 1 + 1) we (.slice Aq ps.length cq) ps := (hF.below hb35).mono (by have := HW2.out; omega)
        have HWE := hide hwe
        have o00 := below_old ((Below.refl w3.heap.size w3).alloc (Nat.le_refl _) (.cells #[.int .i64 (nv : Int), .slice Aq ps.length cq] 29)) _ _ x00
        have o10 := below_old ((Below.refl w3.heap.size w3).alloc (Nat.le_refl _) (.cells #[.int .i64 (nv : Int), .slice Aq ps.length cq] 29)) _ _ x10
        have HX := hide x11
        have HFE := hide hFe
        have HBE := hide hBe
        have HTG := hide (tg.below hb35)
        have HY := hide (hyr.below hb35 hyr.lt)
        have HAL := hide (hal.trans (hb35.mono hal.size))
        have HX00 := hide (below_old hb35 _ _ x00)
        have HX11 := hide (below_old hb35 _ _ x11)
        have HSZ := hide (show w3.heap.size < we.heap.size from hBe.lt)
        clear hwe hBe hF hFe tg hyr hal x01
        go_wp2_with fail
        rw [← HWE.out]
        clear o00 o10 x00 x10 x11
        obtain ⟨A2', c2', us, e', hc, hm, hut, hrow, hus⟩ := HTG.out.open_
        injection e' with e1 e2 e3
        subst e1 e2 e3
        have HUS := hide hus
        have HUT := hide hut
        have HUL := hide (show us.length ≤ 60 by have := HU60.out; rw [hut] at this; simpa using this)
        have HPL := hide (show ps.length = t.length by rw [← hps]; simp)
        have HPS := hide hps
        unfold maxLen at hm
        clear hus hut hps
        go_loopw [7] (fun i wr => ∃ (k : Nat) (q : Value) (qs : List (Value × List Int)), k ≤ us.length ∧ i = .int .i64 k ∧ Hid (qs.length = t.length + k ∧ qs.map (·.2) = t ++ ((us.map (·.2)).take k).map (shiftL (nv : Int))) ∧ Blk wr w3.heap.size 29 #[.int .i64 ((nv : Int) + (nv2 : Int)), q] ∧ FRT (w.heap.size + 1 + 1 + 1) wr q qs ∧ NotAt w3.heap.size q qs ∧ Below (w.heap.size + 1 + 1 + 1) we wr) (fun i _ => us.length - (intOf i).toNat)
        case atStart => exact ⟨0, _, ps, Nat.zero_le _, rfl, ⟨by rw [HPL.out]; rfl, by rw [HPS.out]; simp⟩, HBE.out, HFE.out, HNA.out, Below.refl _ _⟩
        case round =>
          obtain ⟨k, q, qs, hk, rfl, hqs, hB, hR, hNA, hbel⟩ := hrel
          obtain ⟨wo, hwo⟩ : ∃ wo, wo = wr := ⟨_, rfl⟩
          subst hwo
          have q00 := (hbel.cell (p := ⟨w.heap.size, 0, none⟩) (by show w.heap.size < _; omega)).trans HX00.out
          have q11 := (hbel.cell (p := ⟨w.heap.size + 1, 1, none⟩) (by show w.heap.size + 1 < _; omega)).trans HX11.out
          have hwr : w3.heap.size < wo.heap.size := Nat.lt_of_lt_of_le HSZ.out hbel.size
          have HWR := hide (show w.heap.size + 1 + 1 + 1 ≤ wo.heap.size by omega)
          obtain ⟨y0, y1, f0, f1⟩ := blkTwo hB
          by_cases hlt : k < us.length
          · obtain ⟨b, off, ur, z, rfl, hx, hcw, hzz⟩ := hrow.tab HUS.out hlt
            have hbb : b < w.heap.size := by obtain ⟨b', off', e', hlt', _⟩ := hrow (by simp; omega); injection e' with e'; injection e' with e1 e2; omega
            replace hcw := (hbel.cell (p := ⟨b, off + k, none⟩) (by show b < _; omega)).trans hcw
            have hzr := hzz.under hbel (by omega)
            have hmem : z ∈ u := by rw [HUT.out]; exact List.mem_map.2 ⟨_, List.mem_of_getElem? (get_of_drop hx), rfl⟩
            have HZN := hide (HZ2.out z hmem)
            have HZS := hide (HS.out z hmem)
            have HF : Hid (qs.map (·.2) ++ [shiftL (nv : Int) z] = t ++ ((us.map (·.2)).take (k + 1)).map (shiftL (nv : Int))) := by
              show _ = _
              rw [hqs.out.2, take_snoc_l (x := z) (by rw [← List.map_drop, hx]; simp)]
              simp
            have HL := hide hqs.out.1
            have HLN := hide (show qs.length ≤ 1073741824 by have := hqs.out.1; have := HUL.out; have := HT60.out; omega)
            obtain ⟨Az, cz, rfl, hcz, hmz, hrz⟩ := hzr
            obtain ⟨Aq2, cq2, rfl⟩ := hR.open_
            have HBG := hide (show ∀ W, wo.grownBy W (Value.slice Aq2 qs.length cq2).ownBlock → Blk W w3.heap.size 29 #[.int .i64 ((nv : Int) + (nv2 : Int)), .slice Aq2 qs.length cq2] from fun W hW => (hW.block w3.heap.size hB.lt (fun e => hNA.1 e.symm)).trans hB)
            have k0 : (0 : Int) ≤ ↑k := by omega
            have k1 : (↑k : Int) < ↑us.length := by omega
            unfold maxLen at hmz
            clear hx hqs hmem hzz
            have HB0 := hide hB
            clear hB
            go_wp2_with fail
            go_loopw [8, 9] (fun cv j ws => ∃ m : Nat, m ≤ z.length ∧ j = .int .i64 m ∧ OwnI wo.heap.size ws cv (shiftL (nv : Int) (z.take m)) ∧ Below wo.heap.size wo ws) (fun _ j _ => z.length - (intOf j).toNat)
            case atStart => exact ⟨0, Nat.zero_le _, rfl, OwnI.made _ _ (Nat.le_refl _), (Below.refl _ _).alloc (Nat.le_refl _) _⟩
            case round =>
              obtain ⟨m, hm2, rfl, hown, hbs⟩ := hrel
              have hss := hbs.size
              have s00 := below_old hbs _ _ q00
              have s11 := below_old hbs _ _ q11
              have scw := below_old hbs _ _ hcw
              have sy0 := below_old hbs _ _ y0
              have sy1 := below_old hbs _ _ y1
              have hrs := hrz.below hbs
              by_cases hlt2 : m < z.length
              · obtain ⟨bz, oz, x, rfl, hxz, hcx⟩ := hrs.int hlt2
                obtain ⟨hx0, hx1, hx2⟩ := HZS.out x (List.mem_of_getElem? (get_of_drop hxz))
                have HL2 := hide (show (shiftL (nv : Int) (z.take m)).length ≤ 1073741824 by have := HZN.out; simp [shiftL]; omega)
                have m0 : (0 : Int) ≤ ↑m := by omega
                have m1 : (↑m : Int) < ↑z.length := by omega
                by_cases hp : 0 < x
                · have HF2 := hide (show shiftL (nv : Int) (z.take (m + 1)) = shiftL (nv : Int) (z.take m) ++ [x + (nv : Int)] by rw [take_snoc hxz]; simp [shiftL, shiftI, hp])
                  have hwx : IntKind.i64.wrap (x + (nv : Int)) = x + (nv : Int) := by rw [IntKind.wrap_i64]; omega
                  clear hxz
                  go_wp2_with (at_builtin; refine append_int rfl _ _ rfl wo.heap.size rfl hown rfl HL2.out hss ?_; intro v1 ws2 hown1 hb1)
                  go_roundw
                  case rel => exact ⟨m + 1, by omega, by go_num, by rw [HF2.out]; first | exact hown1 | (rw [hwx] at hown1; exact hown1), hbs.trans hb1⟩
                  case measure => simp [intOf]; omega
                · have HF2 := hide (show shiftL (nv : Int) (z.take (m + 1)) = shiftL (nv : Int) (z.take m) ++ [x - (nv : Int)] by rw [take_snoc hxz]; simp [shiftL, shiftI, hp])
                  have hwx : IntKind.i64.wrap (x - (nv : Int)) = x - (nv : Int) := by rw [IntKind.wrap_i64]; omega
                  clear hxz
                  go_wp2_with (at_builtin; refine append_int rfl _ _ rfl wo.heap.size rfl hown rfl HL2.out hss ?_; intro v1 ws2 hown1 hb1)
                  go_roundw
                  case rel => exact ⟨m + 1, by omega, by go_num, by rw [HF2.out]; first | exact hown1 | (rw [hwx] at hown1; exact hown1), hbs.trans hb1⟩
                  case measure => simp [intOf]; omega
              · obtain rfl : m = z.length := by omega
                have hu := hown.fints
                rw [List.take_length] at hu
                obtain ⟨Ac, cc, rfl, -⟩ := id hu
                go_wp2_with (at_builtin; refine append_frow (H := wr.heap.size) rfl _ _ rfl (w.heap.size + 1 + 1 + 1) rfl hR hbs hu rfl rfl HLN.out HWR.out ?_; intro v3 wq hR3 hb3 hg3 hat3; have hB3 := HBG.out wq hg3; obtain ⟨A3, c3, rfl⟩ := hR3.open_; simp only [List.length_append, List.length_cons, List.length_nil, Nat.zero_add] at hR3 hat3; obtain ⟨p0, p1, g0, g1⟩ := blkTwo hB3)
                have hN3 := hNA.snoc hwr hu hat3
                have hB4 := hB3.set_ 1 (Value.slice A3 (qs.length + 1) c3)
                have hR4 := hR3.set_ hN3 1 (Value.slice A3 (qs.length + 1) c3)
                have hb4 := (hbel.trans hb3).setCell (p := ⟨w3.heap.size, 1, none⟩) (by show w.heap.size + 1 + 1 + 1 ≤ w3.heap.size; omega) (Value.slice A3 (qs.length + 1) c3)
                go_roundw
                case rel => exact ⟨k + 1, _, _, by omega, by go_num, ⟨by simp [HL.out]; omega, by rw [List.map_append]; exact HF.out⟩, by simpa using hB4, hR4, hN3, hb4⟩
                case measure => simp [intOf]; omega
          · obtain rfl : k = us.length := by omega
            have hQ := hqs.out.2
            rw [List.take_of_length_le (by simp), ← HUT.out] at hQ
            have HQ := hide hQ
            have hyf := HY.out.below hbel (by omega)
            have hTf := hR.ftab.read
            rw [hQ] at hTf
            obtain ⟨Aq2, cq2, rfl⟩ := hR.open_
            have hbf := HAL.out.trans (hbel.mono (by omega))
            have HGD := hide (show goodB ((nv : Int) + (nv2 : Int), t ++ u.map (shiftL (nv : Int))) = gd from hgd)
            clear hqs hQ
            go_wp2_with fail
            refine (s_l4Give gd ((nv : Int) + (nv2 : Int)) Aq2 _ cq2 (t ++ u.map (shiftL (nv : Int))) _ hTf HGD.out).mono ?_
            rintro e w7 ⟨rfl, hb7⟩
            have hy7 := hyf.below hb7 hyf.lt
            obtain ⟨z0, z1, g2, g3⟩ := blkTwo hy7
            cases gd
            · rw [giveR_no]
              obtain ⟨u0, u1, -, -⟩ := blkTwo (blkSet hy7 (.int .i64 0) (.slice none 0 0))
              have HB := hide (((hbf.trans (hb7.mono hbf.size)).setCell (p := ⟨w.heap.size + 1 + 1, 0, none⟩) HGE.out (.int .i64 0)).setCell (p := ⟨w.heap.size + 1 + 1, 1, none⟩) HGE.out (.slice none 0 0))
              go_wp2_with fail
              obtain ⟨hr0, rfl⟩ := HR.out
              have hr0' : r0 = (0, []) := hr0
              refine bodyPost_ret (v := .tuple #[.agg #[.int .i64 0, .slice none 0 0], .bool false]) (by simp [results, Try.results27, go_sem, u0, u1]) rfl ⟨_, rfl, by rw [hr0']; exact ⟨_, rfl, FTab.nil _ _ _⟩, HB.out⟩
            · rw [giveR_yes]
              obtain ⟨u0, u1, -, -⟩ := blkTwo (blkSet hy7 (.int .i64 ((nv : Int) + (nv2 : Int))) (.slice Aq2 qs.length cq2))
              have HB := hide (((hbf.trans (hb7.mono hbf.size)).setCell (p := ⟨w.heap.size + 1 + 1, 0, none⟩) HGE.out (.int .i64 ((nv : Int) + (nv2 : Int)))).setCell (p := ⟨w.heap.size + 1 + 1, 1, none⟩) HGE.out (.slice Aq2 qs.length cq2))
              have hFr := hR.below hb7
              have hNr := hFr.notAt (g := w.heap.size + 1 + 1) (by omega)
              have HFS := hide ((hFr.set_ hNr 0 (.int .i64 ((nv : Int) + (nv2 : Int)))).set_ hNr 1 (.slice Aq2 qs.length cq2))
              go_wp2_with fail
              obtain ⟨hr0, rfl⟩ := HR.out
              have hr0' : r0 = (((nv : Int) + (nv2 : Int)), t ++ u.map (shiftL (nv : Int))) := hr0
              refine bodyPost_ret (v := .tuple #[.agg #[.int .i64 ((nv : Int) + (nv2 : Int)), (.slice Aq2 qs.length cq2)], .bool true]) (by simp [results, Try.results27, go_sem, u0, u1]) rfl ⟨_, rfl, by rw [hr0']; exact ⟨_, rfl, by have h9 := HFS.out.ftab; rw [HQ.out] at h9; exact h9.mono (by omega) (Nat.le_refl _)⟩, HB.out⟩

set_option maxHeartbeats 3200000 in
theorem I_ApartCnfs {hi hi' : Nat} (v : Value) (f : CnfL) (v2 : Value) (g : CnfL) (r0 : CnfL) (r1 : Bool) (w : World) (h : RCnf hi w v f) (h2 : RCnf hi' w v2 g) (hn0 : szC f ≤ 1048576) (hn1 : szC g ≤ 1048576) (hR : fApartCnfs f g = (r0, r1)) :
    Calls Try.prog 28 #[v, v2] w fun e w' => ∃ v', e = .returned (.tuple #[v', .bool r1]) ∧ FCnf w.heap.size w'.heap.size w' v' r0 ∧ Below w.heap.size w w' := by
  obtain ⟨A, n1, c, rfl, ht⟩ := h.open2
  obtain ⟨A2, n2, c2, rfl, hu⟩ := h2.open2
  obtain ⟨vars, t⟩ := f
  obtain ⟨vars2, u⟩ := g
  dsimp only at ht hu ⊢
  obtain ⟨wa, hwa⟩ : ∃ wa, wa = (w.alloc (.cells #[.int .i64 vars, .slice A n1 c] 29)).alloc (.cells #[.int .i64 vars2, .slice A2 n2 c2] 29) := ⟨_, rfl⟩
  have hala : Below w.heap.size w wa := by rw [hwa]; exact ((Below.refl _ _).alloc (Nat.le_refl _) _).alloc (by simp) _
  have hsa : wa.heap.size = w.heap.size + 1 + 1 := by rw [hwa]; simp
  have xa00 : wa.cell? ⟨w.heap.size, 0, none⟩ = some (.int .i64 vars) := by rw [hwa]; simp
  have xa01 : wa.cell? ⟨w.heap.size, 1, none⟩ = some (.slice A n1 c) := by rw [hwa]; simp
  have xa10 : wa.cell? ⟨w.heap.size + 1, 0, none⟩ = some (.int .i64 vars2) := by rw [hwa]; simp
  have xa11 : wa.cell? ⟨w.heap.size + 1, 1, none⟩ = some (.slice A2 n2 c2) := by rw [hwa]; simp
  obtain ⟨wb, hwb⟩ : ∃ wb, wb = wa.alloc (.cells #[.int .i64 0, .slice none 0 0] 29) := ⟨_, rfl⟩
  have halb : Below wa.heap.size wa wb := by rw [hwb]; exact (Below.refl _ _).alloc (Nat.le_refl _) _
  have hyr : Blk wb (w.heap.size + 1 + 1) 29 #[.int .i64 0, .slice none 0 0] := by rw [hwb, ← hsa]; exact Blk.new _ _ _
  have x00 := below_old halb _ _ xa00
  have x01 := below_old halb _ _ xa01
  have x10 := below_old halb _ _ xa10
  have x11 := below_old halb _ _ xa11
  have hal := hala.trans (halb.mono (by omega))
  have tf := ht.top.below hal
  have tg := hu.top.below hal
  have HGE := hide (show w.heap.size ≤ w.heap.size + 1 + 1 by omega)
  have HWB := hide (show wb = ((w.alloc (.cells #[.int .i64 vars, .slice A n1 c] 29)).alloc (.cells #[.int .i64 vars2, .slice A2 n2 c2] 29)).alloc (.cells #[.int .i64 0, .slice none 0 0] 29) by rw [hwb, hwa])
  clear hwb hwa h h2 hala halb hsa xa00 xa01 xa10 xa11
  cases hg : goodB (vars, t) with
  | false =>
    obtain ⟨rfl, rfl⟩ : r0 = (0, []) ∧ r1 = false := by simpa [fApartCnfs, hg, eq_comm] using hR
    clear hR
    go_enter Try.func28, Try.ntmps28
    go_wp2_with fail
    rw [← HWB.out]
    refine (i_IsCnf _ (vars, t) _ ⟨_, rfl, tf⟩).mono ?_
    rintro e w1 ⟨rfl, hb1⟩
    rw [hg]
    have hyr := hyr.below hb1 hyr.lt
    obtain ⟨z0, z1, g0, g1⟩ := blkTwo hyr
    obtain ⟨u0, u1, -, -⟩ := blkTwo (blkSet hyr (.int .i64 0) (.slice none 0 0))
    have HB := hide (((hal.trans (hb1.mono hal.size)).setCell (p := ⟨w.heap.size + 1 + 1, 0, none⟩) HGE.out (.int .i64 0)).setCell (p := ⟨w.heap.size + 1 + 1, 1, none⟩) HGE.out (.slice none 0 0))
    go_wp2_with fail
    refine bodyPost_ret (v := .tuple #[.agg #[.int .i64 0, .slice none 0 0], .bool false]) (by simp [results, Try.results28, go_sem, u0, u1]) rfl ⟨_, rfl, ⟨_, rfl, FTab.nil _ _ _⟩, HB.out⟩
  | true =>
    cases hg2 : goodB (vars2, u) with
    | false =>
      obtain ⟨rfl, rfl⟩ : r0 = (0, []) ∧ r1 = false := by simpa [fApartCnfs, hg, hg2, eq_comm] using hR
      clear hR
      go_enter Try.func28, Try.ntmps28
      go_wp2_with fail
      rw [← HWB.out]
      refine (i_IsCnf _ (vars, t) _ ⟨_, rfl, tf⟩).mono ?_
      rintro e w1 ⟨rfl, hb1⟩
      rw [hg]
      replace x10 := below_old hb1 _ _ x10
      replace x11 := below_old hb1 _ _ x11
      replace tg := tg.below hb1
      replace hal := hal.trans (hb1.mono hal.size)
      replace hyr := hyr.below hb1 hyr.lt
      go_wp2_with fail
      refine (i_IsCnf _ (vars2, u) _ ⟨_, rfl, tg⟩).mono ?_
      rintro e w2 ⟨rfl, hb2⟩
      rw [hg2]
      have hyr := hyr.below hb2 hyr.lt
      obtain ⟨z0, z1, g0, g1⟩ := blkTwo hyr
      obtain ⟨u0, u1, -, -⟩ := blkTwo (blkSet hyr (.int .i64 0) (.slice none 0 0))
      have HB := hide (((hal.trans (hb2.mono hal.size)).setCell (p := ⟨w.heap.size + 1 + 1, 0, none⟩) HGE.out (.int .i64 0)).setCell (p := ⟨w.heap.size + 1 + 1, 1, none⟩) HGE.out (.slice none 0 0))
      go_wp2_with fail
      refine bodyPost_ret (v := .tuple #[.agg #[.int .i64 0, .slice none 0 0], .bool false]) (by simp [results, Try.results28, go_sem, u0, u1]) rfl ⟨_, rfl, ⟨_, rfl, FTab.nil _ _ _⟩, HB.out⟩
    | true =>
      have HS := hide (goodB_small hg2)
      obtain ⟨nv, hv, hn⟩ := varsB_nat (goodB_parts hg).1
      obtain ⟨nv2, hv2, hnn⟩ := varsB_nat (goodB_parts hg2).1
      dsimp only at HS hv hv2
      subst hv hv2
      obtain ⟨gd, hgd⟩ : ∃ gd, goodB (apartF ((nv : Int), t) ((nv2 : Int), u)) = gd := ⟨_, rfl⟩
      have hr : r0 = (if gd then apartF ((nv : Int), t) ((nv2 : Int), u) else (0, [])) ∧ r1 = gd := by
        simp only [fApartCnfs, giveF, hg, hg2, hgd, if_true] at hR
        cases gd <;> simpa [eq_comm] using hR
      have HR := hide hr
      have hws : IntKind.i64.wrap ((nv : Int) + (nv2 : Int)) = (nv : Int) + (nv2 : Int) := by rw [IntKind.wrap_i64]; omega
      have HT60 := hide (show t.length ≤ 60 from goodB_len hg)
      have HU60 := hide (show u.length ≤ 60 from goodB_len hg2)
      have HT := hide (show t.length ≤ 16777216 from Nat.le_trans (goodB_len hg) (by omega))
      have HZ1 := hide (show ∀ z ∈ t, z.length ≤ 16777216 from fun z hz => by have h1 := mem_cntT hz; have h2 : szT t ≤ 1048576 := hn0; unfold szT at h2; omega)
      have HZ2 := hide (show ∀ z ∈ u, z.length ≤ 1048576 from fun z hz => by have h1 := mem_cntT hz; have h2 : szT u ≤ 1048576 := hn1; unfold szT at h2; omega)
      clear hR hr
      go_enter Try.func28, Try.ntmps28
      go_wp2_with fail
      rw [← HWB.out]
      refine (i_IsCnf _ (_, t) _ ⟨_, rfl, tf⟩).mono ?_
      rintro e w1 ⟨rfl, hb1⟩
      rw [hg]
      replace x00 := below_old hb1 _ _ x00
      replace x01 := below_old hb1 _ _ x01
      replace x10 := below_old hb1 _ _ x10
      replace x11 := below_old hb1 _ _ x11
      replace tf := tf.below hb1
      replace tg := tg.below hb1
      replace hyr := hyr.below hb1 hyr.lt
      replace hal := hal.trans (hb1.mono hal.size)
      go_wp2_with fail
      refine (i_IsCnf _ (_, u) _ ⟨_, rfl, tg⟩).mono ?_
      rintro e w2 ⟨rfl, hb2⟩
      rw [hg2]
      replace x00 := below_old hb2 _ _ x00
      replace x01 := below_old hb2 _ _ x01
      replace x10 := below_old hb2 _ _ x10
      replace x11 := below_old hb2 _ _ x11
      replace tf := tf.below hb2
      replace tg := tg.below hb2
      replace hyr := hyr.below hb2 hyr.lt
      replace hal := hal.trans (hb2.mono hal.size)
      clear hb1 hb2 ht hu
      go_wp2_with fail
      go_region_held3 (fun w' => w'.cell? ⟨w.heap.size, 0, none⟩ = some (.int .i64 (nv : Int)) ∧ w'.cell? ⟨w.heap.size, 1, none⟩ = some (.slice A n1 c) ∧ w'.cell? ⟨w.heap.size + 1, 0, none⟩ = some (.int .i64 (nv2 : Int)) ∧ w'.cell? ⟨w.heap.size + 1, 1, none⟩ = some (.slice A2 n2 c2)) (refine ⟨below_old (w := w2) ?_ _ _ x00, below_old (w := w2) ?_ _ _ x01, below_old (w := w2) ?_ _ _ x10, below_old (w := w2) ?_ _ _ x11⟩ <;> (repeat (first | exact hB4 | exact Below.refl _ _ | apply below_drew_of | apply below_alloc_of)))
        ((first | (go_at_call 64; go_loud(refine (i_cloneLists _ t _ (tf.below (by (repeat (first | exact Below.refl _ _ | apply below_drew_of | apply below_alloc_of)))) HT.out HZ1.out).mono ?_; rintro e w4 ⟨v4, ps, rfl, hps, hF, hb4⟩; have hB4 := below_step (w := w2) (by (repeat (first | exact Below.refl _ _ | apply below_drew_of | apply below_alloc_of))) hb4; obtain ⟨A4, c4, rfl⟩ := hF.open_))))
      obtain ⟨w5, hw5⟩ : ∃ w5, w5 = w4.alloc (.cells #[.int .i64 ((nv : Int) + (nv2 : Int)), .slice A4 ps.length c4] 60) := ⟨_, rfl⟩
      have hb5 : Below w4.heap.size w4 w5 := by rw [hw5]; exact (Below.refl _ _).alloc (Nat.le_refl _) _
      have hBe : Blk w5 w4.heap.size 60 #[.int .i64 ((nv : Int) + (nv2 : Int)), .slice A4 ps.length c4] := by rw [hw5]; exact Blk.new _ _ _
      have hw24 : w.heap.size + 1 + 1 < w2.heap.size := hyr.lt
      have hb25 := below_step hB4 hb5
      have hFe : FRT (w.heap.size + 1 + 1 + 1) w5 (.slice A4 ps.length c4) ps := (hF.below hb5).mono (by show w.heap.size + 1 + 1 + 1 ≤ w2.heap.size; omega)
      have HNA := hide (show NotAt w4.heap.size (.slice A4 ps.length c4) ps from by
        refine ⟨fun e => ?_, fun p hp h0 e => ?_⟩
        · have := (hF.1.block_lt e).2; omega
        · obtain ⟨b, hb1, _, hb2⟩ := (hF.2.1.1 p hp).block h0
          rw [hb1] at e
          have : b = w4.heap.size := by simpa using e
          omega)
      have hs4 : w.heap.size + 1 + 1 < w4.heap.size := Nat.lt_of_lt_of_le hw24 hB4.size
      have HFE := hide hFe
      have HBE := hide hBe
      have HTG := hide (tg.below hb25)
      have HY := hide (hyr.below hb25 hyr.lt)
      have HAL := hide (hal.trans (hb25.mono hal.size))
      have HX00 := hide (below_old hb25 _ _ x00)
      have x11 := below_old hb25 _ _ x11
      have HSZ := hide (show w4.heap.size < w5.heap.size from hBe.lt)
      have hps' := hps
      rw [← hw5]
      clear hw5 hB4 hb5 hb4 hb25 hFe hBe hF tg hyr hal x00 x01 x10
      go_wp2_with fail
      obtain ⟨A2', c2', us, e', hc, hm, hut, hrow, hus⟩ := HTG.out.open_
      injection e' with e1 e2 e3
      subst e1 e2 e3
      have HUS := hide hus
      have HUT := hide hut
      have HUL := hide (show us.length ≤ 60 by have := HU60.out; rw [hut] at this; simpa using this)
      have HPL := hide (show ps.length = t.length by rw [← hps]; simp)
      have HPS := hide hps
      unfold maxLen at hm
      clear hus hut hps hps' x11
      go_loopw [31] (fun i wr => ∃ (k : Nat) (q : Value) (qs : List (Value × List Int)), k ≤ us.length ∧ i = .int .i64 k ∧ Hid (qs.length = t.length + k ∧ qs.map (·.2) = t ++ ((us.map (·.2)).take k).map (shiftL (nv : Int))) ∧ Blk wr w4.heap.size 60 #[.int .i64 ((nv : Int) + (nv2 : Int)), q] ∧ FRT (w.heap.size + 1 + 1 + 1) wr q qs ∧ NotAt w4.heap.size q qs ∧ Below (w.heap.size + 1 + 1 + 1) w5 wr) (fun i _ => us.length - (intOf i).toNat)
      case atStart => exact ⟨0, _, ps, Nat.zero_le _, rfl, ⟨by rw [HPL.out]; rfl, by rw [HPS.out]; simp⟩, HBE.out, HFE.out, HNA.out, Below.refl _ _⟩
      case round =>
        obtain ⟨k, q, qs, hk, rfl, hqs, hB, hR, hNA, hbel⟩ := hrel
        have q00 := (hbel.cell (p := ⟨w.heap.size, 0, none⟩) (by show w.heap.size < _; omega)).trans HX00.out
        have hwr : w4.heap.size < wr.heap.size := Nat.lt_of_lt_of_le HSZ.out hbel.size
        obtain ⟨y0, y1, f0, f1⟩ := blkTwo hB
        by_cases hlt : k < us.length
        · obtain ⟨b, off, ur, z, rfl, hx, hcw, hzz⟩ := hrow.tab HUS.out hlt
          have hbb : b < w.heap.size := by obtain ⟨b', off', e', hlt', _⟩ := hrow (by simp; omega); injection e' with e'; injection e' with e1 e2; omega
          replace hcw := (hbel.cell (p := ⟨b, off + k, none⟩) (by show b < _; omega)).trans hcw
          have hzr := hzz.under hbel (by omega)
          have hmem : z ∈ u := by rw [HUT.out]; exact List.mem_map.2 ⟨_, List.mem_of_getElem? (get_of_drop hx), rfl⟩
          have HZN := hide (HZ2.out z hmem)
          have HZS := hide (HS.out z hmem)
          have HZR := hide (hzr.below (below_drew wr))
          have HF : Hid (qs.map (·.2) ++ [shiftL (nv : Int) z] = t ++ ((us.map (·.2)).take (k + 1)).map (shiftL (nv : Int))) := by
            show _ = _
            rw [hqs.out.2, take_snoc_l (x := z) (by rw [← List.map_drop, hx]; simp)]
            simp
          have HL := hide hqs.out.1
          have HLN := hide (show qs.length ≤ 1073741824 by have := hqs.out.1; have := HUL.out; have := HT60.out; omega)
          obtain ⟨Az, cz, rfl, -⟩ := id hzz
          obtain ⟨Aq2, cq2, rfl⟩ := hR.open_
          have k0 : (0 : Int) ≤ ↑k := by omega
          have k1 : (↑k : Int) < ↑us.length := by omega
          have HSL := hide (show (shiftL (nv : Int) z).length = z.length by simp [shiftL])
          have HWR := hide (show w.heap.size + 1 + 1 + 1 ≤ wr.heap.size by omega)
          have HWX := hide hwr
          have HGE2 := hide (show w.heap.size + 1 + 1 + 1 ≤ w4.heap.size by omega)
          have HNN := hide (show ∀ W, Below wr.heap.size wr W → ¬ (w4.heap.size = W.heap.size) from fun W hW => by have := hW.size; omega)
          have HBK := hide (show ∀ W, Below wr.heap.size wr W → W.cell? ⟨w4.heap.size, 0, none⟩ = some (.int .i64 ((nv : Int) + (nv2 : Int))) ∧ W.cell? ⟨w4.heap.size, 1, none⟩ = some (.slice Aq2 qs.length cq2) from fun W hW => ⟨below_old hW _ _ y0, below_old hW _ _ y1⟩)
          have HBG := hide (show ∀ W, wr.grownBy W (Value.slice Aq2 qs.length cq2).ownBlock → Blk W w4.heap.size 60 #[.int .i64 ((nv : Int) + (nv2 : Int)), .slice Aq2 qs.length cq2] from fun W hW => (hW.block w4.heap.size hB.lt (fun e => hNA.1 e.symm)).trans hB)
          clear hx hqs hzz hmem
          go_wp2_with fail
          go_region_law (first | (go_simp; go_at_call 65; refine (i_shifted _ z nv _ HZR.out hn HZS.out HZN.out).mono ?_; rintro e wx ⟨v2, rfl, hown2, hb2⟩; have hb2' := (below_drew wr).trans hb2; have hu := hown2.fints; obtain ⟨Ax, cx, rfl, -⟩ := id hu; obtain ⟨p0, p1⟩ := HBK.out wx hb2'; have hnn := HNN.out wx hb2'; have p2 := (HBK.out _ (below_alloc_of hb2' (.cells #[.slice Ax (shiftL (nv : Int) z).length cx] 25))).2) | ((refine step_frow (H := wx.heap.size) rfl _ _ rfl (w.heap.size + 1 + 1 + 1) ?_ wr hR wx hb2' hu ?_ ?_ HLN.out ?_ ?_ ?_); (· rfl); (· (repeat (first | exact Below.refl _ _ | apply below_drew_of | apply below_alloc_of))); (· exact HWR.out); (· rfl); (· simp); (intro v3 w3 hR3 hb3 hg3 hat3; have hB3 := HBG.out w3 hg3; obtain ⟨A3, c3, rfl⟩ := hR3.open_; simp only [List.length_append, List.length_cons, List.length_nil, Nat.zero_add] at hR3 hat3; obtain ⟨p0, p1, g0, g1⟩ := blkTwo hB3)))
          all_goals (have hN3 := hNA.snoc HWX.out hu hat3; have hB4 := hB3.set_ 1 (Value.slice A3 (qs.length + 1) c3); have hR4 := hR3.set_ hN3 1 (Value.slice A3 (qs.length + 1) c3); have hb4 := (hbel.trans hb3).setCell (p := ⟨w4.heap.size, 1, none⟩) HGE2.out (Value.slice A3 (qs.length + 1) c3))
          all_goals go_wp2_with fail
          all_goals go_roundw
          all_goals first | (exact ⟨k + 1, _, _, by omega, by go_num, ⟨by simp [HL.out]; omega, by rw [List.map_append]; exact HF.out⟩, by simpa using hB4, hR4, hN3, hb4⟩) | (simp [intOf]; omega)
        · obtain rfl : k = us.length := by omega
          have hQ := hqs.out.2
          rw [List.take_of_length_le (by simp), ← HUT.out] at hQ
          have HQ := hide hQ
          have hyf := HY.out.below hbel (by omega)
          have hTf := hR.ftab.read
          rw [hQ] at hTf
          obtain ⟨Aq2, cq2, rfl⟩ := hR.open_
          have hbf := HAL.out.trans (hbel.mono (by omega))
          have HGD := hide (show goodB ((nv : Int) + (nv2 : Int), t ++ u.map (shiftL (nv : Int))) = gd from hgd)
          clear hqs hQ
          go_wp2_with fail
          refine (i_famCnf gd ((nv : Int) + (nv2 : Int)) Aq2 _ cq2 (t ++ u.map (shiftL (nv : Int))) _ _ hB hTf HGD.out).mono ?_
          rintro e w7 ⟨rfl, hb7⟩
          have hy7 := hyf.below hb7 hyf.lt
          obtain ⟨z0, z1, g2, g3⟩ := blkTwo hy7
          cases gd
          · rw [giveR_no]
            obtain ⟨u0, u1, -, -⟩ := blkTwo (blkSet hy7 (.int .i64 0) (.slice none 0 0))
            have HB := hide (((hbf.trans (hb7.mono hbf.size)).setCell (p := ⟨w.heap.size + 1 + 1, 0, none⟩) HGE.out (.int .i64 0)).setCell (p := ⟨w.heap.size + 1 + 1, 1, none⟩) HGE.out (.slice none 0 0))
            go_wp2_with fail
            obtain ⟨hr0, rfl⟩ := HR.out
            have hr0' : r0 = (0, []) := hr0
            refine bodyPost_ret (v := .tuple #[.agg #[.int .i64 0, .slice none 0 0], .bool false]) (by simp [results, Try.results28, go_sem, u0, u1]) rfl ⟨_, rfl, by rw [hr0']; exact ⟨_, rfl, FTab.nil _ _ _⟩, HB.out⟩
          · rw [giveR_yes]
            obtain ⟨u0, u1, -, -⟩ := blkTwo (blkSet hy7 (.int .i64 ((nv : Int) + (nv2 : Int))) (.slice Aq2 qs.length cq2))
            have HB := hide (((hbf.trans (hb7.mono hbf.size)).setCell (p := ⟨w.heap.size + 1 + 1, 0, none⟩) HGE.out (.int .i64 ((nv : Int) + (nv2 : Int)))).setCell (p := ⟨w.heap.size + 1 + 1, 1, none⟩) HGE.out (.slice Aq2 qs.length cq2))
            have hFr := hR.below hb7
            have hNr := hFr.notAt (g := w.heap.size + 1 + 1) (by omega)
            have HFS := hide ((hFr.set_ hNr 0 (.int .i64 ((nv : Int) + (nv2 : Int)))).set_ hNr 1 (.slice Aq2 qs.length cq2))
            go_wp2_with fail
            obtain ⟨hr0, rfl⟩ := HR.out
            have hr0' : r0 = (((nv : Int) + (nv2 : Int)), t ++ u.map (shiftL (nv : Int))) := hr0
            refine bodyPost_ret (v := .tuple #[.agg #[.int .i64 ((nv : Int) + (nv2 : Int)), (.slice Aq2 qs.length cq2)], .bool true]) (by simp [results, Try.results28, go_sem, u0, u1]) rfl ⟨_, rfl, by rw [hr0']; exact ⟨_, rfl, by have h9 := HFS.out.ftab; rw [HQ.out] at h9; exact h9.mono (by omega) (Nat.le_refl _)⟩, HB.out⟩

end Go.Proofs.Ytkmkdfogpdndoaa
