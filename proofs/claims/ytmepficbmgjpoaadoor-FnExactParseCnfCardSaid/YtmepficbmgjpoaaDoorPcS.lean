/- The walk of the reference's parser of formulas. -/
import Derived.Test.YtmepficbmgjpoaaDoorPcPl
import Derived.Test.YtmepficbmgjpoaaDoorParS
import Derived.Test.YtmepficbmgjpoaaDoorTabs
namespace Go.Proofs.YtmepficbmgjpoaaDoor
open Go.RowKit
set_option linter.unusedVariables false

theorem blkTwoP {w : World} {g : Nat} {T : TypeId} {a b : Value} (h : Blk w g T #[a, b]) : w.cell? ⟨g, 0, none⟩ = some a ∧ w.cell? ⟨g, 1, none⟩ = some b ∧ w.frozen? ⟨g, 0, none⟩ = false ∧ w.frozen? ⟨g, 1, none⟩ = false :=
  ⟨by simpa using h.cell 0, by simpa using h.cell 1, h.frozen 0, h.frozen 1⟩
theorem blkSetP {w : World} {g : Nat} {T : TypeId} {a b : Value} (h : Blk w g T #[a, b]) (x y : Value) : Blk ((w.setCell ⟨g, 0, none⟩ x).setCell ⟨g, 1, none⟩ y) g T #[x, y] := by
  simpa using (h.set_ 0 x).set_ 1 y
theorem FRT.notAtP {base g : Nat} {w : World} {v : Value} {ps : List (Value × List Int)} (h : FRT base w v ps) (hg : g < base) : NotAt g v ps := by
  refine ⟨fun e => ?_, fun p hp h0 e => ?_⟩
  · have := (h.1.block_lt e).1
    omega
  · obtain ⟨b, hb1, hb2, _⟩ := (h.2.1.1 p hp).block h0
    rw [hb1] at e
    have : b = g := by simpa using e
    omega
theorem OwnS.row {base : Nat} {w : World} {v : Value} {xs : List ByteArray} (h : OwnS base w v xs) (h0 : 0 < xs.length) : ∃ g c, v = .slice (some ⟨g, 0, none⟩) xs.length c ∧ c ≤ maxLen ∧ xs.length ≤ c ∧ g < w.heap.size ∧ ∀ j x, xs[j]? = some x → w.cell? ⟨g, j, none⟩ = some (.string x) := by
  rcases h.2 with ⟨_, h1⟩ | ⟨g, cap, cur, rfl, hb, hh, hnc, hm, hs, htk⟩
  · omega
  · have hB : Blk w g 9 cur := hh
    refine ⟨g, cap, rfl, hm, hnc, hB.lt, fun j x hj => ?_⟩
    rw [hB.cell j]
    have hl := List.getElem?_eq_some_iff.1 hj
    have h2 : (sc xs)[j]? = some (.string x) := by unfold sc; rw [List.getElem?_map, hj]; rfl
    rw [← htk, List.getElem?_take] at h2
    split at h2
    · simpa using h2
    · cases h2

set_option maxHeartbeats 6400000 in
theorem S_ParseCnf (s : ByteArray) (r0 : CnfL) (r1 : Bool) (w : World) (hs : s.size ≤ 1048576) (hR : fParseCnf s = (r0, r1)) :
    Calls Tryd.prog 38 #[.string s] w fun e w' => ∃ v', e = .returned (.tuple #[v', .bool r1]) ∧ FCnf w.heap.size w'.heap.size w' v' r0 ∧ Below w.heap.size w w' := by
  obtain ⟨wb, hwb⟩ : ∃ wb, wb = w.alloc (.cells #[.int .i64 0, .slice none 0 0] 49) := ⟨_, rfl⟩
  have hal : Below w.heap.size w wb := by rw [hwb]; exact (Below.refl _ _).alloc (Nat.le_refl _) _
  have hyr : Blk wb w.heap.size 49 #[.int .i64 0, .slice none 0 0] := by rw [hwb]; exact Blk.new _ _ _
  have HWB := hide hwb
  have HS := hide (s_l1Split s 59 wb hs)
  have HR := hide hR
  have HAL := hide hal
  have HY := hide hyr
  have HLE := hide (Nat.le_refl w.heap.size)
  clear hwb hal hyr hR
  obtain ⟨ps, hps⟩ : ∃ ps, (spl 59 [] s.data.toList).map bs = ps := ⟨_, rfl⟩
  have hpl : ps.length ≤ s.size + 1 := by rw [← hps, List.length_map]; have := spl_len 59 s.data.toList []; simpa using this
  have hpz : ∀ x ∈ ps, x.size ≤ 1048576 := by
    intro x hx
    rw [← hps] at hx
    obtain ⟨p, hp, rfl⟩ := List.mem_map.1 hx
    have := spl_piece 59 s.data.toList [] p hp
    rw [bs_size]
    simp at this
    omega
  have hpne : 0 < ps.length := by rw [← hps, List.length_map]; exact List.length_pos_iff.2 (spl_ne 59 [] s.data.toList)
  have hpo : partsOf s = ps := hps
  rw [hps] at HS
  obtain ⟨p0, rest, rfl⟩ : ∃ p0 rest, ps = p0 :: rest := by
    cases ps with
    | nil => simp at hpne
    | cons a b => exact ⟨a, b, rfl⟩
  have HPO := hide hpo
  have HPZ := hide hpz
  have HP0 := hide (hpz p0 (by simp))
  obtain ⟨m, hm⟩ : ∃ m, rest.length = m := ⟨_, rfl⟩
  have hml : m ≤ 1048576 := by simp at hpl; omega
  have HM := hide hm
  clear hps hpo hpz hpne hpl
  go_enter Tryd.func38, Tryd.ntmps38
  go_wp2_with fail
  rw [← HWB.out]
  go_wp2_with fail
  refine HS.out.mono ?_
  rintro e w1 ⟨wv, rfl, hw1, hb1⟩
  have hy1 := HY.out.below hb1 HY.out.lt
  have hb01 := HAL.out.trans (hb1.mono HAL.out.size)
  obtain ⟨g, cw, rfl, hcm, hcc, hgl, hcell⟩ := hw1.row (by simp)
  have hc0 := hcell 0 p0 rfl
  have HCL := hide hcell
  rw [show (p0 :: rest).length = m + 1 by simp [hm]] at hcc ⊢
  have HY1 := hide hy1
  have HB01 := hide hb01
  have hpos : (0 : Int) < ((m + 1 : Nat) : Int) := by omega
  clear hm hcell hw1 hy1 hb1 hb01 hcm
  obtain ⟨⟨q0, q1⟩, hq⟩ : ∃ q, fParseInt p0 = q := ⟨_, rfl⟩
  have HRD := hide (s_l1Read p0 q0 q1 w1 HP0.out hq)
  obtain ⟨M, hM⟩ : ∃ M, m + 1 = M := ⟨_, rfl⟩
  rw [hM] at hpos hcc ⊢
  go_wp2_with fail
  refine HRD.out.mono ?_
  rintro e w2 ⟨rfl, hq2⟩
  have hb2 := hq2.below w1.heap.size
  have hy2 := HY1.out.below hb2 HY1.out.lt
  have hb02 := HB01.out.trans (hb2.mono HB01.out.size)
  have hg2 : g < w2.heap.size := Nat.lt_of_lt_of_le hgl hb2.size
  have HC2 := hide (fun j x hj => below_old hb2 _ _ (HCL.out j x hj))
  have HLT := hide (show ∀ k, k < m → rest.drop k = rest[k]! :: rest.drop (k + 1) ∧ (p0 :: rest)[k + 1]? = some rest[k]! from fun k hk => by
    have hk' : k < rest.length := by rw [HM.out]; exact hk
    rw [getElem!_pos rest k hk']
    exact ⟨List.drop_eq_getElem_cons hk', by rw [List.getElem?_cons_succ, List.getElem?_eq_getElem hk']⟩)
  clear hb2
  cases hrs : readS p0.data.toList with
  | none =>
    obtain ⟨rfl, rfl⟩ := rd_none hrs hq
    have HF := hide (pf_none (pcS_a HPO.out hrs) HR.out)
    clear hrs hq
    obtain ⟨z0, z1, g0, g1⟩ := blkTwoP hy2
    obtain ⟨u0, u1, -, -⟩ := blkTwoP (blkSetP hy2 (.int .i64 0) (.slice none 0 0))
    have HBB := hide ((hb02.setCell (p := ⟨w.heap.size, 0, none⟩) HLE.out (.int .i64 0)).setCell (p := ⟨w.heap.size, 1, none⟩) HLE.out (.slice none 0 0))
    go_wp2_with fail
    refine bodyPost_ret (v := .tuple #[.agg #[.int .i64 0, .slice none 0 0], .bool false]) (by simp [results, Tryd.results38, go_sem, u0, u1]) rfl ?_
    obtain ⟨rfl, rfl⟩ := HF.out
    exact ⟨_, rfl, ⟨_, rfl, FTab.nil _ _ _⟩, HBB.out⟩
  | some m0 =>
    obtain ⟨rfl, rfl⟩ := rd_some hrs hq
    have HRS := hide hrs
    clear hrs hq
    cases hv : varsB q0 with
    | false =>
      have HF := hide (pf_none (pcS_b HPO.out HRS.out (fun h => by rw [hv] at h; cases h.1)) HR.out)
      go_wp2_with fail
      refine (s_l2Vars _ _).mono ?_
      rintro e w3 ⟨rfl, rfl⟩
      rw [hv]
      obtain ⟨z0, z1, g0, g1⟩ := blkTwoP hy2
      obtain ⟨u0, u1, -, -⟩ := blkTwoP (blkSetP hy2 (.int .i64 0) (.slice none 0 0))
      have HBB := hide ((hb02.setCell (p := ⟨w.heap.size, 0, none⟩) HLE.out (.int .i64 0)).setCell (p := ⟨w.heap.size, 1, none⟩) HLE.out (.slice none 0 0))
      go_wp2_with fail
      refine bodyPost_ret (v := .tuple #[.agg #[.int .i64 0, .slice none 0 0], .bool false]) (by simp [results, Tryd.results38, go_sem, u0, u1]) rfl ?_
      obtain ⟨rfl, rfl⟩ := HF.out
      exact ⟨_, rfl, ⟨_, rfl, FTab.nil _ _ _⟩, HBB.out⟩
    | true =>
      have HV := hide hv
      by_cases hlong : 61 < M
      · have hl1 : (61 : Int) < (M : Int) := by omega
        have HF := hide (pf_none (pcS_b HPO.out HRS.out (fun h => by have := h.2; rw [HM.out] at this; omega)) HR.out)
        go_wp2_with fail
        refine (s_l2Vars _ _).mono ?_
        rintro e w3 ⟨rfl, rfl⟩
        rw [hv]
        obtain ⟨z0, z1, g0, g1⟩ := blkTwoP hy2
        obtain ⟨u0, u1, -, -⟩ := blkTwoP (blkSetP hy2 (.int .i64 0) (.slice none 0 0))
        have HBB := hide ((hb02.setCell (p := ⟨w.heap.size, 0, none⟩) HLE.out (.int .i64 0)).setCell (p := ⟨w.heap.size, 1, none⟩) HLE.out (.slice none 0 0))
        go_wp2_with fail
        refine bodyPost_ret (v := .tuple #[.agg #[.int .i64 0, .slice none 0 0], .bool false]) (by simp [results, Tryd.results38, go_sem, u0, u1]) rfl ?_
        obtain ⟨rfl, rfl⟩ := HF.out
        exact ⟨_, rfl, ⟨_, rfl, FTab.nil _ _ _⟩, HBB.out⟩
      · have hl1 : ¬ ((61 : Int) < (M : Int)) := by omega
        have HM60 := hide (show rest.length ≤ 60 by rw [HM.out]; omega)
        have HMM := hide hM
        obtain ⟨wc, hwc⟩ : ∃ wc, wc = w2.alloc (.cells #[] 35) := ⟨_, rfl⟩
        have halc : Below w2.heap.size w2 wc := by rw [hwc]; exact (Below.refl _ _).alloc (Nat.le_refl _) _
        have hsc : wc.heap.size = w2.heap.size + 1 := by rw [hwc]; simp
        have hmade : FRT w2.heap.size wc (.slice (some ⟨w2.heap.size, 0, none⟩) 0 0) [] := by rw [hwc]; exact FRT.made _ _ (Nat.le_refl _)
        obtain ⟨we, hwe⟩ : ∃ we, we = wc.alloc (.cells #[.int .i64 q0, .slice (some ⟨w2.heap.size, 0, none⟩) 0 0] 49) := ⟨_, rfl⟩
        have hale : Below wc.heap.size wc we := by rw [hwe]; exact (Below.refl _ _).alloc (Nat.le_refl _) _
        have hBe : Blk we (w2.heap.size + 1) 49 #[.int .i64 q0, .slice (some ⟨w2.heap.size, 0, none⟩) 0 0] := by rw [hwe, ← hsc]; exact Blk.new _ _ _
        have hb2e : Below w2.heap.size w2 we := halc.trans (hale.mono (by omega))
        have HWE := hide (show we = (w2.alloc (.cells #[] 35)).alloc (.cells #[.int .i64 q0, .slice (some ⟨w2.heap.size, 0, none⟩) 0 0] 49) by rw [hwe, hwc])
        have HFE := hide (hmade.below hale)
        have HBE := hide hBe
        have HYE := hide (hy2.below hb2e hy2.lt)
        have HAE := hide (hb02.trans (hb2e.mono hb02.size))
        have HSZ := hide (show w2.heap.size + 1 < we.heap.size from hBe.lt)
        have HW2 := hide (show w.heap.size < w2.heap.size from hy2.lt)
        have HCE := hide (fun j x hj => below_old hb2e _ _ (HC2.out j x hj))
        clear hwe hwc hale halc hsc hmade hBe hb2e hy2 hb02 hM
        go_wp2_with fail
        refine (s_l2Vars _ _).mono ?_
        rintro e w3 ⟨rfl, rfl⟩
        rw [hv]
        clear hv
        go_wp2_with fail
        rw [← HWE.out]
        go_wp2_with fail
        go_loopw [8] (fun i wr => ∃ (k : Nat) (q : Value) (qs : List (Value × List Int)), k ≤ m ∧ i = .int .i64 ((k : Int) + 1) ∧ Hid (qs.length = k ∧ allBy (clS q0) (rest.take k) = some (qs.map (·.2))) ∧ Blk wr (w2.heap.size + 1) 49 #[.int .i64 q0, q] ∧ FRT w2.heap.size wr q qs ∧ NotAt (w2.heap.size + 1) q qs ∧ Below w2.heap.size we wr) (fun i _ => M - (intOf i).toNat)
        case atStart => exact ⟨0, _, [], Nat.zero_le _, rfl, ⟨rfl, rfl⟩, HBE.out, HFE.out, ⟨by simp [Value.ownBlock], by simp⟩, Below.refl _ _⟩
        case round =>
          obtain ⟨k, q, qs, hk, rfl, hqs, hB, hRt, hNA, hbel⟩ := hrel
          have hwr : w2.heap.size + 1 < wr.heap.size := Nat.lt_of_lt_of_le HSZ.out hbel.size
          have hyw := HYE.out.below hbel HW2.out
          have hbw := HAE.out.trans (hbel.mono (Nat.le_of_lt HW2.out))
          obtain ⟨Aq, cq, rfl⟩ := hRt.open_
          by_cases hlt : k < m
          · obtain ⟨hdk, hgk⟩ := HLT.out k hlt
            obtain ⟨x, hx⟩ : ∃ x, rest[k]! = x := ⟨_, rfl⟩
            rw [hx] at hdk hgk
            have hcx : wr.cell? ⟨g, k + 1, none⟩ = some (.string x) := (hbel.cell (p := ⟨g, k + 1, none⟩) hg2).trans (HCE.out (k + 1) x hgk)
            have hxz := HPZ.out x (List.mem_of_getElem? hgk)
            obtain ⟨hsp, htk⟩ := take_snocB hdk
            have k0 : (0 : Int) ≤ (k : Int) + 1 := by omega
            have k1 : (k : Int) + 1 < (M : Int) := by have := HMM.out; omega
            have kw : IntKind.i64.wrap ((k : Int) + 1 + 1) = (k : Int) + 1 + 1 := by rw [IntKind.wrap_i64]; omega
            have kn : ((k : Int) + 1).toNat = k + 1 := by omega
            have hbad : clS q0 x = none → r0 = (0, []) ∧ r1 = false := fun h => pf_none (pcS_c HPO.out HRS.out (by rw [hsp]; exact allBy_bad hqs.out.2 h)) HR.out
            by_cases h2 : x.size < 2
            · have c2 : (x.size : Int) < 2 := by omega
              have HF := hide (hbad (by unfold clS; rw [if_neg (fun h => by omega)]))
              clear hbad hqs hsp htk hx hdk hgk
              obtain ⟨z0, z1, g0, g1⟩ := blkTwoP hyw
              obtain ⟨u0, u1, -, -⟩ := blkTwoP (blkSetP hyw (.int .i64 0) (.slice none 0 0))
              have HBB := hide ((hbw.setCell (p := ⟨w.heap.size, 0, none⟩) HLE.out (.int .i64 0)).setCell (p := ⟨w.heap.size, 1, none⟩) HLE.out (.slice none 0 0))
              go_wp2_with fail
              refine bodyPost_ret (v := .tuple #[.agg #[.int .i64 0, .slice none 0 0], .bool false]) (by simp [results, Tryd.results38, go_sem, u0, u1]) rfl ?_
              obtain ⟨rfl, rfl⟩ := HF.out
              exact ⟨_, rfl, ⟨_, rfl, FTab.nil _ _ _⟩, HBB.out⟩
            have c2 : ¬ ((x.size : Int) < 2) := by omega
            have c3 : (0 : Int) < (x.size : Int) := by omega
            have c4 : 0 < x.size := by omega
            have hxd : x.data.toList.head? = some x[0] := by
              have := byte_drop x 0 c4
              rw [List.drop_zero] at this
              rw [this]; rfl
            by_cases h3 : (x[0]).toNat = 32
            case neg =>
              have c5 : (((x[0]).toNat : Int) == 32) = false := by rw [beq_eq_false_iff_ne]; omega
              have HF := hide (hbad (by
                unfold clS
                rw [if_neg]
                rintro ⟨_, h⟩
                rw [hxd] at h
                have : x[0] = 32 := by simpa using h
                exact h3 (by rw [this]; rfl)))
              clear hbad hqs hsp htk hx hdk hgk hxd
              obtain ⟨z0, z1, g0, g1⟩ := blkTwoP hyw
              obtain ⟨u0, u1, -, -⟩ := blkTwoP (blkSetP hyw (.int .i64 0) (.slice none 0 0))
              have HBB := hide ((hbw.setCell (p := ⟨w.heap.size, 0, none⟩) HLE.out (.int .i64 0)).setCell (p := ⟨w.heap.size, 1, none⟩) HLE.out (.slice none 0 0))
              go_wp2_with fail
              refine bodyPost_ret (v := .tuple #[.agg #[.int .i64 0, .slice none 0 0], .bool false]) (by simp [results, Tryd.results38, go_sem, u0, u1]) rfl ?_
              obtain ⟨rfl, rfl⟩ := HF.out
              exact ⟨_, rfl, ⟨_, rfl, FTab.nil _ _ _⟩, HBB.out⟩
            have c5 : (((x[0]).toNat : Int) == 32) = true := by simp [h3]
            have c6 : (1 : Int) ≤ (x.size : Int) := by omega
            obtain ⟨t, ht⟩ : ∃ t, x.extract 1 x.size = t := ⟨_, rfl⟩
            have hcl : clS q0 x = clI q0 t := by
              unfold clS
              rw [if_pos ⟨by omega, by rw [hxd, show x[0] = 32 from UInt8.toNat_inj.1 h3]⟩, ht]
            have htz : t.size ≤ 1048576 := by rw [← ht]; simp; omega
            obtain ⟨⟨t0, t1⟩, htt⟩ : ∃ r, fParseClause q0 t = r := ⟨_, rfl⟩
            have HPA := hide (s_l2Parse q0 t t0 t1 wr htz htt)
            cases t1 with
            | false =>
              have HF := hide (hbad (by rw [hcl]; exact clI_no htt))
              clear hbad hqs hsp htk hx hdk hgk hxd htt hcl
              go_wp2_with fail
              refine HPA.out.mono ?_
              rintro e w4 ⟨v4, rfl, hi4, hb4⟩
              have hy4 := hyw.below hb4 hyw.lt
              have hb04 := hbw.trans (hb4.mono hbw.size)
              obtain ⟨z0, z1, g0, g1⟩ := blkTwoP hy4
              obtain ⟨u0, u1, -, -⟩ := blkTwoP (blkSetP hy4 (.int .i64 0) (.slice none 0 0))
              have HBB := hide ((hb04.setCell (p := ⟨w.heap.size, 0, none⟩) HLE.out (.int .i64 0)).setCell (p := ⟨w.heap.size, 1, none⟩) HLE.out (.slice none 0 0))
              go_wp2_with fail
              refine bodyPost_ret (v := .tuple #[.agg #[.int .i64 0, .slice none 0 0], .bool false]) (by simp [results, Tryd.results38, go_sem, u0, u1]) rfl ?_
              obtain ⟨rfl, rfl⟩ := HF.out
              exact ⟨_, rfl, ⟨_, rfl, FTab.nil _ _ _⟩, HBB.out⟩
            | true =>
              have HF := hide (show allBy (clS q0) (rest.take (k + 1)) = some (qs.map (·.2) ++ [t0]) by rw [htk]; exact allBy_snoc hqs.out.2 (by rw [hcl]; exact clI_of htt))
              have HQK := hide hqs.out.1
              have HLN := hide (show qs.length ≤ 1073741824 by have := hqs.out.1; omega)
              have HWR := hide (show w2.heap.size ≤ wr.heap.size by omega)
              have HWX := hide hwr
              have HGE2 := hide (show w2.heap.size ≤ w2.heap.size + 1 by omega)
              have HBK := hide (show ∀ W, Below wr.heap.size wr W → W.cell? ⟨w2.heap.size + 1, 0, none⟩ = some (.int .i64 q0) ∧ W.cell? ⟨w2.heap.size + 1, 1, none⟩ = some (.slice Aq qs.length cq) from fun W hW => ⟨below_old hW _ _ (blkTwoP hB).1, below_old hW _ _ (blkTwoP hB).2.1⟩)
              have HBG := hide (show ∀ W, wr.grownBy W (Value.slice Aq qs.length cq).ownBlock → Blk W (w2.heap.size + 1) 49 #[.int .i64 q0, .slice Aq qs.length cq] from fun W hW => (hW.block (w2.heap.size + 1) hB.lt (fun e => hNA.1 e.symm)).trans hB)
              have HBW := hide hbel
              have HNA := hide hNA
              have HMW := hide HMM.out
              clear hbad hqs hsp htk hx hdk hgk hxd htt hcl hB hNA hbel hbw hyw
              go_wp2_with fail
              refine HPA.out.mono ?_
              rintro e w4 ⟨v4, rfl, hi4, hb4⟩
              obtain ⟨p0', p1'⟩ := HBK.out w4 hb4
              obtain ⟨A4, c4', rfl, -⟩ := id hi4
              go_wp2_with (at_builtin; refine append_frow (H := w4.heap.size) rfl _ _ rfl w2.heap.size rfl hRt hb4 hi4 rfl rfl HLN.out HWR.out ?_; intro v5 w5 hR5 hb5 hg5 hat5; have hB5 := HBG.out w5 hg5; obtain ⟨A5, c5', rfl⟩ := hR5.open_; simp only [List.length_append, List.length_cons, List.length_nil, Nat.zero_add] at hR5 hat5; obtain ⟨b0, b1, g0, g1⟩ := blkTwoP hB5)
              have hN5 := HNA.out.snoc HWX.out hi4 hat5
              have hB6 := hB5.set_ 1 (Value.slice A5 (qs.length + 1) c5')
              have hR6 := hR5.set_ hN5 1 (Value.slice A5 (qs.length + 1) c5')
              have hb6 := (HBW.out.trans hb5).setCell (p := ⟨w2.heap.size + 1, 1, none⟩) HGE2.out (Value.slice A5 (qs.length + 1) c5')
              go_wp2_with fail
              go_roundw
              case rel => exact ⟨k + 1, _, _, by omega, by go_num, ⟨by simp [HQK.out], by rw [List.map_append]; exact HF.out⟩, by simpa using hB6, hR6, hN5, hb6⟩
              case measure => have := HMW.out; simp [intOf]; omega
          · obtain rfl : k = m := by omega
            have hal2 : allBy (clS q0) rest = some (qs.map (·.2)) := by
              have h9 := hqs.out.2
              rw [List.take_of_length_le (by rw [HM.out]; exact Nat.le_refl _)] at h9
              exact h9
            have hgood : goodB (q0, qs.map (·.2)) = true := good_of HV.out (by rw [allBy_len _ _ hal2]; exact HM60.out) (allBy_all _ _ clS_ok hal2)
            have hpd := pcS_d HPO.out HRS.out ⟨HV.out, HM60.out⟩ hal2
            have k1 : ¬ ((k : Int) + 1 < (M : Int)) := by have := HMM.out; omega
            have HTX := hide (s_l2TextOf (.agg #[.int .i64 q0, .slice Aq qs.length cq]) (q0, qs.map (·.2)) wr ⟨_, rfl, hRt.ftab.read⟩ hgood)
            obtain ⟨b, hbb⟩ : ∃ b, decide (bs (cnfL (q0, qs.map (·.2))) = s) = b := ⟨_, rfl⟩
            have hne : ((bs (cnfL (q0, qs.map (·.2)))).toList == s.toList) = b := by rw [beq_bytes, hbb]
            obtain ⟨T, hT⟩ : ∃ T, bs (cnfL (q0, qs.map (·.2))) = T := ⟨_, rfl⟩
            rw [hT] at hne HTX
            obtain ⟨y0, y1, f0, f1⟩ := blkTwoP hB
            cases b with
            | false =>
              have HF := hide (pf_none (by rw [hpd, if_neg (of_decide_eq_false hbb)]) HR.out)
              clear hqs hal2 hpd hbb hT
              go_wp2_with fail
              refine HTX.out.mono ?_
              rintro e w4 ⟨rfl, hb4⟩
              have hy4 := hyw.below hb4 hyw.lt
              have hb04 := hbw.trans (hb4.mono hbw.size)
              obtain ⟨z0, z1, g0, g1⟩ := blkTwoP hy4
              obtain ⟨u0, u1, -, -⟩ := blkTwoP (blkSetP hy4 (.int .i64 0) (.slice none 0 0))
              have HBB := hide ((hb04.setCell (p := ⟨w.heap.size, 0, none⟩) HLE.out (.int .i64 0)).setCell (p := ⟨w.heap.size, 1, none⟩) HLE.out (.slice none 0 0))
              go_wp2_with fail
              refine bodyPost_ret (v := .tuple #[.agg #[.int .i64 0, .slice none 0 0], .bool false]) (by simp [results, Tryd.results38, go_sem, u0, u1]) rfl ?_
              obtain ⟨rfl, rfl⟩ := HF.out
              exact ⟨_, rfl, ⟨_, rfl, FTab.nil _ _ _⟩, HBB.out⟩
            | true =>
              have HF := hide (pf_some (by rw [hpd, if_pos (of_decide_eq_true hbb)]) HR.out)
              have hNr := hRt.notAtP HW2.out
              have HRT := hide hRt
              have HNR := hide hNr
              clear hqs hal2 hpd hbb hT hRt hNr
              go_wp2_with fail
              refine HTX.out.mono ?_
              rintro e w4 ⟨rfl, hb4⟩
              have hy4 := hyw.below hb4 hyw.lt
              have hb04 := hbw.trans (hb4.mono hbw.size)
              have y40 := below_old hb4 _ _ y0
              have y41 := below_old hb4 _ _ y1
              obtain ⟨z0, z1, g0, g1⟩ := blkTwoP hy4
              obtain ⟨u0, u1, -, -⟩ := blkTwoP (blkSetP hy4 (.int .i64 q0) (.slice Aq qs.length cq))
              have HBB := hide ((hb04.setCell (p := ⟨w.heap.size, 0, none⟩) HLE.out (.int .i64 q0)).setCell (p := ⟨w.heap.size, 1, none⟩) HLE.out (.slice Aq qs.length cq))
              have HFS := hide (((HRT.out.below hb4).set_ HNR.out 0 (.int .i64 q0)).set_ HNR.out 1 (.slice Aq qs.length cq))
              have HWL := hide (Nat.le_of_lt HW2.out)
              clear y0 y1
              go_wp2_with fail
              refine bodyPost_ret (v := .tuple #[.agg #[.int .i64 q0, .slice Aq qs.length cq], .bool true]) (by simp [results, Tryd.results38, go_sem, u0, u1]) rfl ?_
              obtain ⟨rfl, rfl⟩ := HF.out
              exact ⟨_, rfl, ⟨_, rfl, HFS.out.ftab.mono HWL.out (Nat.le_refl _)⟩, HBB.out⟩

end Go.Proofs.YtmepficbmgjpoaaDoor
