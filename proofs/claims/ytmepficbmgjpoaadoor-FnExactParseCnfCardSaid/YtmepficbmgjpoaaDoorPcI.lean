/- The walk of the program's parser of formulas. -/
import Derived.Test.YtmepficbmgjpoaaDoorPcS
namespace Go.Proofs.YtmepficbmgjpoaaDoor
open Go.RowKit
set_option linter.unusedVariables false

theorem g_SplitX (s sep : ByteArray) (w : World) (hs : s.size ≤ 1048576) (h1 : 1 ≤ sep.size) (hM : MaxV w) :
    Calls Tryd.prog 49 #[.string s, .string sep] w fun e w' => e = .returned (.slice (some ⟨w.heap.size, 0, none⟩) (splitS s sep).length (splitS s sep).length) ∧ (∀ j x, (splitS s sep)[j]? = some x → w'.cell? ⟨w.heap.size, j, none⟩ = some (.string x)) ∧ w.heap.size < w'.heap.size ∧ Below w.heap.size w w' := by
  obtain ⟨m, hm⟩ := hM
  refine (Tryd.strings_Split s sep m w (by omega) hm h1).mono ?_
  rintro e w' ⟨rfl, rfl⟩
  have hlen := Lib.splitB_all sep h1 0 _ s rfl
  rw [splitB_bs] at hlen ⊢
  rw [hlen]
  refine ⟨rfl, fun j x hj => ?_, by simp, (Below.refl _ _).alloc (Nat.le_refl _) _⟩
  rw [(Blk.new w 9 ((splitS s sep).map Value.string).toArray).cell j, List.getElem?_toArray, List.getElem?_map, hj]
  rfl
theorem fParseCnf_len {s : ByteArray} {r0 : CnfL} {r1 : Bool} (hR : fParseCnf s = (r0, r1)) : szC r0 ≤ 1048576 := by
  have := goodB_sz (fParseCnf_good hR)
  omega
theorem chg_oldP {lo hi : Nat} {w w' : World} {p : Addr} {u : Value} (hc : Chg lo hi w w') (h : w.cell? p = some u) (hl : p.block < lo ∨ hi ≤ p.block) : w'.cell? p = some u :=
  (World.cell?_of_block (hc.block p.block (World.block_lt_of_cell? _ _ h) hl)).trans h
theorem splitS_le (s sep : ByteArray) (h1 : 1 ≤ sep.size) : (splitS s sep).length ≤ s.size + 1 := by
  rw [← splitB_bs, Lib.splitB_all sep h1 0 _ s rfl]
  have := Lib.countB_le sep h1 s.size s (Nat.le_refl _)
  omega
theorem glue_mem {sep p x : List UInt8} {ps : List (List UInt8)} (h : x ∈ p :: ps) : x.length ≤ (glue sep p ps).length := by
  unfold glue
  rw [List.length_append]
  rcases List.mem_cons.1 h with rfl | h
  · omega
  · induction ps with
    | nil => cases h
    | cons y r ih =>
      rw [List.flatMap_cons, List.length_append, List.length_append]
      rcases List.mem_cons.1 h with rfl | h
      · omega
      · have := ih (by simp [h]) h
        omega
theorem splitS_size {s sep x : ByteArray} (h1 : 1 ≤ sep.size) (h : x ∈ splitS s sep) : x.size ≤ s.size := by
  unfold splitS at h
  obtain ⟨p, ps, h2, h3⟩ := glue_split sep.data.toList (by simpa using h1) _ s.data.toList (Nat.le_refl _)
  rw [h2] at h
  obtain ⟨y, hy, rfl⟩ := List.mem_map.1 h
  have h4 := glue_mem (sep := sep.data.toList) hy
  rw [← h3] at h4
  rw [bs_size]
  simpa using h4
theorem splitS_ne (s sep : ByteArray) (h1 : 1 ≤ sep.size) : ∃ p ps, splitS s sep = p :: ps := by
  obtain ⟨p, ps, h2, h3⟩ := glue_split sep.data.toList (by simpa using h1) _ s.data.toList (Nat.le_refl _)
  exact ⟨bs p, ps.map bs, by unfold splitS; rw [h2]; rfl⟩

set_option maxHeartbeats 6400000 in
theorem I_ParseCnf (s : ByteArray) (r0 : CnfL) (r1 : Bool) (w : World) (hP : PowM w) (hs : s.size ≤ 1048576) (hR : fParseCnf s = (r0, r1)) :
    Calls Tryd.prog 39 #[.string s] w fun e w' => ∃ v', e = .returned (.tuple #[v', .bool r1]) ∧ FCnf w.heap.size w'.heap.size w' v' r0 ∧ Below w.heap.size w w' := by
  obtain ⟨wb, hwb⟩ : ∃ wb, wb = w.alloc (.cells #[.int .i64 0, .slice none 0 0] 49) := ⟨_, rfl⟩
  have hal : Below w.heap.size w wb := by rw [hwb]; exact (Below.refl _ _).alloc (Nat.le_refl _) _
  have hyr : Blk wb w.heap.size 49 #[.int .i64 0, .slice none 0 0] := by rw [hwb]; exact Blk.new _ _ _
  have HWB := hide hwb
  have HS := hide (g_SplitX s semiB wb hs (by decide) (hP.2.below hal))
  have HR := hide hR
  have HAL := hide hal
  have HY := hide hyr
  have HP := hide hP
  have HLE := hide (Nat.le_refl w.heap.size)
  clear hwb hal hyr hR hP
  obtain ⟨p0, rest, hpo⟩ := splitS_ne s semiB (by decide)
  have hpl := splitS_le s semiB (by decide)
  have hpz : ∀ x ∈ splitS s semiB, x.size ≤ 1048576 := fun x hx => Nat.le_trans (splitS_size (by decide) hx) hs
  rw [hpo] at HS hpl hpz
  have HPO := hide hpo
  have HPZ := hide hpz
  have HP0 := hide (hpz p0 (by simp))
  obtain ⟨m, hm⟩ : ∃ m, rest.length = m := ⟨_, rfl⟩
  have hml : m ≤ 1048576 := by simp at hpl; omega
  have HM := hide hm
  rw [show (p0 :: rest).length = m + 1 by simp [hm]] at HS
  clear hpo hpz hpl
  obtain ⟨g, hg⟩ : ∃ g, wb.heap.size = g := ⟨_, rfl⟩
  rw [hg] at HS
  obtain ⟨M, hM⟩ : ∃ M, m + 1 = M := ⟨_, rfl⟩
  rw [hM] at HS
  have HMM := hide hM
  have hpos : (0 : Int) < ((M : Nat) : Int) := by omega
  have HLT := hide (show ∀ k, k < m → rest.drop k = rest[k]! :: rest.drop (k + 1) ∧ (p0 :: rest)[k + 1]? = some rest[k]! from fun k hk => by
    have hk' : k < rest.length := by rw [HM.out]; exact hk
    rw [getElem!_pos rest k hk']
    exact ⟨List.drop_eq_getElem_cons hk', by rw [List.getElem?_cons_succ, List.getElem?_eq_getElem hk']⟩)
  have HG := hide hg
  clear hm hM hg
  go_enter Tryd.func39, Tryd.ntmps39
  go_wp2_with fail
  rw [← HWB.out]
  go_wp2_with fail
  refine HS.out.mono ?_
  rintro e w1 ⟨rfl, hcell, hgl, hb1⟩
  have hy1 := HY.out.below hb1 (by rw [← HG.out]; exact HY.out.lt)
  have hb01 : Below w.heap.size w w1 := HAL.out.trans (hb1.mono (by rw [← HG.out]; exact HAL.out.size))
  have hc0 := hcell 0 p0 rfl
  have HCL := hide hcell
  have HY1 := hide hy1
  have HB01 := hide hb01
  obtain ⟨⟨q0, q1⟩, hq⟩ : ∃ q, fParseInt p0 = q := ⟨_, rfl⟩
  have HRD := hide (I_ParseInt p0 q0 q1 w1 (HP.out.1.below hb01) HP0.out hq)
  clear hcell hy1 hb1 hb01
  go_wp2_with fail
  refine HRD.out.mono ?_
  rintro e w2 ⟨rfl, hb2⟩
  have hy2 := HY1.out.below hb2 HY1.out.lt
  have hb02 := HB01.out.trans (hb2.mono HB01.out.size)
  have hg2 : g < w2.heap.size := Nat.lt_of_lt_of_le hgl hb2.size
  have HC2 := hide (fun j x hj => below_old hb2 _ _ (HCL.out j x hj))
  clear hb2 hc0
  cases hrs : readS p0.data.toList with
  | none =>
    obtain ⟨rfl, rfl⟩ := rd_none hrs hq
    have HF := hide (pf_none (by rw [← pcI_eq]; exact pcI_a HPO.out hrs) HR.out)
    clear hrs hq
    obtain ⟨z0, z1, g0, g1⟩ := blkTwoP hy2
    obtain ⟨u0, u1, -, -⟩ := blkTwoP (blkSetP hy2 (.int .i64 0) (.slice none 0 0))
    have HBB := hide ((hb02.setCell (p := ⟨w.heap.size, 0, none⟩) HLE.out (.int .i64 0)).setCell (p := ⟨w.heap.size, 1, none⟩) HLE.out (.slice none 0 0))
    go_wp2_with fail
    refine bodyPost_ret (v := .tuple #[.agg #[.int .i64 0, .slice none 0 0], .bool false]) (by simp [results, Tryd.results39, go_sem, u0, u1]) rfl ?_
    obtain ⟨rfl, rfl⟩ := HF.out
    exact ⟨_, rfl, ⟨_, rfl, FTab.nil _ _ _⟩, HBB.out⟩
  | some m0 =>
    obtain ⟨rfl, rfl⟩ := rd_some hrs hq
    have HRS := hide hrs
    clear hrs hq
    obtain ⟨we, hwe⟩ : ∃ we, we = w2.alloc (.cells #[.int .i64 q0, .slice none 0 0] 49) := ⟨_, rfl⟩
    have hale : Below w2.heap.size w2 we := by rw [hwe]; exact (Below.refl _ _).alloc (Nat.le_refl _) _
    have hBe : Blk we w2.heap.size 49 #[.int .i64 q0, .slice none 0 0] := by rw [hwe]; exact Blk.new _ _ _
    have HWE := hide hwe
    have HBE := hide hBe
    have HYE := hide (hy2.below hale hy2.lt)
    have HAE := hide (hb02.trans (hale.mono hb02.size))
    have HSZ := hide (show w2.heap.size < we.heap.size from hBe.lt)
    have HW2 := hide (show w.heap.size < w2.heap.size from hy2.lt)
    have HCE := hide (fun j x hj => below_old hale _ _ (HC2.out j x hj))
    clear hwe hale hBe hy2 hb02
    rcases Nat.eq_zero_or_pos m with h0 | h0
    · subst h0
      obtain rfl : M = 1 := by have := HMM.out; omega
      go_wp2_with fail
      rw [← HWE.out]
      go_loopw [29] (fun i wr => ∃ (k : Nat) (q : Value) (qs : List (Value × List Int)), k ≤ 0 ∧ i = .int .i64 k ∧ Hid (qs.length = k ∧ allBy (clI q0) (rest.take k) = some (qs.map (·.2))) ∧ Blk wr w2.heap.size 49 #[.int .i64 q0, q] ∧ FRT w2.heap.size wr q qs ∧ NotAt w2.heap.size q qs ∧ Below w2.heap.size we wr) (fun i _ => 0 - (intOf i).toNat)
      case atStart => exact ⟨0, _, [], Nat.zero_le _, rfl, ⟨rfl, rfl⟩, HBE.out, FRT.nil _ _, NotAt.nil _, Below.refl _ _⟩
      case round =>
        obtain ⟨k, q, qs, hk, rfl, hqs, hB, hRt, hNA, hbel⟩ := hrel
        have hwr : w2.heap.size < wr.heap.size := Nat.lt_of_lt_of_le HSZ.out hbel.size
        have hyw := HYE.out.below hbel HW2.out
        have hbw := HAE.out.trans (hbel.mono (Nat.le_of_lt HW2.out))
        obtain ⟨Aq, cq, rfl⟩ := hRt.open_
        by_cases hlt : k < 0
        · exact absurd hlt (Nat.not_lt_zero _)
        · obtain rfl : k = 0 := by omega
          have hal2 : allBy (clI q0) rest = some (qs.map (·.2)) := by
            have h9 := hqs.out.2
            rw [List.take_of_length_le (by rw [HM.out]; exact Nat.le_refl _)] at h9
            exact h9
          have hpd := pcI_d HPO.out HRS.out hal2
          rw [pcI_eq] at hpd
          have HGD := hide (i_IsCnf (.agg #[.int .i64 q0, .slice Aq qs.length cq]) (q0, qs.map (·.2)) wr ⟨_, rfl, hRt.ftab.read⟩)
          obtain ⟨y0, y1, f0, f1⟩ := blkTwoP hB
          cases hgd : goodB (q0, qs.map (·.2)) with
          | false =>
            rw [hgd] at HGD
            have HF := hide (pf_none (by rw [hpd, if_neg (by rw [hgd]; simp)]) HR.out)
            clear hqs hal2 hpd
            go_wp2_with fail
            refine HGD.out.mono ?_
            rintro e w4 ⟨rfl, hb4⟩
            have hy4 := hyw.below hb4 hyw.lt
            have hb04 := hbw.trans (hb4.mono hbw.size)
            obtain ⟨z0, z1, g0, g1⟩ := blkTwoP hy4
            obtain ⟨u0, u1, -, -⟩ := blkTwoP (blkSetP hy4 (.int .i64 0) (.slice none 0 0))
            have HBB := hide ((hb04.setCell (p := ⟨w.heap.size, 0, none⟩) HLE.out (.int .i64 0)).setCell (p := ⟨w.heap.size, 1, none⟩) HLE.out (.slice none 0 0))
            go_wp2_with fail
            refine bodyPost_ret (v := .tuple #[.agg #[.int .i64 0, .slice none 0 0], .bool false]) (by simp [results, Tryd.results39, go_sem, u0, u1]) rfl ?_
            obtain ⟨rfl, rfl⟩ := HF.out
            exact ⟨_, rfl, ⟨_, rfl, FTab.nil _ _ _⟩, HBB.out⟩
          | true =>
            rw [hgd] at HGD
            have HF := hide (pf_some (by rw [hpd, if_pos hgd]) HR.out)
            have hNr := hRt.notAtP HW2.out
            have HRT := hide hRt
            have HNR := hide hNr
            clear hqs hal2 hpd hRt hNr
            go_wp2_with fail
            refine HGD.out.mono ?_
            rintro e w4 ⟨rfl, hb4⟩
            have hy4 := hyw.below hb4 hyw.lt
            have hb04 := hbw.trans (hb4.mono hbw.size)
            have y40 := below_old hb4 _ _ y0
            have y41 := below_old hb4 _ _ y1
            obtain ⟨z0, z1, g0, g1⟩ := blkTwoP hy4
            obtain ⟨u0, u1, -, -⟩ := blkTwoP (blkSetP hy4 (.int .i64 q0) (.slice Aq qs.length cq))
            have HBB := hide ((hb04.setCell (p := ⟨w.heap.size, 0, none⟩) HLE.out (.int .i64 q0)).setCell (p := ⟨w.heap.size, 1, none⟩) HLE.out (.slice Aq qs.length cq))
            have HFS := hide (((HRT.out.below hb4).set_ HNR.out 0 (.int .i64 q0)).set_ HNR.out 1 (.slice Aq qs.length cq))
            have HWL := hide (Nat.le_of_lt HW2.out)
            clear y0 y1
            go_wp2_with fail
            refine bodyPost_ret (v := .tuple #[.agg #[.int .i64 q0, .slice Aq qs.length cq], .bool true]) (by simp [results, Tryd.results39, go_sem, u0, u1]) rfl ?_
            obtain ⟨rfl, rfl⟩ := HF.out
            exact ⟨_, rfl, ⟨_, rfl, HFS.out.ftab.mono HWL.out (Nat.le_refl _)⟩, HBB.out⟩
    · have hM1 : ¬ (M = 1) := by have := HMM.out; omega
      have hMm : M - 1 = m := by have := HMM.out; omega
      go_wp2_with fail
      rw [← HWE.out]
      go_loopw [29] (fun i wr => ∃ (k : Nat) (q : Value) (qs : List (Value × List Int)), k ≤ m ∧ i = .int .i64 k ∧ Hid (qs.length = k ∧ allBy (clI q0) (rest.take k) = some (qs.map (·.2))) ∧ Blk wr w2.heap.size 49 #[.int .i64 q0, q] ∧ FRT w2.heap.size wr q qs ∧ NotAt w2.heap.size q qs ∧ Below w2.heap.size we wr) (fun i _ => m - (intOf i).toNat)
      case atStart => exact ⟨0, _, [], Nat.zero_le _, rfl, ⟨rfl, rfl⟩, HBE.out, FRT.nil _ _, NotAt.nil _, Below.refl _ _⟩
      case round =>
        obtain ⟨k, q, qs, hk, rfl, hqs, hB, hRt, hNA, hbel⟩ := hrel
        have hwr : w2.heap.size < wr.heap.size := Nat.lt_of_lt_of_le HSZ.out hbel.size
        have hyw := HYE.out.below hbel HW2.out
        have hbw := HAE.out.trans (hbel.mono (Nat.le_of_lt HW2.out))
        obtain ⟨Aq, cq, rfl⟩ := hRt.open_
        by_cases hlt : k < m
        · obtain ⟨hdk, hgk⟩ := HLT.out k hlt
          obtain ⟨x, hx⟩ : ∃ x, rest[k]! = x := ⟨_, rfl⟩
          rw [hx] at hdk hgk
          have hcx : wr.cell? ⟨g, 1 + k, none⟩ = some (.string x) := (hbel.cell (p := ⟨g, 1 + k, none⟩) hg2).trans (HCE.out (1 + k) x (by rw [Nat.add_comm]; exact hgk))
          have hxz := HPZ.out x (List.mem_of_getElem? hgk)
          obtain ⟨hsp, htk⟩ := take_snocB hdk
          obtain ⟨⟨t0, t1⟩, htt⟩ : ∃ r, fParseClause q0 x = r := ⟨_, rfl⟩
          have HPA := hide (I_ParseClause q0 x t0 t1 wr (HP.out.below hbw) hxz htt)
          cases t1 with
          | false =>
            have HF := hide (pf_none (by rw [← pcI_eq]; exact pcI_c HPO.out HRS.out (by rw [hsp]; exact allBy_bad hqs.out.2 (clI_no htt))) HR.out)
            clear hqs hsp htk hx hdk hgk htt
            go_wp2_with fail
            refine HPA.out.mono ?_
            rintro e w4 ⟨v4, rfl, hi4, hb4⟩
            have hy4 := hyw.below hb4 hyw.lt
            have hb04 := hbw.trans (hb4.mono hbw.size)
            obtain ⟨z0, z1, g0, g1⟩ := blkTwoP hy4
            obtain ⟨u0, u1, -, -⟩ := blkTwoP (blkSetP hy4 (.int .i64 0) (.slice none 0 0))
            have HBB := hide ((hb04.setCell (p := ⟨w.heap.size, 0, none⟩) HLE.out (.int .i64 0)).setCell (p := ⟨w.heap.size, 1, none⟩) HLE.out (.slice none 0 0))
            go_wp2_with fail
            refine bodyPost_ret (v := .tuple #[.agg #[.int .i64 0, .slice none 0 0], .bool false]) (by simp [results, Tryd.results39, go_sem, u0, u1]) rfl ?_
            obtain ⟨rfl, rfl⟩ := HF.out
            exact ⟨_, rfl, ⟨_, rfl, FTab.nil _ _ _⟩, HBB.out⟩
          | true =>
            have HF := hide (show allBy (clI q0) (rest.take (k + 1)) = some (qs.map (·.2) ++ [t0]) by rw [htk]; exact allBy_snoc hqs.out.2 (clI_of htt))
            have HQK := hide hqs.out.1
            have HLN := hide (show qs.length ≤ 1073741824 by have := hqs.out.1; omega)
            have HWR := hide (show w2.heap.size ≤ wr.heap.size by omega)
            have HWX := hide hwr
            have HBK := hide (show ∀ W, Below wr.heap.size wr W → W.cell? ⟨w2.heap.size, 0, none⟩ = some (.int .i64 q0) ∧ W.cell? ⟨w2.heap.size, 1, none⟩ = some (.slice Aq qs.length cq) from fun W hW => ⟨below_old hW _ _ (blkTwoP hB).1, below_old hW _ _ (blkTwoP hB).2.1⟩)
            have HBG := hide (show ∀ W, wr.grownBy W (Value.slice Aq qs.length cq).ownBlock → Blk W w2.heap.size 49 #[.int .i64 q0, .slice Aq qs.length cq] from fun W hW => (hW.block w2.heap.size hB.lt (fun e => hNA.1 e.symm)).trans hB)
            have HBW := hide hbel
            have HNA := hide hNA
            clear hqs hsp htk hx hdk hgk htt hB hNA hbel hbw hyw
            go_wp2_with fail
            refine HPA.out.mono ?_
            rintro e w4 ⟨v4, rfl, hi4, hb4⟩
            obtain ⟨p0', p1'⟩ := HBK.out w4 hb4
            obtain ⟨A4, c4', rfl, -⟩ := id hi4
            go_wp2_with (at_builtin; refine append_frow (H := w4.heap.size) rfl _ _ rfl w2.heap.size rfl hRt hb4 hi4 rfl rfl HLN.out HWR.out ?_; intro v5 w5 hR5 hb5 hg5 hat5; have hB5 := HBG.out w5 hg5; obtain ⟨A5, c5', rfl⟩ := hR5.open_; simp only [List.length_append, List.length_cons, List.length_nil, Nat.zero_add] at hR5 hat5; obtain ⟨b0, b1, g0, g1⟩ := blkTwoP hB5)
            have hN5 := HNA.out.snoc HWX.out hi4 hat5
            have hB6 := hB5.set_ 1 (Value.slice A5 (qs.length + 1) c5')
            have hR6 := hR5.set_ hN5 1 (Value.slice A5 (qs.length + 1) c5')
            have hb6 := (HBW.out.trans hb5).setCell (p := ⟨w2.heap.size, 1, none⟩) (Nat.le_refl _) (Value.slice A5 (qs.length + 1) c5')
            go_wp2_with fail
            go_roundw
            case rel => exact ⟨k + 1, _, _, by omega, by go_num, ⟨by simp [HQK.out], by rw [List.map_append]; exact HF.out⟩, by simpa using hB6, hR6, hN5, hb6⟩
            case measure => simp [intOf]; omega
        · obtain rfl : k = m := by omega
          have hal2 : allBy (clI q0) rest = some (qs.map (·.2)) := by
            have h9 := hqs.out.2
            rw [List.take_of_length_le (by rw [HM.out]; exact Nat.le_refl _)] at h9
            exact h9
          have hpd := pcI_d HPO.out HRS.out hal2
          rw [pcI_eq] at hpd
          have HGD := hide (i_IsCnf (.agg #[.int .i64 q0, .slice Aq qs.length cq]) (q0, qs.map (·.2)) wr ⟨_, rfl, hRt.ftab.read⟩)
          obtain ⟨y0, y1, f0, f1⟩ := blkTwoP hB
          cases hgd : goodB (q0, qs.map (·.2)) with
          | false =>
            rw [hgd] at HGD
            have HF := hide (pf_none (by rw [hpd, if_neg (by rw [hgd]; simp)]) HR.out)
            clear hqs hal2 hpd
            go_wp2_with fail
            refine HGD.out.mono ?_
            rintro e w4 ⟨rfl, hb4⟩
            have hy4 := hyw.below hb4 hyw.lt
            have hb04 := hbw.trans (hb4.mono hbw.size)
            obtain ⟨z0, z1, g0, g1⟩ := blkTwoP hy4
            obtain ⟨u0, u1, -, -⟩ := blkTwoP (blkSetP hy4 (.int .i64 0) (.slice none 0 0))
            have HBB := hide ((hb04.setCell (p := ⟨w.heap.size, 0, none⟩) HLE.out (.int .i64 0)).setCell (p := ⟨w.heap.size, 1, none⟩) HLE.out (.slice none 0 0))
            go_wp2_with fail
            refine bodyPost_ret (v := .tuple #[.agg #[.int .i64 0, .slice none 0 0], .bool false]) (by simp [results, Tryd.results39, go_sem, u0, u1]) rfl ?_
            obtain ⟨rfl, rfl⟩ := HF.out
            exact ⟨_, rfl, ⟨_, rfl, FTab.nil _ _ _⟩, HBB.out⟩
          | true =>
            rw [hgd] at HGD
            have HF := hide (pf_some (by rw [hpd, if_pos hgd]) HR.out)
            have hNr := hRt.notAtP HW2.out
            have HRT := hide hRt
            have HNR := hide hNr
            clear hqs hal2 hpd hRt hNr
            go_wp2_with fail
            refine HGD.out.mono ?_
            rintro e w4 ⟨rfl, hb4⟩
            have hy4 := hyw.below hb4 hyw.lt
            have hb04 := hbw.trans (hb4.mono hbw.size)
            have y40 := below_old hb4 _ _ y0
            have y41 := below_old hb4 _ _ y1
            obtain ⟨z0, z1, g0, g1⟩ := blkTwoP hy4
            obtain ⟨u0, u1, -, -⟩ := blkTwoP (blkSetP hy4 (.int .i64 q0) (.slice Aq qs.length cq))
            have HBB := hide ((hb04.setCell (p := ⟨w.heap.size, 0, none⟩) HLE.out (.int .i64 q0)).setCell (p := ⟨w.heap.size, 1, none⟩) HLE.out (.slice Aq qs.length cq))
            have HFS := hide (((HRT.out.below hb4).set_ HNR.out 0 (.int .i64 q0)).set_ HNR.out 1 (.slice Aq qs.length cq))
            have HWL := hide (Nat.le_of_lt HW2.out)
            clear y0 y1
            go_wp2_with fail
            refine bodyPost_ret (v := .tuple #[.agg #[.int .i64 q0, .slice Aq qs.length cq], .bool true]) (by simp [results, Tryd.results39, go_sem, u0, u1]) rfl ?_
            obtain ⟨rfl, rfl⟩ := HF.out
            exact ⟨_, rfl, ⟨_, rfl, HFS.out.ftab.mono HWL.out (Nat.le_refl _)⟩, HBB.out⟩

end Go.Proofs.YtmepficbmgjpoaaDoor
