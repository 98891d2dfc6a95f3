/- The contracts of XorCnf. -/
import Derived.Test.YtkmkdfogpdndoaaFullB
namespace Go.Proofs.Ytkmkdfogpdndoaa
open Go.RowKit
set_option linter.unusedVariables false

theorem clause_idx {vars : Int} (hv : varsB vars = true) : ∀ (c : List Int) (p : Option Int), (∀ q, p = some q → 1 ≤ q ∧ q ≤ vars) → (risesS vars p c && !(c.any fun x => decide (x < 0))) = idxB 1 vars p c := by
  have hv' : 0 ≤ vars ∧ vars ≤ 12 := by simpa [varsB, inB] using hv
  intro c
  induction c with
  | nil => intro p _; cases p <;> rfl
  | cons l r ih =>
    intro p hp
    by_cases hin : 1 ≤ l ∧ l ≤ vars
    · have h1 : inB l 1 vars = true := by simp [inB, hin]
      have h2 : litB vars l = true := (litB_iff hv).2 (by omega)
      have h3 : ¬ (l < 0) := by omega
      have h4 := ih (some l) (fun q hq => by injection hq with hq; omega)
      cases p with
      | none => simp [risesS, idxB, h1, h2, h3, ← h4]
      | some q =>
        have hq := hp q rfl
        have h5 : varW l = l := by rw [varW_small (by omega)]; omega
        have h6 : varW q = q := by rw [varW_small (by omega)]; omega
        simp [risesS, idxB, h1, h2, h3, ← h4, h5, h6, Bool.and_assoc]
    · have h1 : inB l 1 vars = false := by
        simp [inB]; omega
      have h2 : litB vars l = false ∨ l < 0 := by
        by_cases h : l < 0
        · exact .inr h
        · refine .inl ?_
          cases hb : litB vars l with
          | false => rfl
          | true => have := (litB_iff hv).1 hb; omega
      cases p with
      | none => rcases h2 with h2 | h2 <;> simp [risesS, idxB, h1, h2]
      | some q => rcases h2 with h2 | h2 <;> simp [risesS, idxB, h1, h2]
theorem idxB_pw {lo hi : Int} : ∀ (c : List Int) (p : Option Int), idxB lo hi p c = true → c.Pairwise (· < ·) ∧ ∀ q, p = some q → ∀ x ∈ c, q < x
  | [], _, _ => by simp
  | x :: r, p, h => by
    have hr : idxB lo hi (some x) r = true := by
      cases p with
      | none => simp [idxB] at h; exact h.2
      | some q => simp [idxB] at h; exact h.2
    obtain ⟨h1, h2⟩ := idxB_pw r (some x) hr
    refine ⟨List.pairwise_cons.2 ⟨h2 x rfl, h1⟩, ?_⟩
    rintro q rfl y hy
    simp [idxB] at h
    rcases List.mem_cons.1 hy with rfl | hy
    · exact h.1.2
    · have := h2 x rfl y hy; have := h.1.2; omega

def okX (vars : Int) (l : List Int) : Bool := varsB vars && decide (l.length ≤ 5) && idxB 1 vars none l
theorem okX_impl (vars : Int) (l : List Int) : okX vars l = (clauseB vars l && decide (l.length ≤ 5) && !(l.any fun x => decide (x < 0))) := by
  unfold okX clauseB
  cases hv : varsB vars with
  | false => simp
  | true =>
    rw [← clause_idx hv l none (by simp)]
    cases decide (l.length ≤ 5) <;> simp
def fXorCnf (vars : Int) (l : List Int) (odd : Bool) : CnfL × Bool := if okX vars l then giveF (vars, xorT l odd) else ((0, []), false)
theorem fXorCnf_len {vars : Int} {l : List Int} {odd : Bool} {r0 : CnfL} {r1 : Bool} (_ : l.length ≤ 1048576) (hR : fXorCnf vars l odd = (r0, r1)) : szC r0 ≤ 1048576 := by
  unfold fXorCnf at hR
  split at hR
  · exact giveF_len hR
  · injection hR with h1 _; subst h1; decide
theorem okX_parts {vars : Int} {l : List Int} (h : okX vars l = true) : l.length ≤ 5 ∧ (l.Pairwise fun a b => varW a < varW b) ∧ ∀ y ∈ l, 1 ≤ y ∧ y ≤ 12 := by
  unfold okX at h
  simp only [Bool.and_eq_true, decide_eq_true_eq] at h
  have hv' : 0 ≤ vars ∧ vars ≤ 12 := by simpa [varsB, inB] using h.1.1
  have hin := idxB_in l none h.2
  refine ⟨h.1.2, ?_, fun y hy => by have := hin y hy; omega⟩
  refine List.Pairwise.imp_of_mem ?_ (idxB_pw l none h.2).1
  intro a b ha hb hab
  have h1 := hin a ha
  have h2 := hin b hb
  rw [varW_small (by omega), varW_small (by omega)]
  omega
theorem xorT_keep (l : List Int) (odd : Bool) : (maskT l).filter (keepB (if odd then 0 else 1)) = xorT l odd := by
  unfold xorT
  congr 1
  funext c
  have := Nat.mod_two_eq_zero_or_one (negCnt c)
  cases odd <;> rcases this with h | h <;> simp [keepB, h]

set_option maxHeartbeats 1600000 in
theorem S_XorCnf {hi : Nat} (vars : Int) (v : Value) (zs : List Int) (odd : Bool) (r0 : CnfL) (r1 : Bool) (w : World) (h : Ints hi w v zs) (_hn1 : zs.length ≤ 1048576) (hR : fXorCnf vars zs odd = (r0, r1)) :
    Calls Try.prog 38 #[.int .i64 vars, v, .bool odd] w fun e w' => ∃ v', e = .returned (.tuple #[v', .bool r1]) ∧ FCnf w.heap.size w'.heap.size w' v' r0 ∧ Below w.heap.size w w' := by
  obtain ⟨wb, hwb⟩ : ∃ wb, wb = w.alloc (.cells #[.int .i64 0, .slice none 0 0] 29) := ⟨_, rfl⟩
  have hal : Below w.heap.size w wb := by rw [hwb]; exact (Below.refl _ _).alloc (Nat.le_refl _) _
  have hyr : Blk wb w.heap.size 29 #[.int .i64 0, .slice none 0 0] := by rw [hwb]; exact Blk.new _ _ _
  have hz := h.top.below hal
  obtain ⟨A, c, rfl, hc, hm, hrow⟩ := id hz
  unfold maxLen at hm
  have HZ := hide hz
  have HWB := hide hwb
  clear hwb hz hrow h
  cases hg : okX vars zs with
  | false =>
    obtain ⟨rfl, rfl⟩ : r0 = (0, []) ∧ r1 = false := by simpa [fXorCnf, hg, eq_comm] using hR
    have hcase : varsB vars = false ∨ (varsB vars = true ∧ ¬ zs.length ≤ 5) ∨ (varsB vars = true ∧ zs.length ≤ 5 ∧ idxB 1 vars none zs = false) := by
      unfold okX at hg
      cases hv : varsB vars with
      | false => exact .inl rfl
      | true =>
        by_cases hl : zs.length ≤ 5
        · refine .inr (.inr ⟨rfl, hl, ?_⟩)
          simpa [hv, hl] using hg
        · exact .inr (.inl ⟨rfl, hl⟩)
    clear hR hg
    rcases hcase with hv | ⟨hv, hl⟩ | ⟨hv, hl, hi⟩
    · obtain ⟨z0, z1, g0, g1⟩ := blkTwo hyr
      obtain ⟨u0, u1, -, -⟩ := blkTwo (blkSet hyr (.int .i64 0) (.slice none 0 0))
      have HB := hide ((hal.setCell (p := ⟨w.heap.size, 0, none⟩) (Nat.le_refl _) (.int .i64 0)).setCell (p := ⟨w.heap.size, 1, none⟩) (Nat.le_refl _) (.slice none 0 0))
      go_enter Try.func38, Try.ntmps38
      go_wp2_with fail
      rw [← HWB.out]
      refine (s_l2Vars vars wb).mono ?_
      rintro e w1 ⟨rfl, rfl⟩
      rw [hv]
      go_wp2_with fail
      refine bodyPost_ret (v := .tuple #[.agg #[.int .i64 0, .slice none 0 0], .bool false]) (by simp [results, Try.results38, go_sem, u0, u1]) rfl ⟨_, rfl, ⟨_, rfl, FTab.nil _ _ _⟩, HB.out⟩
    · obtain ⟨z0, z1, g0, g1⟩ := blkTwo hyr
      obtain ⟨u0, u1, -, -⟩ := blkTwo (blkSet hyr (.int .i64 0) (.slice none 0 0))
      have HB := hide ((hal.setCell (p := ⟨w.heap.size, 0, none⟩) (Nat.le_refl _) (.int .i64 0)).setCell (p := ⟨w.heap.size, 1, none⟩) (Nat.le_refl _) (.slice none 0 0))
      go_enter Try.func38, Try.ntmps38
      go_wp2_with fail
      rw [← HWB.out]
      refine (s_l2Vars vars wb).mono ?_
      rintro e w1 ⟨rfl, rfl⟩
      rw [hv]
      go_wp2_with fail
      refine bodyPost_ret (v := .tuple #[.agg #[.int .i64 0, .slice none 0 0], .bool false]) (by simp [results, Try.results38, go_sem, u0, u1]) rfl ⟨_, rfl, ⟨_, rfl, FTab.nil _ _ _⟩, HB.out⟩
    · go_enter Try.func38, Try.ntmps38
      go_wp2_with fail
      rw [← HWB.out]
      refine (s_l2Vars vars wb).mono ?_
      rintro e w1 ⟨rfl, rfl⟩
      rw [hv]
      go_wp2_with fail
      refine (s_l1Rising _ zs 1 vars _ HZ.out).mono ?_
      rintro e w2 ⟨rfl, hq⟩
      rw [hi]
      have hyr2 := hyr.below (hq.below _) hyr.lt
      obtain ⟨z0, z1, g0, g1⟩ := blkTwo hyr2
      obtain ⟨u0, u1, -, -⟩ := blkTwo (blkSet hyr2 (.int .i64 0) (.slice none 0 0))
      have HB := hide (((below_step hal (hq.below _)).setCell (p := ⟨w.heap.size, 0, none⟩) (Nat.le_refl _) (.int .i64 0)).setCell (p := ⟨w.heap.size, 1, none⟩) (Nat.le_refl _) (.slice none 0 0))
      go_wp2_with fail
      refine bodyPost_ret (v := .tuple #[.agg #[.int .i64 0, .slice none 0 0], .bool false]) (by simp [results, Try.results38, go_sem, u0, u1]) rfl ⟨_, rfl, ⟨_, rfl, FTab.nil _ _ _⟩, HB.out⟩
  | true =>
    obtain ⟨gd, hgd⟩ : ∃ gd, goodB (vars, xorT zs odd) = gd := ⟨_, rfl⟩
    have hR' : giveF (vars, xorT zs odd) = (r0, r1) := by simpa [fXorCnf, hg] using hR
    obtain ⟨hr0, rfl⟩ := giveF_of hgd hR'
    have HR0 := hide hr0
    obtain ⟨hl, hp1, hp2⟩ := okX_parts hg
    have HP1 := hide hp1
    have HP2 := hide hp2
    obtain ⟨⟨hv, -⟩, hi⟩ : (varsB vars = true ∧ zs.length ≤ 5) ∧ idxB 1 vars none zs = true := by simpa [okX] using hg
    clear hR hR' hr0 hp1 hp2 hg
    go_enter Try.func38, Try.ntmps38
    go_wp2_with fail
    rw [← HWB.out]
    refine (s_l2Vars vars wb).mono ?_
    rintro e w1 ⟨rfl, rfl⟩
    rw [hv]
    go_wp2_with fail
    refine (s_l1Rising _ zs 1 vars _ HZ.out).mono ?_
    rintro e w1 ⟨rfl, hq⟩
    rw [hi]
    have HY := hide (hyr.below (hq.below _) hyr.lt)
    have HL1 := hide (below_step hal (hq.below _))
    have HZ1 := hide (HZ.out.below (hq.below _))
    cases odd with
    | false =>
      have HKD := hide (show (maskT zs).filter (keepB 1) = xorT zs false from xorT_keep zs false)
      go_wp2_with fail
      refine (s_l4Full vars _ zs 1 w1 HZ1.out hl HP1.out HP2.out (by decide)).mono ?_
      rintro e w2 ⟨v2, ps, rfl, hps, hF, hb2⟩
      rw [HKD.out] at hps
      have hL2 := below_step HL1.out hb2
      have hY2 := HY.out.below hb2 HY.out.lt
      have hFT := hF.rtab.tab
      rw [hps] at hFT
      obtain ⟨A2, c2, rfl⟩ := hF.open_
      have HGP := hide (s_l4Give r1 vars A2 ps.length c2 (xorT zs false) w2 hFT hgd)
      have hsw : w.heap.size < w1.heap.size := HY.out.lt
      clear hFT
      go_wp2_with fail
      refine HGP.out.mono ?_
      rintro e w3 ⟨rfl, hb3⟩
      have hyf := hY2.below hb3 hY2.lt
      have hbf := below_step hL2 hb3
      have hR := hF.below hb3
      have hNr : NotAt w.heap.size (.slice A2 ps.length c2) ps := hR.notAt (by omega)
      obtain ⟨z0, z1, g0, g1⟩ := blkTwo hyf
      cases r1 with
      | false =>
        rw [giveR_no]
        obtain ⟨u0, u1, -, -⟩ := blkTwo (blkSet hyf (.int .i64 0) (.slice none 0 0))
        have HB := hide ((hbf.setCell (p := ⟨w.heap.size, 0, none⟩) (Nat.le_refl _) (.int .i64 0)).setCell (p := ⟨w.heap.size, 1, none⟩) (Nat.le_refl _) (.slice none 0 0))
        go_wp2_with fail
        have hr := HR0.out
        simp only [Bool.false_eq_true, if_false] at hr
        refine bodyPost_ret (v := .tuple #[.agg #[.int .i64 0, .slice none 0 0], .bool false]) (by simp [results, Try.results38, go_sem, u0, u1]) rfl ⟨_, rfl, by rw [hr]; exact ⟨_, rfl, FTab.nil _ _ _⟩, HB.out⟩
      | true =>
        rw [giveR_yes]
        obtain ⟨u0, u1, -, -⟩ := blkTwo (blkSet hyf (.int .i64 vars) (.slice A2 ps.length c2))
        have HB := hide ((hbf.setCell (p := ⟨w.heap.size, 0, none⟩) (Nat.le_refl _) (.int .i64 vars)).setCell (p := ⟨w.heap.size, 1, none⟩) (Nat.le_refl _) (.slice A2 ps.length c2))
        have HFS := hide ((hR.set_ hNr 0 (.int .i64 vars)).set_ hNr 1 (.slice A2 ps.length c2))
        go_wp2_with fail
        have hr := HR0.out
        simp only [if_true] at hr
        refine bodyPost_ret (v := .tuple #[.agg #[.int .i64 vars, .slice A2 ps.length c2], .bool true]) (by simp [results, Try.results38, go_sem, u0, u1]) rfl ⟨_, rfl, by rw [hr]; exact ⟨_, rfl, by have h9 := HFS.out.ftab; rw [hps] at h9; exact h9.mono (by omega) (Nat.le_refl _)⟩, HB.out⟩
    | true =>
      have HKD := hide (show (maskT zs).filter (keepB 0) = xorT zs true from xorT_keep zs true)
      go_wp2_with fail
      refine (s_l4Full vars _ zs 0 w1 HZ1.out hl HP1.out HP2.out (by decide)).mono ?_
      rintro e w2 ⟨v2, ps, rfl, hps, hF, hb2⟩
      rw [HKD.out] at hps
      have hL2 := below_step HL1.out hb2
      have hY2 := HY.out.below hb2 HY.out.lt
      have hFT := hF.rtab.tab
      rw [hps] at hFT
      obtain ⟨A2, c2, rfl⟩ := hF.open_
      have HGP := hide (s_l4Give r1 vars A2 ps.length c2 (xorT zs true) w2 hFT hgd)
      have hsw : w.heap.size < w1.heap.size := HY.out.lt
      clear hFT
      go_wp2_with fail
      refine HGP.out.mono ?_
      rintro e w3 ⟨rfl, hb3⟩
      have hyf := hY2.below hb3 hY2.lt
      have hbf := below_step hL2 hb3
      have hR := hF.below hb3
      have hNr : NotAt w.heap.size (.slice A2 ps.length c2) ps := hR.notAt (by omega)
      obtain ⟨z0, z1, g0, g1⟩ := blkTwo hyf
      cases r1 with
      | false =>
        rw [giveR_no]
        obtain ⟨u0, u1, -, -⟩ := blkTwo (blkSet hyf (.int .i64 0) (.slice none 0 0))
        have HB := hide ((hbf.setCell (p := ⟨w.heap.size, 0, none⟩) (Nat.le_refl _) (.int .i64 0)).setCell (p := ⟨w.heap.size, 1, none⟩) (Nat.le_refl _) (.slice none 0 0))
        go_wp2_with fail
        have hr := HR0.out
        simp only [Bool.false_eq_true, if_false] at hr
        refine bodyPost_ret (v := .tuple #[.agg #[.int .i64 0, .slice none 0 0], .bool false]) (by simp [results, Try.results38, go_sem, u0, u1]) rfl ⟨_, rfl, by rw [hr]; exact ⟨_, rfl, FTab.nil _ _ _⟩, HB.out⟩
      | true =>
        rw [giveR_yes]
        obtain ⟨u0, u1, -, -⟩ := blkTwo (blkSet hyf (.int .i64 vars) (.slice A2 ps.length c2))
        have HB := hide ((hbf.setCell (p := ⟨w.heap.size, 0, none⟩) (Nat.le_refl _) (.int .i64 vars)).setCell (p := ⟨w.heap.size, 1, none⟩) (Nat.le_refl _) (.slice A2 ps.length c2))
        have HFS := hide ((hR.set_ hNr 0 (.int .i64 vars)).set_ hNr 1 (.slice A2 ps.length c2))
        go_wp2_with fail
        have hr := HR0.out
        simp only [if_true] at hr
        refine bodyPost_ret (v := .tuple #[.agg #[.int .i64 vars, .slice A2 ps.length c2], .bool true]) (by simp [results, Try.results38, go_sem, u0, u1]) rfl ⟨_, rfl, by rw [hr]; exact ⟨_, rfl, by have h9 := HFS.out.ftab; rw [hps] at h9; exact h9.mono (by omega) (Nat.le_refl _)⟩, HB.out⟩

theorem negCnt_take {z : List Int} {k : Nat} {x : Int} (h : z.drop k = x :: z.drop (k + 1)) : negCnt (z.take (k + 1)) = negCnt (z.take k) + (if x < 0 then 1 else 0) := by
  rw [take_snoc h, negCnt_snoc]
theorem OwnH.mono' {base base' : Nat} {w : World} {v : Value} {vs : List Value} (h : OwnH base w v vs) (hb : base' ≤ base) : OwnH base' w v vs := by
  refine ⟨h.1, ?_⟩
  rcases h.2 with h1 | ⟨g, cap, cur, e, hl, r⟩
  · exact .inl h1
  · exact .inr ⟨g, cap, cur, e, Nat.le_trans hb hl, r⟩
def keepX (odd : Bool) (c : List Int) : Bool := decide (negCnt c % 2 = 0) == odd

set_option maxHeartbeats 1600000 in
theorem i_xorClauses {hi : Nat} (v : Value) (zs : List Int) (odd : Bool) (w : World) (h : Ints hi w v zs) (hn : zs.length ≤ 5) (hs : ∀ y ∈ zs, y ≠ 0 ∧ -12 ≤ y ∧ y ≤ 12) :
    Calls Try.prog 92 #[v, .bool odd] w fun e w' => ∃ v' ps, e = .returned v' ∧ ps.map (·.2) = xorT zs odd ∧ FRT w.heap.size w' v' ps ∧ Below w.heap.size w w' := by
  have HSG := hide (i_signings v zs w h hn hs)
  go_enter Try.func92, Try.ntmps92
  go_wp2_with fail
  refine HSG.out.mono ?_
  rintro e w1 ⟨v1, qs, rfl, hqs, hR, hb1⟩
  obtain ⟨A, c, e', hcc, hm, hown⟩ := hR.1.own
  subst e'
  rw [List.length_map] at hcc ⊢
  unfold maxLen at hm
  have HHR := hide hown.row
  have HPS := hide hR.2
  obtain ⟨m, hm1⟩ : ∃ m, qs.length = m := ⟨_, rfl⟩
  have hm32 : m ≤ 32 := by
    have h1 : 2 ^ zs.length ≤ 2 ^ 5 := Nat.pow_le_pow_right (by decide) hn
    have h2 := congrArg List.length hqs
    simp [maskT] at h2
    omega
  have HQS := hide hqs
  have HZ5 := hide (show ∀ p ∈ qs, p.2.length ≤ 5 from fun p hp => by
    have h1 : p.2 ∈ maskT zs := by rw [← hqs]; exact List.mem_map_of_mem hp
    unfold maskT at h1
    obtain ⟨b, -, h2⟩ := List.mem_map.1 h1
    rw [← h2, maskC_len]; exact hn)
  have HB1 := hide hb1
  have HM := hide hm1
  rw [hm1] at hcc ⊢
  clear hown hR hqs hm1 h hs
  go_wp2_with fail
  go_loopw [5, 14] (fun q i wr => ∃ k : Nat, k ≤ m ∧ i = .int .i64 k ∧ OwnH w1.heap.size wr q (((qs.take k).filter fun p => keepX odd p.2).map (·.1)) ∧ Below w1.heap.size w1 wr) (fun _ i _ => m - (intOf i).toNat)
  case atStart => exact ⟨0, Nat.zero_le _, rfl, OwnH.nil _ _, Below.refl _ _⟩
  case round =>
    obtain ⟨k, hkm, rfl, hO, hbel⟩ := hrel
    obtain ⟨wo, hwo⟩ : ∃ wo, wo = wr := ⟨_, rfl⟩
    subst hwo
    by_cases hlt : k < m
    · obtain ⟨p, hp⟩ : ∃ p, qs[k]? = some p := ⟨_, List.getElem?_eq_getElem (by rw [HM.out]; exact hlt)⟩
      obtain ⟨bh, oh, rfl, hlh, hch⟩ := HHR.out (by simp; rw [HM.out]; omega)
      have hcp : wo.cell? ⟨bh, oh + k, none⟩ = some p.1 := by
        rw [hbel.cell (p := ⟨bh, oh + k, none⟩) hlh]
        exact hch k _ (by simp [hp])
      have hI := ((HPS.out.1.1 p (List.mem_of_getElem? hp)).below hbel).ints
      have hz5 := HZ5.out p (List.mem_of_getElem? hp)
      have HT := hide (show ((qs.take (k + 1)).filter fun p => keepX odd p.2).map (·.1) = ((qs.take k).filter fun p => keepX odd p.2).map (·.1) ++ (if keepX odd p.2 then [p.1] else []) by
        rw [List.take_add_one, hp, List.filter_append, List.map_append]
        cases hk : keepX odd p.2 <;> simp [hk])
      obtain ⟨pv, z⟩ := p
      dsimp only at hcp hI hz5 HT
      obtain ⟨Az, cz, rfl, hczl, hczm, hrz⟩ := id hI
      unfold maxLen at hczm
      have HI := hide hI
      have HRZ := hide hrz
      have HO := hide hO
      have HBL := hide hbel
      have HLN := hide (show (((qs.take k).filter fun p => keepX odd p.2).map (·.1)).length ≤ 1073741824 by
        rw [List.length_map]
        have h1 := List.length_filter_le (fun p : Value × List Int => keepX odd p.2) (qs.take k)
        have h2 : (qs.take k).length ≤ k := by simp; omega
        omega)
      clear hp hch hI hrz hO hbel
      go_wp2_with fail
      go_loopw [8, 20] (fun on i ws => ∃ j : Nat, j ≤ z.length ∧ i = .int .i64 j ∧ on = .int .i64 (negCnt (z.take j) : Nat) ∧ ws = wo) (fun _ i _ => z.length - (intOf i).toNat)
      case atStart => exact ⟨0, Nat.zero_le _, rfl, by simp [negCnt], rfl⟩
      case round =>
        obtain ⟨j, hjz, rfl, rfl, rfl⟩ := hrel
        obtain ⟨mc, hmc⟩ : ∃ mc, negCnt (z.take j) = mc := ⟨_, rfl⟩
        have hcn := Nat.le_trans (negCnt_le (z.take j)) (show (z.take j).length ≤ 5 by simp; omega)
        have HMC := hide hmc
        rw [hmc] at hcn ⊢
        by_cases hlt2 : j < z.length
        · obtain ⟨bz, oz, x, rfl, hx, hcx⟩ := (HRZ.out).int (k := j) hlt2
          have HN := hide (negCnt_take hx)
          clear hmc hx
          by_cases hneg : x < 0
          · have HC := hide (show negCnt (z.take (j + 1)) = mc + 1 by rw [HN.out, HMC.out, if_pos hneg])
            go_wp2_with fail
            go_roundw
            case rel => exact ⟨j + 1, by omega, by go_num, by rw [HC.out]; go_num, by first | rfl | trivial⟩
            case measure => simp [intOf]; omega
          · have HC := hide (show negCnt (z.take (j + 1)) = mc by rw [HN.out, HMC.out, if_neg hneg]; rfl)
            go_wp2_with fail
            go_roundw
            case rel => exact ⟨j + 1, by omega, by go_num, by rw [HC.out], by first | rfl | trivial⟩
            case measure => simp [intOf]; omega
        · obtain rfl : j = z.length := by omega
          have hsz := HBL.out.size
          rw [List.take_length] at hmc
          have hkp : keepX odd z = (decide (mc % 2 = 0) == odd) := by unfold keepX; rw [hmc]
          clear hmc HMC
          have hpar : ((mc : Int) % 2 == 0) = decide (mc % 2 = 0) := by
            have h1 := Nat.mod_two_eq_zero_or_one mc
            rcases h1 with h1 | h1
            · have : (mc : Int) % 2 = 0 := by omega
              simp [h1, this]
            · have : (mc : Int) % 2 = 1 := by omega
              simp [h1, this]
          obtain ⟨ev, hev⟩ : ∃ ev, decide (mc % 2 = 0) = ev := ⟨_, rfl⟩
          rw [hev] at hpar hkp
          have HKP := hide hkp
          clear hkp hev
          cases ev <;> cases odd
          · have HT2 := hide (HT.out.trans (show _ = ((qs.take k).filter fun p => keepX false p.2).map (·.1) ++ [.slice Az z.length cz] by rw [HKP.out]; simp))
            go_wp2_with (at_builtin; go_loud(refine append_hdr (H := wr.heap.size) rfl _ _ rfl w1.heap.size rfl HO.out (HI.out.oneCell) rfl rfl HLN.out hsz ?_; intro v6 w6 hO6 hg6 hb6 hat6))
            go_roundw
            case rel => exact ⟨k + 1, by omega, by go_num, by rw [HT2.out]; exact hO6, HBL.out.trans hb6⟩
            case measure => simp [intOf]; omega
          · have HT2 := hide (HT.out.trans (show _ = ((qs.take k).filter fun p => keepX true p.2).map (·.1) by rw [HKP.out]; simp))
            go_wp2_with fail
            go_roundw
            case rel => exact ⟨k + 1, by omega, by go_num, by rw [HT2.out]; exact HO.out, HBL.out⟩
            case measure => simp [intOf]; omega
          · have HT2 := hide (HT.out.trans (show _ = ((qs.take k).filter fun p => keepX false p.2).map (·.1) by rw [HKP.out]; simp))
            go_wp2_with fail
            go_roundw
            case rel => exact ⟨k + 1, by omega, by go_num, by rw [HT2.out]; exact HO.out, HBL.out⟩
            case measure => simp [intOf]; omega
          · have HT2 := hide (HT.out.trans (show _ = ((qs.take k).filter fun p => keepX true p.2).map (·.1) ++ [.slice Az z.length cz] by rw [HKP.out]; simp))
            go_wp2_with (at_builtin; go_loud(refine append_hdr (H := wr.heap.size) rfl _ _ rfl w1.heap.size rfl HO.out (HI.out.oneCell) rfl rfl HLN.out hsz ?_; intro v6 w6 hO6 hg6 hb6 hat6))
            go_roundw
            case rel => exact ⟨k + 1, by omega, by go_num, by rw [HT2.out]; exact hO6, HBL.out.trans hb6⟩
            case measure => simp [intOf]; omega
    · obtain rfl : k = m := by omega
      have HQ := hide (show (qs.filter fun p => keepX odd p.2).map (·.2) = xorT zs odd by
        unfold xorT
        rw [← HQS.out, List.filter_map]
        rfl)
      rw [List.take_of_length_le (by rw [HM.out]; exact Nat.le_refl _)] at hO
      have hF : FRT w.heap.size wo u5 (qs.filter fun p => keepX odd p.2) := by
        refine ⟨?_, ⟨fun p hp => ((HPS.out.1.1 p (List.mem_filter.1 hp).1).below hbel).mono (Nat.le_refl _) hbel.size, HPS.out.1.2.filter _⟩, fun p hp h0 e => ?_⟩
        · exact hO.mono' HB1.out.size
        · obtain ⟨b, hb1, _, hb2⟩ := (HPS.out.1.1 p (List.mem_filter.1 hp).1).block h0
          rw [hb1] at e
          have := (hO.block_lt e.symm).1
          omega
      have HB := hide (below_step HB1.out hbel)
      go_wp2_with fail
      go_ret
      exact ⟨_, _, rfl, HQ.out, hF, HB.out⟩

theorem answers_neg (zs : List Int) (w : World) : Answers Try.prog 91 #[] (ic zs) (zs.map fun x => decide (x < 0)) w := by
  intro j u b hu hb W hW
  rw [List.getElem?_map] at hu hb
  obtain ⟨z, hz, rfl⟩ := Option.map_eq_some_iff.1 hu
  rw [hz] at hb
  obtain rfl : decide (z < 0) = b := by simpa using hb
  go_enter Try.func91, Try.ntmps91
  go_wp2_with fail
  go_ret
  exact ⟨rfl, Below.refl _ _⟩

set_option maxHeartbeats 1600000 in
theorem I_XorCnf {hi : Nat} (vars : Int) (v : Value) (zs : List Int) (odd : Bool) (r0 : CnfL) (r1 : Bool) (w : World) (h : Ints hi w v zs) (_hn1 : zs.length ≤ 1048576) (hR : fXorCnf vars zs odd = (r0, r1)) :
    Calls Try.prog 39 #[.int .i64 vars, v, .bool odd] w fun e w' => ∃ v', e = .returned (.tuple #[v', .bool r1]) ∧ FCnf w.heap.size w'.heap.size w' v' r0 ∧ Below w.heap.size w w' := by
  obtain ⟨wb, hwb⟩ : ∃ wb, wb = w.alloc (.cells #[.int .i64 0, .slice none 0 0] 29) := ⟨_, rfl⟩
  have hal : Below w.heap.size w wb := by rw [hwb]; exact (Below.refl _ _).alloc (Nat.le_refl _) _
  have hyr : Blk wb w.heap.size 29 #[.int .i64 0, .slice none 0 0] := by rw [hwb]; exact Blk.new _ _ _
  have hz := h.top.below hal
  obtain ⟨A, c, rfl, hc, hm, hrow⟩ := id hz
  have hm' := hm
  unfold maxLen at hm
  have HZ := hide hz
  have HWB := hide hwb
  have eg := Go.Proofs.enters_of Try.func91 (by kernel_rfl) rfl
  have HCF := hide (show ∀ W : World, Below wb.heap.size wb W → Calls Try.prog 90 #[.slice A zs.length c, .func (.func 91) #[] #[]] W fun e w' => e = .returned (.bool (zs.any fun x => decide (x < 0))) ∧ Below W.heap.size W w' from fun W hb => by
    have h9 := g_ContainsFunc A c _ #[] zs (zs.map fun x => decide (x < 0)) W hc hm' (hrow.top.below hb) (by simp) eg (answers_neg zs W)
    rw [List.any_map] at h9
    exact h9)
  clear hwb hz hrow h eg
  have HOK := hide (okX_impl vars zs)
  cases hcl : clauseB vars zs with
  | false =>
    obtain ⟨rfl, rfl⟩ : r0 = (0, []) ∧ r1 = false := by
      have hg : okX vars zs = false := by rw [HOK.out, hcl]; rfl
      simpa [fXorCnf, hg, eq_comm] using hR
    clear hR
    go_enter Try.func39, Try.ntmps39
    go_wp2_with fail
    rw [← HWB.out]
    refine (i_IsClause vars _ zs wb HZ.out).mono ?_
    rintro e w1 ⟨rfl, hq⟩
    rw [hcl]
    have hyr2 := hyr.below (hq.below _) hyr.lt
    obtain ⟨z0, z1, g0, g1⟩ := blkTwo hyr2
    obtain ⟨u0, u1, -, -⟩ := blkTwo (blkSet hyr2 (.int .i64 0) (.slice none 0 0))
    have HB := hide (((below_step hal (hq.below _)).setCell (p := ⟨w.heap.size, 0, none⟩) (Nat.le_refl _) (.int .i64 0)).setCell (p := ⟨w.heap.size, 1, none⟩) (Nat.le_refl _) (.slice none 0 0))
    go_wp2_with fail
    refine bodyPost_ret (v := .tuple #[.agg #[.int .i64 0, .slice none 0 0], .bool false]) (by simp [results, Try.results39, go_sem, u0, u1]) rfl ⟨_, rfl, ⟨_, rfl, FTab.nil _ _ _⟩, HB.out⟩
  | true =>
    by_cases hl : zs.length ≤ 5
    · obtain ⟨ng, hng⟩ : ∃ ng, (zs.any fun x => decide (x < 0)) = ng := ⟨_, rfl⟩
      rw [hng] at HCF
      cases ng with
      | true =>
        obtain ⟨rfl, rfl⟩ : r0 = (0, []) ∧ r1 = false := by
          have hg : okX vars zs = false := by rw [HOK.out, hcl, hng]; simp
          simpa [fXorCnf, hg, eq_comm] using hR
        clear hR hng
        go_enter Try.func39, Try.ntmps39
        go_wp2_with fail
        rw [← HWB.out]
        refine (i_IsClause vars _ zs wb HZ.out).mono ?_
        rintro e w1 ⟨rfl, hq⟩
        rw [hcl]
        go_wp2_with fail
        refine (HCF.out w1 (hq.below _)).mono ?_
        rintro e w2 ⟨rfl, hb2⟩
        have hyr2 := (hyr.below (hq.below _) hyr.lt).below hb2 (hyr.below (hq.below _) hyr.lt).lt
        obtain ⟨z0, z1, g0, g1⟩ := blkTwo hyr2
        obtain ⟨u0, u1, -, -⟩ := blkTwo (blkSet hyr2 (.int .i64 0) (.slice none 0 0))
        have HB := hide (((below_step (below_step hal (hq.below _)) hb2).setCell (p := ⟨w.heap.size, 0, none⟩) (Nat.le_refl _) (.int .i64 0)).setCell (p := ⟨w.heap.size, 1, none⟩) (Nat.le_refl _) (.slice none 0 0))
        go_wp2_with fail
        refine bodyPost_ret (v := .tuple #[.agg #[.int .i64 0, .slice none 0 0], .bool false]) (by simp [results, Try.results39, go_sem, u0, u1]) rfl ⟨_, rfl, ⟨_, rfl, FTab.nil _ _ _⟩, HB.out⟩
      | false =>
        have hg : okX vars zs = true := by rw [HOK.out, hcl, hng]; simpa using hl
        obtain ⟨gd, hgd⟩ : ∃ gd, goodB (vars, xorT zs odd) = gd := ⟨_, rfl⟩
        have hR' : giveF (vars, xorT zs odd) = (r0, r1) := by simpa [fXorCnf, hg] using hR
        obtain ⟨hr0, rfl⟩ := giveF_of hgd hR'
        have HR0 := hide hr0
        obtain ⟨-, hp1, hp2⟩ := okX_parts hg
        have HP2 := hide (show ∀ y ∈ zs, y ≠ 0 ∧ -12 ≤ y ∧ y ≤ 12 from fun y hy => by have := hp2 y hy; omega)
        clear hR hR' hr0 hp1 hp2 hg hng
        go_enter Try.func39, Try.ntmps39
        go_wp2_with fail
        rw [← HWB.out]
        refine (i_IsClause vars _ zs wb HZ.out).mono ?_
        rintro e w0 ⟨rfl, hq⟩
        rw [hcl]
        go_wp2_with fail
        refine (HCF.out w0 (hq.below _)).mono ?_
        rintro e w1 ⟨rfl, hb1⟩
        have hY0 := hyr.below (hq.below _) hyr.lt
        have HY := hide (hY0.below hb1 hY0.lt)
        have HL1 := hide (below_step (below_step hal (hq.below _)) hb1)
        have HZ1 := hide ((HZ.out.below (hq.below _)).below hb1)
        go_wp2_with fail
        refine (i_xorClauses _ zs odd w1 HZ1.out hl HP2.out).mono ?_
        rintro e w2 ⟨v2, ps, rfl, hps, hF0, hb2⟩
        have hsw : w.heap.size < w1.heap.size := HY.out.lt
        have hL20 := below_step HL1.out hb2
        have hY20 := HY.out.below hb2 HY.out.lt
        obtain ⟨A2, c2, rfl⟩ := hF0.open_
        obtain ⟨wq, hwq⟩ : ∃ wq, wq = w2.alloc (.cells #[.int .i64 vars, .slice A2 ps.length c2] 60) := ⟨_, rfl⟩
        have hbq : Below w2.heap.size w2 wq := by rw [hwq]; exact (Below.refl _ _).alloc (Nat.le_refl _) _
        have hBq : Blk wq w2.heap.size 60 #[.int .i64 vars, .slice A2 ps.length c2] := by rw [hwq]; exact Blk.new _ _ _
        have hF := hF0.below hbq
        have hL2 := below_step hL20 hbq
        have hY2 := hY20.below hbq hY20.lt
        have hFT := hF.rtab.tab
        rw [hps] at hFT
        have HGP := hide (i_famCnf r1 vars A2 ps.length c2 (xorT zs odd) wq _ hBq hFT hgd)
        have HWQ := hide hwq
        clear hFT hwq hF0 hL20 hY20 hbq hBq
        go_wp2_with fail
        rw [← HWQ.out]
        refine HGP.out.mono ?_
        rintro e w3 ⟨rfl, hb3⟩
        have hyf := hY2.below hb3 hY2.lt
        have hbf := below_step hL2 hb3
        have hR := hF.below hb3
        have hNr : NotAt w.heap.size (.slice A2 ps.length c2) ps := hR.notAt (by omega)
        obtain ⟨z0, z1, g0, g1⟩ := blkTwo hyf
        cases r1 with
        | false =>
          rw [giveR_no]
          obtain ⟨u0, u1, -, -⟩ := blkTwo (blkSet hyf (.int .i64 0) (.slice none 0 0))
          have HB := hide ((hbf.setCell (p := ⟨w.heap.size, 0, none⟩) (Nat.le_refl _) (.int .i64 0)).setCell (p := ⟨w.heap.size, 1, none⟩) (Nat.le_refl _) (.slice none 0 0))
          go_wp2_with fail
          have hr := HR0.out
          simp only [Bool.false_eq_true, if_false] at hr
          refine bodyPost_ret (v := .tuple #[.agg #[.int .i64 0, .slice none 0 0], .bool false]) (by simp [results, Try.results39, go_sem, u0, u1]) rfl ⟨_, rfl, by rw [hr]; exact ⟨_, rfl, FTab.nil _ _ _⟩, HB.out⟩
        | true =>
          rw [giveR_yes]
          obtain ⟨u0, u1, -, -⟩ := blkTwo (blkSet hyf (.int .i64 vars) (.slice A2 ps.length c2))
          have HB := hide ((hbf.setCell (p := ⟨w.heap.size, 0, none⟩) (Nat.le_refl _) (.int .i64 vars)).setCell (p := ⟨w.heap.size, 1, none⟩) (Nat.le_refl _) (.slice A2 ps.length c2))
          have HFS := hide ((hR.set_ hNr 0 (.int .i64 vars)).set_ hNr 1 (.slice A2 ps.length c2))
          go_wp2_with fail
          have hr := HR0.out
          simp only [if_true] at hr
          refine bodyPost_ret (v := .tuple #[.agg #[.int .i64 vars, .slice A2 ps.length c2], .bool true]) (by simp [results, Try.results39, go_sem, u0, u1]) rfl ⟨_, rfl, by rw [hr]; exact ⟨_, rfl, by have h9 := HFS.out.ftab; rw [hps] at h9; exact h9.mono (by omega) (Nat.le_refl _)⟩, HB.out⟩
    · obtain ⟨rfl, rfl⟩ : r0 = (0, []) ∧ r1 = false := by
        have hg : okX vars zs = false := by rw [HOK.out, hcl]; simp [hl]
        simpa [fXorCnf, hg, eq_comm] using hR
      clear hR
      go_enter Try.func39, Try.ntmps39
      go_wp2_with fail
      rw [← HWB.out]
      refine (i_IsClause vars _ zs wb HZ.out).mono ?_
      rintro e w1 ⟨rfl, hq⟩
      rw [hcl]
      have hyr2 := hyr.below (hq.below _) hyr.lt
      obtain ⟨z0, z1, g0, g1⟩ := blkTwo hyr2
      obtain ⟨u0, u1, -, -⟩ := blkTwo (blkSet hyr2 (.int .i64 0) (.slice none 0 0))
      have HB := hide (((below_step hal (hq.below _)).setCell (p := ⟨w.heap.size, 0, none⟩) (Nat.le_refl _) (.int .i64 0)).setCell (p := ⟨w.heap.size, 1, none⟩) (Nat.le_refl _) (.slice none 0 0))
      go_wp2_with fail
      refine bodyPost_ret (v := .tuple #[.agg #[.int .i64 0, .slice none 0 0], .bool false]) (by simp [results, Try.results39, go_sem, u0, u1]) rfl ⟨_, rfl, ⟨_, rfl, FTab.nil _ _ _⟩, HB.out⟩

end Go.Proofs.Ytkmkdfogpdndoaa
