/- The walk of the program's PrimeClauses. -/
import Derived.Test.YtlipmbcjpmbjnaaPrimeA
namespace Go.Proofs.Ytlipmbcjpmbjnaa
open Go.RowKit
set_option linter.unusedVariables false

theorem visR_len : ∀ (n f : Nat) (c : List Int), (visR n f c).length + 1 = 3 ^ n
  | 0, f, c => rfl
  | n + 1, f, c => by
    have h1 := visR_len n (f + 1) (c ++ [(f : Int)])
    have h2 := visR_len n (f + 1) (c ++ [-(f : Int)])
    have h3 := visR_len n (f + 1) c
    rw [visR, Nat.pow_succ]
    simp only [List.length_append, List.length_cons]
    omega
theorem pow3_le {n : Nat} (h : n ≤ 5) : 3 ^ n ≤ 243 := Nat.le_trans (Nat.pow_le_pow_right (by decide) h) (by decide)

set_option maxRecDepth 100000 in
set_option maxHeartbeats 6400000 in
theorem I_PrimeClauses {hi : Nat} (v : Value) (f : CnfL) (r0 : CnfL) (r1 : Bool) (w : World) (h : RCnf hi w v f) (hn0 : szC f ≤ 1048576) (hR : fPrimeClauses f = (r0, r1)) :
    Calls Try.prog 32 #[v] w fun e w' => ∃ v', e = .returned (.tuple #[v', .bool r1]) ∧ FCnf w.heap.size w'.heap.size w' v' r0 ∧ Below w.heap.size w w' := by
  obtain ⟨A, n1, c, rfl, ht⟩ := h.open2
  obtain ⟨vars, t⟩ := f
  dsimp only at ht ⊢
  obtain ⟨wa, hwa⟩ : ∃ wa, wa = w.alloc (.cells #[.int .i64 vars, .slice A n1 c] 29) := ⟨_, rfl⟩
  have hala : Below w.heap.size w wa := by rw [hwa]; exact (Below.refl _ _).alloc (Nat.le_refl _) _
  have hsa : wa.heap.size = w.heap.size + 1 := by rw [hwa]; simp
  have hxa : Blk wa w.heap.size 29 #[.int .i64 vars, .slice A n1 c] := by rw [hwa]; exact Blk.new _ _ _
  obtain ⟨wb, hwb⟩ : ∃ wb, wb = wa.alloc (.cells #[.int .i64 0, .slice none 0 0] 29) := ⟨_, rfl⟩
  have halb : Below wa.heap.size wa wb := by rw [hwb]; exact (Below.refl _ _).alloc (Nat.le_refl _) _
  have hyr : Blk wb (w.heap.size + 1) 29 #[.int .i64 0, .slice none 0 0] := by rw [hwb, ← hsa]; exact Blk.new _ _ _
  have hxr := hxa.below halb hxa.lt
  obtain ⟨x00, x01, -, -⟩ := Blk.two' hxr
  have hal := hala.trans (halb.mono (by omega))
  have tf := ht.top.below hal
  have HGE := hide (show w.heap.size ≤ w.heap.size + 1 by omega)
  have HWB := hide (show wb = (w.alloc (.cells #[.int .i64 vars, .slice A n1 c] 29)).alloc (.cells #[.int .i64 0, .slice none 0 0] 29) by rw [hwb, hwa])
  clear hwb hwa h hala halb hsa hxa
  have hfail : fPrimeClauses (vars, t) = ((0, []), false) → r0 = (0, []) ∧ r1 = false := fun e => by
    rw [e] at hR
    injection hR with e1 e2
    exact ⟨e1.symm, e2.symm⟩
  cases hg : goodB (vars, t) with
  | false =>
    obtain ⟨rfl, rfl⟩ := hfail (by simp [fPrimeClauses, hg])
    clear hR hfail
    go_enter Try.func32, Try.ntmps32
    go_wp2_with fail
    rw [← HWB.out]
    refine (i_IsCnf _ (vars, t) _ ⟨_, rfl, tf⟩).mono ?_
    rintro e w1 ⟨rfl, hb1⟩
    rw [hg]
    have hyr := hyr.below hb1 hyr.lt
    obtain ⟨z0, z1, g0, g1⟩ := Blk.two' hyr
    obtain ⟨u0, u1, -, -⟩ := blkTwo (blkSet hyr (.int .i64 0) (.slice none 0 0))
    have HB := hide (((hal.trans (hb1.mono hal.size)).setCell (p := ⟨w.heap.size + 1, 0, none⟩) HGE.out (.int .i64 0)).setCell (p := ⟨w.heap.size + 1, 1, none⟩) HGE.out (.slice none 0 0))
    go_wp2_with fail
    refine bodyPost_ret (v := .tuple #[.agg #[.int .i64 0, .slice none 0 0], .bool false]) (by simp [results, Try.results32, go_sem, u0, u1]) rfl ⟨_, rfl, ⟨_, rfl, FTab.nil _ _ _⟩, HB.out⟩
  | true =>
    by_cases h5 : 5 < vars
    · obtain ⟨rfl, rfl⟩ := hfail (by simp [fPrimeClauses, hg]; omega)
      clear hR hfail
      go_enter Try.func32, Try.ntmps32
      go_wp2_with fail
      rw [← HWB.out]
      refine (i_IsCnf _ (vars, t) _ ⟨_, rfl, tf⟩).mono ?_
      rintro e w1 ⟨rfl, hb1⟩
      rw [hg]
      have hyr := hyr.below hb1 hyr.lt
      obtain ⟨z0, z1, g0, g1⟩ := Blk.two' hyr
      obtain ⟨u0, u1, -, -⟩ := blkTwo (blkSet hyr (.int .i64 0) (.slice none 0 0))
      replace x00 := below_old hb1 _ _ x00
      have HB := hide (((hal.trans (hb1.mono hal.size)).setCell (p := ⟨w.heap.size + 1, 0, none⟩) HGE.out (.int .i64 0)).setCell (p := ⟨w.heap.size + 1, 1, none⟩) HGE.out (.slice none 0 0))
      go_wp2_with fail
      refine bodyPost_ret (v := .tuple #[.agg #[.int .i64 0, .slice none 0 0], .bool false]) (by simp [results, Try.results32, go_sem, u0, u1]) rfl ⟨_, rfl, ⟨_, rfl, FTab.nil _ _ _⟩, HB.out⟩
    · obtain ⟨nv, hv, hn⟩ := varsB_nat (goodB_parts hg).1
      dsimp only at hv
      subst hv
      have hn5 : nv ≤ 5 := by omega
      have HT60 := hide (show t.length ≤ 60 from goodB_len hg)
      have HS := hide (goodB_small hg)
      have HR0 := hide hR
      clear hR hfail
      go_enter Try.func32, Try.ntmps32
      go_wp2_with fail
      rw [← HWB.out]
      refine (i_IsCnf _ (_, t) _ ⟨_, rfl, tf⟩).mono ?_
      rintro e w1 ⟨rfl, hb1⟩
      rw [hg]
      replace x00 := below_old hb1 _ _ x00
      replace x01 := below_old hb1 _ _ x01
      replace tf := tf.below hb1
      replace hyr := hyr.below hb1 hyr.lt
      replace hxr := hxr.below hb1 hxr.lt
      replace hal := hal.trans (hb1.mono hal.size)
      have HW1 := hide (show w.heap.size + 1 < w1.heap.size from hyr.lt)
      clear hb1 ht
      obtain ⟨wd, hwd⟩ : ∃ wd, wd = w1.alloc (.cells #[.int .i64 (nv : Int), .slice none 0 0] 29) := ⟨_, rfl⟩
      have hald : Below w1.heap.size w1 wd := by rw [hwd]; exact (Below.refl _ _).alloc (Nat.le_refl _) _
      have hsd : wd.heap.size = w1.heap.size + 1 := by rw [hwd]; simp
      have hBd : Blk wd w1.heap.size 29 #[.int .i64 (nv : Int), .slice none 0 0] := by rw [hwd]; exact Blk.new _ _ _
      have HWD := hide hwd
      have hlv := visR_len nv 1 []
      have hp3 := pow3_le hn5
      have hflt := List.length_filter_le (primeI ((nv : Int), t)) ([] :: visR nv 1 [])
      simp only [List.length_cons] at hflt
      have HALL := hide (i_allClauses (w1.heap.size + 1) (w.heap.size + 1) nv t (.slice A n1 c) w.heap.size w1.heap.size (by omega) (by have := HW1.out; omega) (by have := HW1.out; omega) hn HS.out HT60.out nv 1 (.slice none 0 0) (.slice none 0 0) [] [] wd wd (by omega) (Nat.le_refl _)
        (hxr.below hald hxr.lt) ((tf.below hald).mono (by omega)) hBd (FRT.nil _ _) (Below.refl _ _) (FInts.nil _ _ _) (by omega) (by intro l hl; simp at hl) (by simp; omega) (by simp only [List.length_nil]; omega))
      have hyd := hyr.below hald hyr.lt
      have hald2 := hal.trans (hald.mono hal.size)
      have x0d := below_old hald _ _ x00
      rw [hwd] at x0d
      clear hwd hlv hp3 hflt x01 tf hxr
      go_wp2_with fail
      rw [← HWD.out]
      refine HALL.out.mono ?_
      rintro e w2 ⟨q2, rs, rfl, hB2, hR2, hm2, hP2⟩
      rw [List.nil_append] at hR2
      have hFT := hR2.ftp
      have hU2 : Below (w1.heap.size) wd w2 := hP2.under (FRT.nil (w1.heap.size + 1) wd) (by omega) (by omega)
      have hy2 : Blk w2 (w.heap.size + 1) 29 #[.int .i64 0, .slice none 0 0] := (hU2.block _ HW1.out).trans hyd
      have hal2 : Below w.heap.size w w2 := hald2.trans (hU2.mono (by have := HW1.out; omega))
      obtain ⟨Aq, cq, rfl, -⟩ := id hFT
      obtain ⟨z0, z1, -, -⟩ := Blk.two' hB2
      have hrl : rs.length ≤ 243 := by
        have h1 := congrArg List.length hm2
        have h2 := List.length_filter_le (primeI ((nv : Int), t)) ([] :: visR nv 1 [])
        have h3 := visR_len nv 1 []
        have h4 := pow3_le hn5
        rw [List.length_map] at h1
        simp only [List.length_cons] at h2
        omega
      have HM := hide hm2
      have HFT := hide hFT
      have HB2 := hide hB2
      have HY2 := hide hy2
      have HL2 := hide hal2
      have HS2 := hide hU2.size
      clear hm2 hP2 hR2 hFT hU2 hal2 hald hald2 hyd hyr HALL hB2 hy2 hBd
      go_wp2_with fail
      refine (g_SortFuncC _ rs _ HFT.out (by omega)).mono ?_
      rintro e w3 ⟨qs, rfl, hperm, hsrt, hP3, hc3⟩
      have hlaw : qs.map (·.2) = primeL ((nv : Int), t) := by
        refine prime_law ((nv : Int), t) nv (qs.map (·.2)) ?_ (List.pairwise_map.2 hsrt)
        unfold visA
        rw [← HM.out]
        exact hperm.map _
      have hql : qs.length = (primeL ((nv : Int), t)).length := by rw [← hlaw]; simp
      have hql2 : qs.length = rs.length := hperm.length_eq
      have hB3 : Blk w3 w1.heap.size 29 #[.int .i64 nv, .slice Aq rs.length cq] := (hc3.block _ HB2.out.lt (.inl (by omega))).trans HB2.out
      have hy3 : Blk w3 (w.heap.size + 1) 29 #[.int .i64 0, .slice none 0 0] := (hc3.block _ HY2.out.lt (.inl (by have := HW1.out; omega))).trans HY2.out
      have hal3 := below_chg HL2.out hc3 (by have := HW1.out; omega) (Nat.le_refl _)
      obtain ⟨b0, b1, -, -⟩ := Blk.two' hB3
      obtain ⟨k0, k1, g0, g1⟩ := Blk.two' hy3
      have HLAW := hide hlaw
      have HP3 := hide hP3
      have HC3 := hide hc3.size
      by_cases h60 : 60 < rs.length
      · obtain ⟨rfl, rfl⟩ : r0 = (0, []) ∧ r1 = false := by
          have e := HR0.out
          unfold fPrimeClauses at e
          rw [if_pos (by simp [hg]; omega), if_pos (by omega)] at e
          injection e with e1 e2
          exact ⟨e1.symm, e2.symm⟩
        have h60i : (60 : Int) < (rs.length : Int) := by omega
        obtain ⟨u0, u1, -, -⟩ := blkTwo (blkSet hy3 (.int .i64 0) (.slice none 0 0))
        have HB := hide ((hal3.setCell (p := ⟨w.heap.size + 1, 0, none⟩) HGE.out (.int .i64 0)).setCell (p := ⟨w.heap.size + 1, 1, none⟩) HGE.out (.slice none 0 0))
        clear hperm hsrt hP3 hc3 hlaw hql hB3 hy3 hal3 z0 z1 x0d
        go_wp2_with fail
        refine bodyPost_ret (v := .tuple #[.agg #[.int .i64 0, .slice none 0 0], .bool false]) (by simp [results, Try.results32, go_sem, u0, u1]) rfl ⟨_, rfl, ⟨_, rfl, FTab.nil _ _ _⟩, HB.out⟩
      · obtain ⟨rfl, rfl⟩ : r0 = ((nv : Int), primeL ((nv : Int), t)) ∧ r1 = true := by
          have e := HR0.out
          unfold fPrimeClauses at e
          rw [if_pos (by simp [hg]; omega), if_neg (by omega)] at e
          injection e with e1 e2
          exact ⟨e1.symm, e2.symm⟩
        have h60i : ¬ (60 : Int) < (rs.length : Int) := by omega
        obtain ⟨u0, u1, -, -⟩ := blkTwo (blkSet hy3 (.int .i64 (nv : Int)) (.slice Aq rs.length cq))
        have HB := hide ((hal3.setCell (p := ⟨w.heap.size + 1, 0, none⟩) HGE.out (.int .i64 (nv : Int))).setCell (p := ⟨w.heap.size + 1, 1, none⟩) HGE.out (.slice Aq rs.length cq))
        have HF := hide ((hP3.set_ (g := w.heap.size + 1) (by have := HW1.out; omega) 0 (.int .i64 (nv : Int))).set_ (g := w.heap.size + 1) (by have := HW1.out; omega) 1 (.slice Aq rs.length cq))
        clear hperm hsrt hP3 hc3 hlaw hql hB3 hy3 hal3 z0 z1 x0d
        go_wp2_with fail
        refine bodyPost_ret (v := .tuple #[.agg #[.int .i64 (nv : Int), .slice Aq rs.length cq], .bool true]) (by simp [results, Try.results32, go_sem, u0, u1]) rfl ⟨_, rfl, ⟨_, rfl, by dsimp only; rw [← HLAW.out]; exact HF.out.ftab.mono (by have := HW1.out; omega) (by have := HC3.out; simp; omega)⟩, HB.out⟩

end Go.Proofs.Ytlipmbcjpmbjnaa
