/- The walk of the program's SortClauses. -/
import Derived.Test.YtlipmbcjpmbjnaaComp
namespace Go.Proofs.Ytlipmbcjpmbjnaa
open Go.RowKit
set_option linter.unusedVariables false

theorem ascC_ext : ∀ (l1 l2 : List (List Int)), l1.Pairwise (fun a b => clsLt a b = true) → l2.Pairwise (fun a b => clsLt a b = true) → (∀ z, z ∈ l1 ↔ z ∈ l2) → l1 = l2
  | [], [], _, _, _ => rfl
  | [], y :: s, _, _, h => by have := (h y).2 (by simp); cases this
  | x :: r, [], _, _, h => by have := (h x).1 (by simp); cases this
  | x :: r, y :: s, h1, h2, h => by
    obtain ⟨h3, h4⟩ := List.pairwise_cons.1 h1
    obtain ⟨h5, h6⟩ := List.pairwise_cons.1 h2
    have hxy : x = y := by
      rcases List.mem_cons.1 ((h x).1 (by simp)) with e | e
      · exact e
      · rcases List.mem_cons.1 ((h y).2 (by simp)) with e2 | e2
        · exact e2.symm
        · have := clsLt_trans _ _ _ (h5 x e) (h3 y e2)
          rw [clsLt_irrefl] at this; cases this
    subst hxy
    rw [ascC_ext r s h4 h6 fun z => ?_]
    constructor
    · intro hz
      rcases List.mem_cons.1 ((h z).1 (by simp [hz])) with e | e
      · subst e
        have := h3 z hz
        rw [clsLt_irrefl] at this; cases this
      · exact e
    · intro hz
      rcases List.mem_cons.1 ((h z).2 (by simp [hz])) with e | e
      · subst e
        have := h5 z hz
        rw [clsLt_irrefl] at this; cases this
      · exact e
theorem compF_asc : ∀ (l : List (Value × List Int)) (prev : List Int), l.Pairwise (fun a b => clsLt b.2 a.2 = false) → (∀ p ∈ l, clsLt p.2 prev = false) → ((compF prev l).map (·.2)).Pairwise (fun a b => clsLt a b = true) ∧ (∀ z ∈ (compF prev l).map (·.2), clsLt prev z = true) ∧ ∀ z, (z ∈ (compF prev l).map (·.2) ∨ z = prev) ↔ (z ∈ l.map (·.2) ∨ z = prev)
  | [], prev, _, _ => by simp [compF]
  | p :: r, prev, h, hp => by
    obtain ⟨h1, h2⟩ := List.pairwise_cons.1 h
    obtain ⟨i1, i2, i3⟩ := compF_asc r p.2 h2 fun q hq => h1 q hq
    rw [compF]
    split
    · rename_i e
      rw [e] at i1 i2 i3
      rw [e]
      refine ⟨i1, i2, fun z => ?_⟩
      have := i3 z
      rw [this]
      simp [e]
      constructor
      · rintro (h9 | h9)
        · exact .inl (.inr h9)
        · exact .inr h9
      · rintro ((h9 | h9) | h9)
        · exact .inr h9
        · exact .inl h9
        · exact .inr h9
    · rename_i e
      have hlt : clsLt prev p.2 = true := by
        cases h9 : clsLt prev p.2 with
        | true => rfl
        | false => exact absurd (clsLt_tri _ _ (hp p (by simp)) h9) e
      refine ⟨?_, ?_, fun z => ?_⟩
      · rw [List.map_cons]
        exact List.pairwise_cons.2 ⟨i2, i1⟩
      · intro z hz
        rw [List.map_cons] at hz
        rcases List.mem_cons.1 hz with rfl | hz
        · exact hlt
        · exact clsLt_trans _ _ _ hlt (i2 z hz)
      · have := i3 z
        rw [List.map_cons, List.map_cons, List.mem_cons, List.mem_cons]
        constructor
        · rintro ((h9 | h9) | h9)
          · exact .inl (.inl h9)
          · rcases this.1 (.inl h9) with h8 | h8
            · exact .inl (.inr h8)
            · exact .inl (.inl h8)
          · exact .inr h9
        · rintro ((h9 | h9) | h9)
          · exact .inl (.inl h9)
          · rcases this.2 (.inl h9) with h8 | h8
            · exact .inl (.inr h8)
            · exact .inl (.inl h8)
          · exact .inr h9
theorem compP_put {qs : List (Value × List Int)} {t : List (List Int)} (h : qs.Pairwise (fun a b => clsLt b.2 a.2 = false)) (hm : ∀ z, z ∈ qs.map (·.2) ↔ z ∈ t) : (compP qs).map (·.2) = putAllC t [] := by
  refine ascC_ext _ _ ?_ (putAllC_asc t [] List.Pairwise.nil) fun z => ?_
  · match qs, h with
    | [], _ => exact List.Pairwise.nil
    | p :: r, h =>
      obtain ⟨h1, h2⟩ := List.pairwise_cons.1 h
      obtain ⟨i1, i2, i3⟩ := compF_asc r p.2 h2 fun q hq => h1 q hq
      exact List.pairwise_cons.2 ⟨i2, i1⟩
  · rw [putAllC_mem]
    simp only [List.not_mem_nil, or_false]
    rw [← hm z]
    match qs, h with
    | [], _ => rfl
    | p :: r, h =>
      obtain ⟨h1, h2⟩ := List.pairwise_cons.1 h
      obtain ⟨i1, i2, i3⟩ := compF_asc r p.2 h2 fun q hq => h1 q hq
      have := i3 z
      show z ∈ (p :: compF p.2 r).map (·.2) ↔ _
      rw [List.map_cons, List.map_cons, List.mem_cons, List.mem_cons]
      constructor
      · rintro (h9 | h9)
        · exact .inl h9
        · rcases this.1 (.inl h9) with h8 | h8
          · exact .inr h8
          · exact .inl h8
      · rintro (h9 | h9)
        · exact .inl h9
        · rcases this.2 (.inl h9) with h8 | h8
          · exact .inr h8
          · exact .inl h8

theorem FTP.set_ {lo hi g : Nat} {w : World} {v : Value} {ps : List (Value × List Int)} (h : FTP lo hi w v ps) (hg : g < lo) (i : Nat) (u : Value) : FTP lo hi (w.setCell ⟨g, i, none⟩ u) v ps := by
  obtain ⟨A, c, e, h1, h2, h3, h4, h5⟩ := h
  have hc : Chg g (g + 1) w (w.setCell ⟨g, i, none⟩ u) := (chg_refl _ _ _).setCell (p := ⟨g, i, none⟩) (Nat.le_refl _) (Nat.lt_succ_self _) u
  exact ⟨A, c, e, h1, h2, h3.chg hc (.inr (by omega)), ⟨fun p hp => (h4.1 p hp).chg hc (.inr (by omega)), h4.2⟩, h5⟩

set_option maxRecDepth 100000 in
set_option maxHeartbeats 6400000 in
theorem I_SortClauses {hi : Nat} (v : Value) (f : CnfL) (r0 : CnfL) (r1 : Bool) (w : World) (h : RCnf hi w v f) (hn0 : szC f ≤ 1048576) (hR : fSortClauses f = (r0, r1)) :
    Calls Try.prog 26 #[v] w fun e w' => ∃ v', e = .returned (.tuple #[v', .bool r1]) ∧ FCnf w.heap.size w'.heap.size w' v' r0 ∧ Below w.heap.size w w' := by
  obtain ⟨A, n1, c, rfl, ht⟩ := h.open2
  obtain ⟨vars, t⟩ := f
  dsimp only at ht ⊢
  obtain ⟨wa, hwa⟩ : ∃ wa, wa = w.alloc (.cells #[.int .i64 vars, .slice A n1 c] 29) := ⟨_, rfl⟩
  have hala : Below w.heap.size w wa := by rw [hwa]; exact (Below.refl _ _).alloc (Nat.le_refl _) _
  have hsa : wa.heap.size = w.heap.size + 1 := by rw [hwa]; simp
  have xa00 : wa.cell? ⟨w.heap.size, 0, none⟩ = some (.int .i64 vars) := by rw [hwa]; simp
  have xa01 : wa.cell? ⟨w.heap.size, 1, none⟩ = some (.slice A n1 c) := by rw [hwa]; simp
  obtain ⟨wb, hwb⟩ : ∃ wb, wb = wa.alloc (.cells #[.int .i64 0, .slice none 0 0] 29) := ⟨_, rfl⟩
  have halb : Below wa.heap.size wa wb := by rw [hwb]; exact (Below.refl _ _).alloc (Nat.le_refl _) _
  have hyr : Blk wb (w.heap.size + 1) 29 #[.int .i64 0, .slice none 0 0] := by rw [hwb, ← hsa]; exact Blk.new _ _ _
  have x00 := below_old halb _ _ xa00
  have x01 := below_old halb _ _ xa01
  have hal := hala.trans (halb.mono (by omega))
  have tf := ht.top.below hal
  have HGE := hide (show w.heap.size ≤ w.heap.size + 1 by omega)
  have HWB := hide (show wb = (w.alloc (.cells #[.int .i64 vars, .slice A n1 c] 29)).alloc (.cells #[.int .i64 0, .slice none 0 0] 29) by rw [hwb, hwa])
  clear hwb hwa h hala halb hsa xa00 xa01
  cases hg : goodB (vars, t) with
  | false =>
    obtain ⟨rfl, rfl⟩ : r0 = (0, []) ∧ r1 = false := by simpa [fSortClauses, hg, eq_comm] using hR
    clear hR
    go_enter Try.func26, Try.ntmps26
    go_wp2_with fail
    rw [← HWB.out]
    refine (i_IsCnf _ (vars, t) _ ⟨_, rfl, tf⟩).mono ?_
    rintro e w1 ⟨rfl, hb1⟩
    rw [hg]
    have hyr := hyr.below hb1 hyr.lt
    obtain ⟨z0, z1, g0, g1⟩ := blkTwo hyr
    obtain ⟨u0, u1, -, -⟩ := blkTwo (blkSet hyr (.int .i64 0) (.slice none 0 0))
    have HB := hide (((hal.trans (hb1.mono hal.size)).setCell (p := ⟨w.heap.size + 1, 0, none⟩) HGE.out (.int .i64 0)).setCell (p := ⟨w.heap.size + 1, 1, none⟩) HGE.out (.slice none 0 0))
    go_wp2_with fail
    refine bodyPost_ret (v := .tuple #[.agg #[.int .i64 0, .slice none 0 0], .bool false]) (by simp [results, Try.results26, go_sem, u0, u1]) rfl ⟨_, rfl, ⟨_, rfl, FTab.nil _ _ _⟩, HB.out⟩
  | true =>
    obtain ⟨rfl, rfl⟩ : r0 = (vars, putAllC t []) ∧ r1 = true := by simpa [fSortClauses, hg, eq_comm] using hR
    have HCL := hide (goodB_parts hg).2.2
    have HT60 := hide (show t.length ≤ 60 from goodB_len hg)
    have HZ1 := hide (show ∀ z ∈ t, z.length ≤ 1048576 from fun z hz => by have h1 := cntT_mem hz; have h2 : szT t ≤ 1048576 := hn0; unfold szT at h2; omega)
    clear hR
    go_enter Try.func26, Try.ntmps26
    go_wp2_with fail
    rw [← HWB.out]
    refine (i_IsCnf _ (_, t) _ ⟨_, rfl, tf⟩).mono ?_
    rintro e w1 ⟨rfl, hb1⟩
    rw [hg]
    replace x00 := below_old hb1 _ _ x00
    replace x01 := below_old hb1 _ _ x01
    replace tf := tf.below hb1
    replace hyr := hyr.below hb1 hyr.lt
    replace hal := hal.trans (hb1.mono hal.size)
    have HW1 := hide (show w.heap.size + 1 < w1.heap.size from hyr.lt)
    clear hb1 ht
    have HTL := hide (show t.length ≤ 16777216 by have := HT60.out; omega)
    have HTZ := hide (show ∀ z ∈ t, z.length ≤ 16777216 from fun z hz => Nat.le_trans (HZ1.out z hz) (by omega))
    go_wp2_with fail
    refine (i_cloneLists _ t _ tf HTL.out HTZ.out).mono ?_
    rintro e w2 ⟨v2, ps, rfl, hps, hF2, hb2⟩
    have hP2 := hF2.ftp
    have hpl : ps.length ≤ 60 := by have := HT60.out; rw [← hps] at this; simpa using this
    replace x00 := below_old hb2 _ _ x00
    replace x01 := below_old hb2 _ _ x01
    replace hyr := hyr.below hb2 hyr.lt
    replace hal := hal.trans (hb2.mono hal.size)
    have HS2 := hide hb2.size
    obtain ⟨A2, c2, rfl, -⟩ := id hP2
    have HP2 := hide hP2
    clear hb2 hF2 tf hP2
    go_wp2_with fail
    refine (g_SortFuncC _ ps _ HP2.out (by omega)).mono ?_
    rintro e w3 ⟨qs, rfl, hperm, hsrt, hP3, hc3⟩
    have hmem : ∀ z, z ∈ qs.map (·.2) ↔ z ∈ t := fun z => by rw [← hps]; exact (hperm.map _).mem_iff
    have HQ := hide (compP_put hsrt hmem)
    have hql : qs.length ≤ 1048576 := by rw [hperm.length_eq]; omega
    have y00 := chg_old hc3 x00 (.inl (by show w.heap.size < w1.heap.size; have := HW1.out; omega))
    have hy3 : Blk w3 (w.heap.size + 1) 29 #[.int .i64 0, .slice none 0 0] := (hc3.block _ hyr.lt (.inl HW1.out)).trans hyr
    have hal3 := below_chg hal hc3 (by have := HW1.out; omega) (Nat.le_refl _)
    have hP3' := hP3.below (below_drew w3)
    have HP3 := hide hP3'
    have HY3 := hide hy3
    have HAL3 := hide hal3
    have HX3 := hide y00
    have HS3 := hide hc3.size
    clear hc3 hperm hsrt hmem hP3 hP3' hyr hal x00 x01 hps hy3 hal3
    go_wp2_with fail
    go_region_law (first | (go_simp; go_at_call 50; refine (g_CompactC _ qs _ HP3.out hql).mono ?_; rintro e w4 ⟨v4, rfl, hP4, hc4⟩; obtain ⟨A4, c4', rfl, -⟩ := id hP4; have hc4' : Chg w1.heap.size w2.heap.size w3 w4 := ⟨hc4.os, hc4.tape, hc4.output, hc4.size, hc4.block⟩; have z00 := chg_old hc4' HX3.out (.inl (by show w.heap.size < w1.heap.size; have := HW1.out; omega)); have hy4 : Blk w4 (w.heap.size + 1) 29 #[.int .i64 0, .slice none 0 0] := (hc4'.block _ HY3.out.lt (.inl HW1.out)).trans HY3.out; obtain ⟨z0, z1, g0, g1⟩ := blkTwo hy4))
    all_goals (obtain ⟨u0, u1, -, -⟩ := blkTwo (blkSet hy4 (.int .i64 vars) (.slice A4 (compP qs).length c4')))
    all_goals (have hal4 := below_chg HAL3.out hc4' (by have := HW1.out; omega) (Nat.le_refl _))
    all_goals (have HB := hide ((hal4.setCell (p := ⟨w.heap.size + 1, 0, none⟩) HGE.out (.int .i64 vars)).setCell (p := ⟨w.heap.size + 1, 1, none⟩) HGE.out (.slice A4 (compP qs).length c4')))
    all_goals (have HF := hide ((hP4.set_ HW1.out 0 (.int .i64 vars)).set_ HW1.out 1 (.slice A4 (compP qs).length c4')))
    all_goals go_wp2_with fail
    all_goals (refine bodyPost_ret (v := .tuple #[.agg #[.int .i64 vars, .slice A4 (compP qs).length c4'], .bool true]) (by simp [results, Try.results26, go_sem, u0, u1]) rfl ⟨_, rfl, ⟨_, rfl, by rw [← HQ.out]; exact HF.out.ftab.mono (by have := HW1.out; omega) (by have := HS3.out; have := hc4'.size; simp; omega)⟩, HB.out⟩)

end Go.Proofs.Ytlipmbcjpmbjnaa
