/- The contracts of FullCnf. -/
import Derived.Test.YtkmkdfogpdndoaaSign
namespace Go.Proofs.Ytkmkdfogpdndoaa
open Go.RowKit
set_option linter.unusedVariables false

def fFullCnf (n : Int) : CnfL × Bool := if inB n 0 5 then giveF (n, maskT (upK n.toNat)) else ((0, []), false)
theorem fFullCnf_len {n : Int} {r0 : CnfL} {r1 : Bool} (hR : fFullCnf n = (r0, r1)) : szC r0 ≤ 1048576 := by
  unfold fFullCnf at hR
  split at hR
  · exact giveF_len hR
  · injection hR with h1 _; subst h1; decide
theorem keep2 (t : List (List Int)) : t.filter (keepB 2) = t := by
  apply List.filter_eq_self.2
  intro c _
  simp [keepB]
theorem upK_pair (n : Nat) (hn : n ≤ 12) : (upK n).Pairwise (fun a b => varW a < varW b) ∧ ∀ y ∈ upK n, 1 ≤ y ∧ y ≤ 12 := by
  have : ∀ m : Fin 13, (upK m.val).Pairwise (fun a b => varW a < varW b) ∧ ∀ y ∈ upK m.val, 1 ≤ y ∧ y ≤ 12 := by decide +kernel
  exact this ⟨n, by omega⟩
theorem giveF_of {vars : Int} {t : List (List Int)} {g : Bool} {r0 : CnfL} {r1 : Bool} (hg : goodB (vars, t) = g) (hR : giveF (vars, t) = (r0, r1)) : r0 = (if g then (vars, t) else (0, [])) ∧ r1 = g := by
  unfold giveF at hR
  rw [hg] at hR
  cases g <;> simpa [eq_comm] using hR
theorem inB_nat {n : Int} (h : inB n 0 5 = true) : ∃ k : Nat, n = (k : Int) ∧ k ≤ 5 := by
  unfold inB at h
  simp at h
  exact ⟨n.toNat, by omega, by omega⟩

set_option maxHeartbeats 1600000 in
theorem S_FullCnf (n : Int) (r0 : CnfL) (r1 : Bool) (w : World) (hR : fFullCnf n = (r0, r1)) :
    Calls Try.prog 30 #[.int .i64 n] w fun e w' => ∃ v', e = .returned (.tuple #[v', .bool r1]) ∧ FCnf w.heap.size w'.heap.size w' v' r0 ∧ Below w.heap.size w w' := by
  obtain ⟨wb, hwb⟩ : ∃ wb, wb = w.alloc (.cells #[.int .i64 0, .slice none 0 0] 29) := ⟨_, rfl⟩
  have hal : Below w.heap.size w wb := by rw [hwb]; exact (Below.refl _ _).alloc (Nat.le_refl _) _
  have hyr : Blk wb w.heap.size 29 #[.int .i64 0, .slice none 0 0] := by rw [hwb]; exact Blk.new _ _ _
  have HWB := hide hwb
  clear hwb
  cases hg : inB n 0 5 with
  | false =>
    obtain ⟨rfl, rfl⟩ : r0 = (0, []) ∧ r1 = false := by simpa [fFullCnf, hg, eq_comm] using hR
    obtain ⟨z0, z1, g0, g1⟩ := blkTwo hyr
    obtain ⟨u0, u1, -, -⟩ := blkTwo (blkSet hyr (.int .i64 0) (.slice none 0 0))
    have HB := hide ((hal.setCell (p := ⟨w.heap.size, 0, none⟩) (Nat.le_refl _) (.int .i64 0)).setCell (p := ⟨w.heap.size, 1, none⟩) (Nat.le_refl _) (.slice none 0 0))
    clear hR
    go_enter Try.func30, Try.ntmps30
    go_wp2_with fail
    rw [← HWB.out]
    refine (s_l1In n 0 5 wb).mono ?_
    rintro e w1 ⟨rfl, rfl⟩
    rw [hg]
    go_wp2_with fail
    refine bodyPost_ret (v := .tuple #[.agg #[.int .i64 0, .slice none 0 0], .bool false]) (by simp [results, Try.results30, go_sem, u0, u1]) rfl ⟨_, rfl, ⟨_, rfl, FTab.nil _ _ _⟩, HB.out⟩
  | true =>
    obtain ⟨k, rfl, hk⟩ := inB_nat hg
    obtain ⟨gd, hgd⟩ : ∃ gd, goodB ((k : Int), maskT (upK k)) = gd := ⟨_, rfl⟩
    have hR' : giveF ((k : Int), maskT (upK k)) = (r0, r1) := by simpa [fFullCnf, hg] using hR
    obtain ⟨hr0, rfl⟩ := giveF_of hgd hR'
    have HR0 := hide hr0
    obtain ⟨hp1, hp2⟩ := upK_pair k (by omega)
    have HP1 := hide hp1
    have HP2 := hide hp2
    clear hR hR' hr0 hp1 hp2
    go_enter Try.func30, Try.ntmps30
    go_wp2_with fail
    rw [← HWB.out]
    refine (s_l1In k 0 5 wb).mono ?_
    rintro e w1 ⟨rfl, rfl⟩
    rw [hg]
    go_wp2_with fail
    refine (s_l4To k wb (by omega)).mono ?_
    rintro e w1 ⟨v1, rfl, hown1, hb1⟩
    have HY := hide (hyr.below hb1 hyr.lt)
    have HL1 := hide (below_step hal hb1)
    go_wp2_with fail
    refine (s_l4Full (k : Int) v1 (upK k) 2 w1 hown1.fints.ints (by rw [upK_length]; exact hk) HP1.out HP2.out (Nat.le_refl _)).mono ?_
    rintro e w2 ⟨v2, ps, rfl, hps, hF, hb2⟩
    rw [keep2] at hps
    have hL2 := below_step HL1.out hb2
    have hY2 := HY.out.below hb2 HY.out.lt
    have hFT := hF.rtab.tab
    rw [hps] at hFT
    obtain ⟨A2, c2, rfl⟩ := hF.open_
    have HGP := hide (s_l4Give r1 (k : Int) A2 ps.length c2 (maskT (upK k)) w2 hFT hgd)
    have hsw : w.heap.size < w1.heap.size := HY.out.lt
    clear hFT
    go_wp2_with fail
    refine HGP.out.mono ?_
    rintro e w3 ⟨rfl, hb3⟩
    have hyf := hY2.below hb3 hY2.lt
    have hbf := below_step hL2 hb3
    have hR := hF.below hb3
    have hNr : NotAt w.heap.size (.slice A2 ps.length c2) ps := hR.notAt (by omega)
    obtain ⟨z0, z1, g0, g1⟩ := blkTwo hyf
    cases r1 with
    | false =>
      rw [giveR_no]
      obtain ⟨u0, u1, -, -⟩ := blkTwo (blkSet hyf (.int .i64 0) (.slice none 0 0))
      have HB := hide ((hbf.setCell (p := ⟨w.heap.size, 0, none⟩) (Nat.le_refl _) (.int .i64 0)).setCell (p := ⟨w.heap.size, 1, none⟩) (Nat.le_refl _) (.slice none 0 0))
      go_wp2_with fail
      have hr := HR0.out
      simp only [Bool.false_eq_true, if_false] at hr
      refine bodyPost_ret (v := .tuple #[.agg #[.int .i64 0, .slice none 0 0], .bool false]) (by simp [results, Try.results30, go_sem, u0, u1]) rfl ⟨_, rfl, by rw [hr]; exact ⟨_, rfl, FTab.nil _ _ _⟩, HB.out⟩
    | true =>
      rw [giveR_yes]
      obtain ⟨u0, u1, -, -⟩ := blkTwo (blkSet hyf (.int .i64 k) (.slice A2 ps.length c2))
      have HB := hide ((hbf.setCell (p := ⟨w.heap.size, 0, none⟩) (Nat.le_refl _) (.int .i64 k)).setCell (p := ⟨w.heap.size, 1, none⟩) (Nat.le_refl _) (.slice A2 ps.length c2))
      have HFS := hide ((hR.set_ hNr 0 (.int .i64 k)).set_ hNr 1 (.slice A2 ps.length c2))
      go_wp2_with fail
      have hr := HR0.out
      simp only [if_true] at hr
      refine bodyPost_ret (v := .tuple #[.agg #[.int .i64 k, .slice A2 ps.length c2], .bool true]) (by simp [results, Try.results30, go_sem, u0, u1]) rfl ⟨_, rfl, by rw [hr]; exact ⟨_, rfl, by have h9 := HFS.out.ftab; rw [hps] at h9; exact h9.mono (by omega) (Nat.le_refl _)⟩, HB.out⟩

set_option maxHeartbeats 1600000 in
theorem I_FullCnf (n : Int) (r0 : CnfL) (r1 : Bool) (w : World) (hR : fFullCnf n = (r0, r1)) :
    Calls Try.prog 31 #[.int .i64 n] w fun e w' => ∃ v', e = .returned (.tuple #[v', .bool r1]) ∧ FCnf w.heap.size w'.heap.size w' v' r0 ∧ Below w.heap.size w w' := by
  obtain ⟨wb, hwb⟩ : ∃ wb, wb = w.alloc (.cells #[.int .i64 0, .slice none 0 0] 29) := ⟨_, rfl⟩
  have hal : Below w.heap.size w wb := by rw [hwb]; exact (Below.refl _ _).alloc (Nat.le_refl _) _
  have hyr : Blk wb w.heap.size 29 #[.int .i64 0, .slice none 0 0] := by rw [hwb]; exact Blk.new _ _ _
  have HWB := hide hwb
  clear hwb
  cases hg : inB n 0 5 with
  | false =>
    obtain ⟨rfl, rfl⟩ : r0 = (0, []) ∧ r1 = false := by simpa [fFullCnf, hg, eq_comm] using hR
    obtain ⟨z0, z1, g0, g1⟩ := blkTwo hyr
    obtain ⟨u0, u1, -, -⟩ := blkTwo (blkSet hyr (.int .i64 0) (.slice none 0 0))
    have HB := hide ((hal.setCell (p := ⟨w.heap.size, 0, none⟩) (Nat.le_refl _) (.int .i64 0)).setCell (p := ⟨w.heap.size, 1, none⟩) (Nat.le_refl _) (.slice none 0 0))
    clear hR
    go_enter Try.func31, Try.ntmps31
    go_wp2_with fail
    rw [← HWB.out]
    refine (i_within n 0 5 wb).mono ?_
    rintro e w1 ⟨rfl, rfl⟩
    rw [hg]
    go_wp2_with fail
    refine bodyPost_ret (v := .tuple #[.agg #[.int .i64 0, .slice none 0 0], .bool false]) (by simp [results, Try.results31, go_sem, u0, u1]) rfl ⟨_, rfl, ⟨_, rfl, FTab.nil _ _ _⟩, HB.out⟩
  | true =>
    obtain ⟨k, rfl, hk⟩ := inB_nat hg
    obtain ⟨gd, hgd⟩ : ∃ gd, goodB ((k : Int), maskT (upK k)) = gd := ⟨_, rfl⟩
    have hR' : giveF ((k : Int), maskT (upK k)) = (r0, r1) := by simpa [fFullCnf, hg] using hR
    obtain ⟨hr0, rfl⟩ := giveF_of hgd hR'
    have HR0 := hide hr0
    obtain ⟨hp1, hp2⟩ := upK_pair k (by omega)
    have HP1 := hide hp1
    have HP2 := hide hp2
    clear hR hR' hr0 hp1 hp2
    go_enter Try.func31, Try.ntmps31
    go_wp2_with fail
    rw [← HWB.out]
    refine (i_within k 0 5 wb).mono ?_
    rintro e w1 ⟨rfl, rfl⟩
    rw [hg]
    go_wp2_with fail
    refine (i_upTo k wb (by omega)).mono ?_
    rintro e w1 ⟨v1, rfl, hown1, hb1⟩
    have HY := hide (hyr.below hb1 hyr.lt)
    have HL1 := hide (below_step hal hb1)
    go_wp2_with fail
    refine (i_signings v1 (upK k) w1 hown1.fints.ints (by rw [upK_length]; exact hk) (fun y hy => by have := HP2.out y hy; omega)).mono ?_
    rintro e w2 ⟨v2, ps, rfl, hps, hF0, hb2⟩
    have hsw : w.heap.size < w1.heap.size := HY.out.lt
    have hL20 := below_step HL1.out hb2
    have hY20 := HY.out.below hb2 HY.out.lt
    obtain ⟨A2, c2, rfl⟩ := hF0.open_
    obtain ⟨wq, hwq⟩ : ∃ wq, wq = w2.alloc (.cells #[.int .i64 k, .slice A2 ps.length c2] 60) := ⟨_, rfl⟩
    have hbq : Below w2.heap.size w2 wq := by rw [hwq]; exact (Below.refl _ _).alloc (Nat.le_refl _) _
    have hBq : Blk wq w2.heap.size 60 #[.int .i64 k, .slice A2 ps.length c2] := by rw [hwq]; exact Blk.new _ _ _
    have hF := hF0.below hbq
    have hL2 := below_step hL20 hbq
    have hY2 := hY20.below hbq hY20.lt
    have hFT := hF.rtab.tab
    rw [hps] at hFT
    have HGP := hide (i_famCnf r1 (k : Int) A2 ps.length c2 (maskT (upK k)) wq _ hBq hFT hgd)
    have HWQ := hide hwq
    clear hFT hwq hF0 hL20 hY20 hbq hBq
    go_wp2_with fail
    rw [← HWQ.out]
    refine HGP.out.mono ?_
    rintro e w3 ⟨rfl, hb3⟩
    have hyf := hY2.below hb3 hY2.lt
    have hbf := below_step hL2 hb3
    have hR := hF.below hb3
    have hNr : NotAt w.heap.size (.slice A2 ps.length c2) ps := hR.notAt (by omega)
    obtain ⟨z0, z1, g0, g1⟩ := blkTwo hyf
    cases r1 with
    | false =>
      rw [giveR_no]
      obtain ⟨u0, u1, -, -⟩ := blkTwo (blkSet hyf (.int .i64 0) (.slice none 0 0))
      have HB := hide ((hbf.setCell (p := ⟨w.heap.size, 0, none⟩) (Nat.le_refl _) (.int .i64 0)).setCell (p := ⟨w.heap.size, 1, none⟩) (Nat.le_refl _) (.slice none 0 0))
      go_wp2_with fail
      have hr := HR0.out
      simp only [Bool.false_eq_true, if_false] at hr
      refine bodyPost_ret (v := .tuple #[.agg #[.int .i64 0, .slice none 0 0], .bool false]) (by simp [results, Try.results31, go_sem, u0, u1]) rfl ⟨_, rfl, by rw [hr]; exact ⟨_, rfl, FTab.nil _ _ _⟩, HB.out⟩
    | true =>
      rw [giveR_yes]
      obtain ⟨u0, u1, -, -⟩ := blkTwo (blkSet hyf (.int .i64 k) (.slice A2 ps.length c2))
      have HB := hide ((hbf.setCell (p := ⟨w.heap.size, 0, none⟩) (Nat.le_refl _) (.int .i64 k)).setCell (p := ⟨w.heap.size, 1, none⟩) (Nat.le_refl _) (.slice A2 ps.length c2))
      have HFS := hide ((hR.set_ hNr 0 (.int .i64 k)).set_ hNr 1 (.slice A2 ps.length c2))
      go_wp2_with fail
      have hr := HR0.out
      simp only [if_true] at hr
      refine bodyPost_ret (v := .tuple #[.agg #[.int .i64 k, .slice A2 ps.length c2], .bool true]) (by simp [results, Try.results31, go_sem, u0, u1]) rfl ⟨_, rfl, by rw [hr]; exact ⟨_, rfl, by have h9 := HFS.out.ftab; rw [hps] at h9; exact h9.mono (by omega) (Nat.le_refl _)⟩, HB.out⟩

end Go.Proofs.Ytkmkdfogpdndoaa
