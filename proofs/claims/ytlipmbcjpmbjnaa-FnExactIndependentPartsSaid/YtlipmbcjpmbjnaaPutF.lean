/- The reference's l1Put: the very slice, or a fresh row. -/
import Derived.Test.YtlipmbcjpmbjnaaPutN
namespace Go.Proofs.Ytlipmbcjpmbjnaa
open Go.RowKit
set_option linter.unusedVariables false

set_option maxRecDepth 100000 in
set_option maxHeartbeats 3200000 in
theorem s_l1PutF {base : Nat} (g n cap : Nat) (zs : List Int) (x : Int) (w : World) (h : OwnI base w (.slice (some ⟨g, 0, none⟩) n cap) zs) (hn' : zs.length = n) (hn : n ≤ 100000) (hbs : base ≤ w.heap.size) :
    Calls Try.prog 35 #[.slice (some ⟨g, 0, none⟩) n cap, .int .i64 x] w fun e w' => ∃ v', e = .returned v' ∧ ((v' = .slice (some ⟨g, 0, none⟩) n cap ∧ w' = w ∧ putI x zs = zs) ∨ (OwnI w.heap.size w' v' (putI x zs) ∧ Below w.heap.size w w')) := by
  have hI := h.fints.ints.top
  obtain ⟨A', c', e', hc, hm, hrow⟩ := id hI
  injection e' with e1 e2 e3
  subst e1 e3
  clear e2
  rw [hn'] at hc
  unfold maxLen at hm
  have hcells : ∀ W, Below w.heap.size w W → ∀ (j : Nat) (u : Value), (ic zs)[j]? = some u → W.cell? ⟨g, j, none⟩ = some u := fun W hW j u hj => by
    by_cases h0 : 0 < (ic zs).length
    · obtain ⟨b, off, e9, hb9, hc9⟩ := hrow h0
      injection e9 with e9; injection e9 with e10 e11
      subst e10 e11
      have := below_old hW _ _ (hc9 j u hj)
      simpa using this
    · have := (List.getElem?_eq_some_iff.1 hj).1
      omega
  have HROW := hide hrow
  have HI := hide hI
  have HN' := hide hn'
  have HBS := hide hbs
  have HO := hide h
  have HCL := hide hcells
  clear hn' hrow hI h hcells hbs
  go_enter Try.func35, Try.ntmps35
  go_wp2_with fail
  go_loop [5] (fun i => ∃ k : Nat, k ≤ n ∧ i = .int .i64 k ∧ Hid (∀ y ∈ zs.take k, y < x)) (fun i => n - (intOf i).toNat)
  case atStart => exact ⟨0, Nat.zero_le _, rfl, by intro y hy; simp at hy⟩
  case round =>
    obtain ⟨k, hk, rfl, hall⟩ := hrel
    have HL1 := hide (show (zs.take k).length = k by simp; have := HN'.out; omega)
    have HL2 := hide (show (zs.drop k).length = n - k by simp; have := HN'.out; omega)
    have HC1 := hide (show ∀ W, Below w.heap.size w W → ∀ (j : Nat) (u : Value), (ic (zs.take k))[j]? = some u → W.cell? ⟨g, 0 + j, none⟩ = some u from fun W hW j u hu => by
      rw [Nat.zero_add]
      refine HCL.out W hW j u ?_
      simp only [ic, List.map_take, List.getElem?_take] at hu
      split at hu
      · exact hu
      · cases hu)
    have HC2 := hide (show ∀ W, Below w.heap.size w W → ∀ (j : Nat) (u : Value), (ic (zs.drop k))[j]? = some u → W.cell? ⟨g, k + j, none⟩ = some u from fun W hW j u hu => HCL.out W hW _ u (by simpa [ic, List.getElem?_drop] using hu))
    have b6 : (0 : Int) ≤ (k : Int) := by omega
    have b1 : (k : Int) ≤ (cap : Int) := by omega
    have b3 : k ≤ cap := by omega
    by_cases hkn : k < n
    · obtain ⟨b, off, y, e9, hx, hcw⟩ := HROW.out.int (k := k) (by rw [HN'.out]; exact hkn)
      injection e9 with e9; injection e9 with e10 e11
      subst e10 e11
      have hcw' : w.cell? ⟨g, k, none⟩ = some (.int .i64 y) := by simpa using hcw
      have hgd : zs.drop k = y :: zs.drop (k + 1) := hx
      have b7 : (k : Int) ≤ (n : Int) := by omega
      have b8 : (k : Int) < (n : Int) := by omega
      by_cases hyx : y < x
      · have HA := hide (show ∀ z ∈ zs.take (k + 1), z < x from fun z hz => by
          rw [take_snoc hx] at hz
          rcases List.mem_append.1 hz with hz | hz
          · exact hall.out z hz
          · rw [List.mem_singleton.1 hz]; exact hyx)
        clear hx hcw hgd
        go_wp2_with fail
        go_round
        case rel => exact ⟨k + 1, by omega, by go_num, HA.out⟩
        case measure => simp [intOf]; omega
      · by_cases hyx2 : y = x
        · have HQ := hide (show putI x zs = zs by
            rw [putI_skip x zs k hall.out, hgd, putI, if_neg hyx, if_pos hyx2, ← hgd, List.take_append_drop])
          have he : (y == x) = true := by simp [hyx2]
          clear hx hcw hgd
          go_wp2_with fail
          go_ret
          exact ⟨_, rfl, .inl ⟨rfl, rfl, HQ.out⟩⟩
        · have HQ := hide (show putI x zs = zs.take k ++ [x] ++ zs.drop k by
            rw [putI_skip x zs k hall.out, hgd, putI, if_neg hyx, if_neg hyx2]; simp)
          have he : (y == x) = false := by simp [hyx2]
          have hce : ¬ (cap = k) := by omega
          clear hx hcw hgd
          go_wp2_with fail
          go_region_held3 (fun _ => True) (trivial)
            ((first | ((refine step_intsG (b := g) (off := k) (m := n - k) (c := cap - k) (ys := zs.drop k) rfl _ _ rfl w.heap.size ?_ w4 hown4 ?_ ?_ ?_ HL2.out ?_ ?_ ?_); (· rfl); (· (repeat (first | exact Below.refl _ _ | apply below_drew_of | apply below_alloc_of))); (· exact hba2.size); (· rfl); (· exact HC2.out _ (by (repeat (first | exact hbc2 | exact hba2 | exact hba | exact Below.refl _ _ | apply below_drew_of | apply below_alloc_of)))); (· (have h7 := HN'.out; simp; omega)); (intro v5 w5 hown5 hb5 hg5; have hbc2 := hba2.trans hb5)) | ((refine step_intsG (b := w3.heap.size) (off := 0) (m := 1) (c := 1) (ys := [x]) rfl _ _ rfl w.heap.size ?_ w3 hown3 ?_ ?_ ?_ rfl ?_ ?_ ?_); (· rfl); (· (repeat (first | exact Below.refl _ _ | apply below_drew_of | apply below_alloc_of))); (· exact hba.size); (· rfl); (· (refine lit_cells ?_; simp)); (· (simp; have := HL1.out; simp at this; omega)); (intro v4 w4 hown4 hb4 hg4; have hba2 := hba.trans hb4)) | ((refine step_intsG (b := w.heap.size + 1) (off := 0) (m := 1) (c := 1) (ys := [x]) rfl _ _ rfl w.heap.size ?_ w3 hown3 ?_ ?_ ?_ rfl ?_ ?_ ?_); (· rfl); (· (repeat (first | exact Below.refl _ _ | apply below_drew_of | apply below_alloc_of))); (· exact hba.size); (· rfl); (· (refine lit_cells ?_; exact grown_cell hg3 (by simp) (by simp [Value.ownBlock]))); (· (simp; have := HL1.out; simp at this; omega)); (intro v4 w4 hown4 hb4 hg4; have hba2 := hba.trans hb4)) | ((refine step_intsG (b := w.heap.size) (off := 0) (m := 1) (c := 1) (ys := [x]) rfl _ _ rfl w.heap.size ?_ w3 hown3 ?_ ?_ ?_ rfl ?_ ?_ ?_); (· rfl); (· (repeat (first | exact Below.refl _ _ | apply below_drew_of | apply below_alloc_of))); (· exact hba.size); (· rfl); (· (refine lit_cells ?_; exact grown_cell hg3 (by simp) (by simp [Value.ownBlock]))); (· (simp; have := HL1.out; simp at this; omega)); (intro v4 w4 hown4 hb4 hg4; have hba2 := hba.trans hb4)) | ((refine step_intsG (b := g) (off := 0) (m := k) (c := cap) (ys := zs.take k) rfl _ _ rfl w.heap.size ?_ _ (OwnI.made w.heap.size w (Nat.le_refl _)) ?_ ?_ ?_ HL1.out ?_ ?_ ?_); (· rfl); (· (repeat (first | exact Below.refl _ _ | apply below_drew_of | apply below_alloc_of))); (· (first | (simp; done) | (simp; omega))); (· rfl); (· exact HC1.out _ (by (repeat (first | exact hbc2 | exact hba2 | exact hba | exact Below.refl _ _ | apply below_drew_of | apply below_alloc_of)))); (· (rw [HL1.out]; simp; omega)); (intro v3 w3 hown3 hb3 hg3; have hba := (show Below w.heap.size w _ from (by (repeat (first | exact hbc2 | exact hba2 | exact hba | exact Below.refl _ _ | apply below_drew_of | apply below_alloc_of)))).trans hb3)) | ((refine step_intsG (b := g) (off := 0) (m := k) (c := cap) (ys := zs.take k) rfl _ _ rfl w.heap.size ?_ _ (OwnI.made w.heap.size w.drew (Nat.le_refl _)) ?_ ?_ ?_ HL1.out ?_ ?_ ?_); (· rfl); (· (repeat (first | exact Below.refl _ _ | apply below_drew_of | apply below_alloc_of))); (· (first | (simp; done) | (simp; omega))); (· rfl); (· exact HC1.out _ (by (repeat (first | exact hbc2 | exact hba2 | exact hba | exact Below.refl _ _ | apply below_drew_of | apply below_alloc_of)))); (· (rw [HL1.out]; simp; omega)); (intro v3 w3 hown3 hb3 hg3; have hba := (show Below w.heap.size w _ from (by (repeat (first | exact hbc2 | exact hba2 | exact hba | exact Below.refl _ _ | apply below_drew_of | apply below_alloc_of)))).trans hb3)) | ((refine step_intsG (b := g) (off := 0) (m := k) (c := cap) (ys := zs.take k) rfl _ _ rfl w.heap.size ?_ _ (OwnI.made1 w.heap.size w (.cells #[.int .i64 x] 3) (Nat.le_refl _)) ?_ ?_ ?_ HL1.out ?_ ?_ ?_); (· rfl); (· (repeat (first | exact Below.refl _ _ | apply below_drew_of | apply below_alloc_of))); (· (first | (simp; done) | (simp; omega))); (· rfl); (· exact HC1.out _ (by (repeat (first | exact hbc2 | exact hba2 | exact hba | exact Below.refl _ _ | apply below_drew_of | apply below_alloc_of)))); (· (rw [HL1.out]; simp; omega)); (intro v3 w3 hown3 hb3 hg3; have hba := (show Below w.heap.size w _ from (by (repeat (first | exact hbc2 | exact hba2 | exact hba | exact Below.refl _ _ | apply below_drew_of | apply below_alloc_of)))).trans hb3)) | fail))
          all_goals go_wp2_with fail
          all_goals go_ret
          all_goals exact ⟨_, rfl, .inr ⟨by rw [HQ.out]; simpa using hown5, hbc2⟩⟩
    · obtain rfl : k = n := by omega
      have HQ := hide (show putI x zs = zs.take k ++ [x] by
        rw [putI_skip x zs k hall.out, List.drop_eq_nil_of_le (by rw [HN'.out]; omega)]; rfl)
      by_cases hce : cap = k
      · subst hce
        go_wp2_with fail
        go_region_held3 (fun _ => True) (trivial)
          ((first | ((refine step_intsG (b := g) (off := 0) (m := 0) (c := 0) (ys := []) rfl _ _ rfl w.heap.size ?_ w4 hown4 ?_ ?_ ?_ rfl ?_ ?_ ?_); (· rfl); (· (repeat (first | exact Below.refl _ _ | apply below_drew_of | apply below_alloc_of))); (· exact hba2.size); (· rfl); (· (intro j u hu; simp at hu)); (· (have h7 := HN'.out; simp; omega)); (intro v5 w5 hown5 hb5 hg5; have hbc2 := hba2.trans hb5)) | ((refine step_intsG (b := w3.heap.size) (off := 0) (m := 1) (c := 1) (ys := [x]) rfl _ _ rfl w.heap.size ?_ w3 hown3 ?_ ?_ ?_ rfl ?_ ?_ ?_); (· rfl); (· (repeat (first | exact Below.refl _ _ | apply below_drew_of | apply below_alloc_of))); (· exact hba.size); (· rfl); (· (refine lit_cells ?_; simp)); (· (simp; have := HL1.out; simp at this; omega)); (intro v4 w4 hown4 hb4 hg4; have hba2 := hba.trans hb4)) | ((refine step_intsG (b := w.heap.size + 1) (off := 0) (m := 1) (c := 1) (ys := [x]) rfl _ _ rfl w.heap.size ?_ w3 hown3 ?_ ?_ ?_ rfl ?_ ?_ ?_); (· rfl); (· (repeat (first | exact Below.refl _ _ | apply below_drew_of | apply below_alloc_of))); (· exact hba.size); (· rfl); (· (refine lit_cells ?_; exact grown_cell hg3 (by simp) (by simp [Value.ownBlock]))); (· (simp; have := HL1.out; simp at this; omega)); (intro v4 w4 hown4 hb4 hg4; have hba2 := hba.trans hb4)) | ((refine step_intsG (b := w.heap.size) (off := 0) (m := 1) (c := 1) (ys := [x]) rfl _ _ rfl w.heap.size ?_ w3 hown3 ?_ ?_ ?_ rfl ?_ ?_ ?_); (· rfl); (· (repeat (first | exact Below.refl _ _ | apply below_drew_of | apply below_alloc_of))); (· exact hba.size); (· rfl); (· (refine lit_cells ?_; exact grown_cell hg3 (by simp) (by simp [Value.ownBlock]))); (· (simp; have := HL1.out; simp at this; omega)); (intro v4 w4 hown4 hb4 hg4; have hba2 := hba.trans hb4)) | ((refine step_intsG (b := g) (off := 0) (m := cap) (c := cap) (ys := zs.take cap) rfl _ _ rfl w.heap.size ?_ _ (OwnI.made w.heap.size w (Nat.le_refl _)) ?_ ?_ ?_ HL1.out ?_ ?_ ?_); (· rfl); (· (repeat (first | exact Below.refl _ _ | apply below_drew_of | apply below_alloc_of))); (· (first | (simp; done) | (simp; omega))); (· rfl); (· exact HC1.out _ (by (repeat (first | exact hbc2 | exact hba2 | exact hba | exact Below.refl _ _ | apply below_drew_of | apply below_alloc_of)))); (· (rw [HL1.out]; simp; omega)); (intro v3 w3 hown3 hb3 hg3; have hba := (show Below w.heap.size w _ from (by (repeat (first | exact hbc2 | exact hba2 | exact hba | exact Below.refl _ _ | apply below_drew_of | apply below_alloc_of)))).trans hb3)) | ((refine step_intsG (b := g) (off := 0) (m := cap) (c := cap) (ys := zs.take cap) rfl _ _ rfl w.heap.size ?_ _ (OwnI.made w.heap.size w.drew (Nat.le_refl _)) ?_ ?_ ?_ HL1.out ?_ ?_ ?_); (· rfl); (· (repeat (first | exact Below.refl _ _ | apply below_drew_of | apply below_alloc_of))); (· (first | (simp; done) | (simp; omega))); (· rfl); (· exact HC1.out _ (by (repeat (first | exact hbc2 | exact hba2 | exact hba | exact Below.refl _ _ | apply below_drew_of | apply below_alloc_of)))); (· (rw [HL1.out]; simp; omega)); (intro v3 w3 hown3 hb3 hg3; have hba := (show Below w.heap.size w _ from (by (repeat (first | exact hbc2 | exact hba2 | exact hba | exact Below.refl _ _ | apply below_drew_of | apply below_alloc_of)))).trans hb3)) | ((refine step_intsG (b := g) (off := 0) (m := cap) (c := cap) (ys := zs.take cap) rfl _ _ rfl w.heap.size ?_ _ (OwnI.made1 w.heap.size w (.cells #[.int .i64 x] 3) (Nat.le_refl _)) ?_ ?_ ?_ HL1.out ?_ ?_ ?_); (· rfl); (· (repeat (first | exact Below.refl _ _ | apply below_drew_of | apply below_alloc_of))); (· (first | (simp; done) | (simp; omega))); (· rfl); (· exact HC1.out _ (by (repeat (first | exact hbc2 | exact hba2 | exact hba | exact Below.refl _ _ | apply below_drew_of | apply below_alloc_of)))); (· (rw [HL1.out]; simp; omega)); (intro v3 w3 hown3 hb3 hg3; have hba := (show Below w.heap.size w _ from (by (repeat (first | exact hbc2 | exact hba2 | exact hba | exact Below.refl _ _ | apply below_drew_of | apply below_alloc_of)))).trans hb3)) | fail))
        all_goals go_wp2_with fail
        all_goals go_ret
        all_goals exact ⟨_, rfl, .inr ⟨by rw [HQ.out]; simpa using hown5, hbc2⟩⟩
      · go_wp2_with fail
        go_region_held3 (fun _ => True) (trivial)
          ((first | ((refine step_intsG (b := g) (off := k) (m := 0) (c := cap - k) (ys := []) rfl _ _ rfl w.heap.size ?_ w4 hown4 ?_ ?_ ?_ rfl ?_ ?_ ?_); (· rfl); (· (repeat (first | exact Below.refl _ _ | apply below_drew_of | apply below_alloc_of))); (· exact hba2.size); (· rfl); (· (intro j u hu; simp at hu)); (· (have h7 := HN'.out; simp; omega)); (intro v5 w5 hown5 hb5 hg5; have hbc2 := hba2.trans hb5)) | ((refine step_intsG (b := w3.heap.size) (off := 0) (m := 1) (c := 1) (ys := [x]) rfl _ _ rfl w.heap.size ?_ w3 hown3 ?_ ?_ ?_ rfl ?_ ?_ ?_); (· rfl); (· (repeat (first | exact Below.refl _ _ | apply below_drew_of | apply below_alloc_of))); (· exact hba.size); (· rfl); (· (refine lit_cells ?_; simp)); (· (simp; have := HL1.out; simp at this; omega)); (intro v4 w4 hown4 hb4 hg4; have hba2 := hba.trans hb4)) | ((refine step_intsG (b := w.heap.size + 1) (off := 0) (m := 1) (c := 1) (ys := [x]) rfl _ _ rfl w.heap.size ?_ w3 hown3 ?_ ?_ ?_ rfl ?_ ?_ ?_); (· rfl); (· (repeat (first | exact Below.refl _ _ | apply below_drew_of | apply below_alloc_of))); (· exact hba.size); (· rfl); (· (refine lit_cells ?_; exact grown_cell hg3 (by simp) (by simp [Value.ownBlock]))); (· (simp; have := HL1.out; simp at this; omega)); (intro v4 w4 hown4 hb4 hg4; have hba2 := hba.trans hb4)) | ((refine step_intsG (b := w.heap.size) (off := 0) (m := 1) (c := 1) (ys := [x]) rfl _ _ rfl w.heap.size ?_ w3 hown3 ?_ ?_ ?_ rfl ?_ ?_ ?_); (· rfl); (· (repeat (first | exact Below.refl _ _ | apply below_drew_of | apply below_alloc_of))); (· exact hba.size); (· rfl); (· (refine lit_cells ?_; exact grown_cell hg3 (by simp) (by simp [Value.ownBlock]))); (· (simp; have := HL1.out; simp at this; omega)); (intro v4 w4 hown4 hb4 hg4; have hba2 := hba.trans hb4)) | ((refine step_intsG (b := g) (off := 0) (m := k) (c := cap) (ys := zs.take k) rfl _ _ rfl w.heap.size ?_ _ (OwnI.made w.heap.size w (Nat.le_refl _)) ?_ ?_ ?_ HL1.out ?_ ?_ ?_); (· rfl); (· (repeat (first | exact Below.refl _ _ | apply below_drew_of | apply below_alloc_of))); (· (first | (simp; done) | (simp; omega))); (· rfl); (· exact HC1.out _ (by (repeat (first | exact hbc2 | exact hba2 | exact hba | exact Below.refl _ _ | apply below_drew_of | apply below_alloc_of)))); (· (rw [HL1.out]; simp; omega)); (intro v3 w3 hown3 hb3 hg3; have hba := (show Below w.heap.size w _ from (by (repeat (first | exact hbc2 | exact hba2 | exact hba | exact Below.refl _ _ | apply below_drew_of | apply below_alloc_of)))).trans hb3)) | ((refine step_intsG (b := g) (off := 0) (m := k) (c := cap) (ys := zs.take k) rfl _ _ rfl w.heap.size ?_ _ (OwnI.made w.heap.size w.drew (Nat.le_refl _)) ?_ ?_ ?_ HL1.out ?_ ?_ ?_); (· rfl); (· (repeat (first | exact Below.refl _ _ | apply below_drew_of | apply below_alloc_of))); (· (first | (simp; done) | (simp; omega))); (· rfl); (· exact HC1.out _ (by (repeat (first | exact hbc2 | exact hba2 | exact hba | exact Below.refl _ _ | apply below_drew_of | apply below_alloc_of)))); (· (rw [HL1.out]; simp; omega)); (intro v3 w3 hown3 hb3 hg3; have hba := (show Below w.heap.size w _ from (by (repeat (first | exact hbc2 | exact hba2 | exact hba | exact Below.refl _ _ | apply below_drew_of | apply below_alloc_of)))).trans hb3)) | ((refine step_intsG (b := g) (off := 0) (m := k) (c := cap) (ys := zs.take k) rfl _ _ rfl w.heap.size ?_ _ (OwnI.made1 w.heap.size w (.cells #[.int .i64 x] 3) (Nat.le_refl _)) ?_ ?_ ?_ HL1.out ?_ ?_ ?_); (· rfl); (· (repeat (first | exact Below.refl _ _ | apply below_drew_of | apply below_alloc_of))); (· (first | (simp; done) | (simp; omega))); (· rfl); (· exact HC1.out _ (by (repeat (first | exact hbc2 | exact hba2 | exact hba | exact Below.refl _ _ | apply below_drew_of | apply below_alloc_of)))); (· (rw [HL1.out]; simp; omega)); (intro v3 w3 hown3 hb3 hg3; have hba := (show Below w.heap.size w _ from (by (repeat (first | exact hbc2 | exact hba2 | exact hba | exact Below.refl _ _ | apply below_drew_of | apply below_alloc_of)))).trans hb3)) | fail))
        all_goals go_wp2_with fail
        all_goals go_ret
        all_goals exact ⟨_, rfl, .inr ⟨by rw [HQ.out]; simpa using hown5, hbc2⟩⟩

end Go.Proofs.Ytlipmbcjpmbjnaa
