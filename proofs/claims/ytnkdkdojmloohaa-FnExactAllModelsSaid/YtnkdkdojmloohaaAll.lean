/- The walks: all models. -/
import Derived.Test.YtnkdkdojmloohaaTopC
namespace Go.Proofs.Ytnkdkdojmloohaa
open Go.RowKit
set_option linter.unusedVariables false

theorem fAllModels_len {f : CnfL} {r0 : List Int} {r1 : Bool} (hn : szC f ≤ 1048576) (hR : fAllModels f = (r0, r1)) : r0.length ≤ 1048576 := by
  unfold fAllModels at hR
  split at hR
  · split at hR
    · rename_i h1 h2
      injection hR with h3 h4
      rw [← h3]
      simp at h2 ⊢
      omega
    · injection hR with h3 h4
      rw [← h3]; simp
  · injection hR with h3 h4
    rw [← h3]; simp

set_option maxHeartbeats 800000 in
theorem S_AllModels {hi : Nat} (v : Value) (f : CnfL) (r0 : List Int) (r1 : Bool) (w : World) (h : RCnf hi w v f) (hn0 : szC f ≤ 1048576) (hR : fAllModels f = (r0, r1)) :
    Calls Try.prog 42 #[v] w fun e w' => ∃ v', e = .returned (.tuple #[v', .bool r1]) ∧ FInts w.heap.size w'.heap.size w' v' r0 ∧ Below w.heap.size w w' := by
  obtain ⟨A, m, c, rfl, ht⟩ := h.open2
  obtain ⟨vars, t⟩ := f
  dsimp only at ht ⊢
  obtain ⟨wa, hwa⟩ : ∃ wa, wa = w.alloc (.cells #[.int .i64 vars, .slice A m c] 27) := ⟨_, rfl⟩
  have hala : Below w.heap.size w wa := by rw [hwa]; exact (Below.refl _ _).alloc (Nat.le_refl _) _
  have hsa : w.heap.size + 1 = wa.heap.size := by rw [hwa]; simp
  have x00 : wa.cell? ⟨w.heap.size, 0, none⟩ = some (.int .i64 vars) := by rw [hwa]; simp
  have x01 : wa.cell? ⟨w.heap.size, 1, none⟩ = some (.slice A m c) := by rw [hwa]; simp
  obtain ⟨wb, hwb⟩ : ∃ wb, wb = wa.alloc (.cells #[] 3) := ⟨_, rfl⟩
  have halb : Below wa.heap.size wa wb := by rw [hwb]; exact (Below.refl _ _).alloc (Nat.le_refl _) _
  have hown : OwnI (w.heap.size + 1) wb (.slice (some ⟨w.heap.size + 1, 0, none⟩) 0 0) [] := by rw [hwb, hsa]; exact OwnI.made _ _ (by omega)
  replace x00 := below_old halb _ _ x00
  replace x01 := below_old halb _ _ x01
  have tb := (ht.top.below hala).below halb
  have hal := hala.trans (halb.mono (by omega))
  have hsb : w.heap.size + 1 ≤ wb.heap.size := by rw [hsa]; exact halb.size
  have HWB := hide (show wb = (w.alloc (.cells #[.int .i64 vars, .slice A m c] 27)).alloc (.cells #[] 3) by rw [hwb, hwa])
  clear hwb hwa halb hala hsa
  cases hg : goodB (vars, t) with
  | false =>
    obtain ⟨rfl, rfl⟩ : r0 = [] ∧ r1 = false := by simpa [fAllModels, hg, eq_comm] using hR
    clear hR
    go_enter Try.func42, Try.ntmps42
    go_wp2_with fail
    rw [← HWB.out]
    refine (s_l2Good _ (vars, t) _ ⟨_, rfl, tb⟩).mono ?_
    rintro e w1 ⟨rfl, hb1⟩
    replace hown := hown.below hb1
    go_wp2_with fail
    go_ret2
    exact ⟨_, rfl, hown.fints.mono (by omega) (Nat.le_refl _), hal.trans (hb1.mono hal.size)⟩
  | true =>
    have HS := hide (goodB_small hg)
    obtain ⟨n, hv, hn⟩ := varsB_nat (goodB_parts hg).1
    dsimp only at HS hv
    subst hv
    obtain ⟨N, hN, hNe, hN1, hN2⟩ := pow_nat hn
    have HM := hide (show modelsF ((n : Int), t) = modelsL t (rangeFrom 0 N) by unfold modelsF; rw [hNe]; simp)
    clear hNe
    by_cases h300 : (modelsF ((n : Int), t)).length ≤ 300
    · obtain ⟨hr0, rfl⟩ : r0 = ((modelsF ((n : Int), t)).map fun (k : Nat) => (k : Int)) ∧ r1 = true := by simpa [fAllModels, hg, h300, eq_comm] using hR
      have HR := hide hr0
      clear hR hr0
      obtain ⟨M, hM⟩ : ∃ M, (modelsF ((n : Int), t)).length = M := ⟨_, rfl⟩
      rw [hM] at h300
      go_enter Try.func42, Try.ntmps42
      go_wp2_with fail
      rw [← HWB.out]
      refine (s_l2Good _ ((n : Int), t) _ ⟨_, rfl, tb⟩).mono ?_
      rintro e w1 ⟨rfl, hb1⟩
      replace hown := hown.below hb1
      replace x00 := below_old hb1 _ _ x00
      replace x01 := below_old hb1 _ _ x01
      replace tb := tb.below hb1
      replace hal := hal.trans (hb1.mono hal.size)
      replace hsb := Nat.le_trans hsb hb1.size
      clear hb1
      go_wp2_with (go_at_call 62; refine (s_l5Models _ ((n : Int), t) _ ⟨_, rfl, tb⟩ hg).mono ?_; rintro e w2 ⟨rfl, hb2⟩; rw [hM]; replace hown := hown.below hb2; replace x00 := below_old hb2 _ _ x00; replace x01 := below_old hb2 _ _ x01; replace tb := tb.below hb2; replace hal := hal.trans (hb2.mono hal.size); replace hsb := Nat.le_trans hsb hb2.size)
      have HO := hide hown
      clear hown hb2 hM
      go_loopw [4, 5] (fun q i wr => ∃ (k : Nat) (pre : List Nat), k ≤ N ∧ i = .int .i64 k ∧ pre.length ≤ k ∧ Hid (modelsL t (rangeFrom 0 N) = pre ++ modelsL t (rangeFrom k N)) ∧ OwnI (w.heap.size + 1) wr q (pre.map fun (k : Nat) => (k : Int)) ∧ Below (w.heap.size + 1) w2 wr ∧ w.heap.size + 1 ≤ wr.heap.size) (fun _ i _ => N - (intOf i).toNat)
      case atStart => exact ⟨0, [], by omega, rfl, by simp, rfl, HO.out, Below.refl _ _, hsb⟩
      case round =>
        obtain ⟨k, pre, hk, rfl, hpl, hr, hown, hq, hsz⟩ := hrel
        have y00 := (hq.cell (p := ⟨w.heap.size, 0, none⟩) (by simp)).trans x00
        have y01 := (hq.cell (p := ⟨w.heap.size, 1, none⟩) (by simp)).trans x01
        have tr := tb.under hq (by omega)
        by_cases hlt : k < N
        · cases hb : allB (k : Int) t with
          | true =>
            have HF := hide (show modelsL t (rangeFrom 0 N) = (pre ++ [k]) ++ modelsL t (rangeFrom (k + 1) N) by rw [hr.out, rangeFrom_lt hlt, modelsL_yes hb]; simp)
            have HL := hide (show (pre.map fun (k : Nat) => (k : Int)).length ≤ 4096 by simp; omega)
            go_wp2_with (first | (go_at_call 59; refine (s_l5All _ t _ _ tr HS.out (by omega)).mono ?_; rintro e w3 ⟨rfl, hq3⟩; replace hown := hown.below (hq3.below _); replace hsz := Nat.le_trans hsz (hq3.below 0).size) | (at_builtin; refine append_int rfl _ _ rfl (w.heap.size + 1) rfl hown rfl (by have := HL.out; omega) hsz ?_; intro v1 w4 hown1 hb4))
            go_roundw
            case rel => exact ⟨k + 1, pre ++ [k], by omega, by go_num, by simp; omega, HF.out, by simpa using hown1, (hq.trans (hq3.below _)).trans hb4, by have := hb4.size; omega⟩
            case measure => simp [intOf]; omega
          | false =>
            have HF := hide (show modelsL t (rangeFrom 0 N) = pre ++ modelsL t (rangeFrom (k + 1) N) by rw [hr.out, rangeFrom_lt hlt, modelsL_no hb])
            go_wp2_with (go_at_call 59; refine (s_l5All _ t _ _ tr HS.out (by omega)).mono ?_; rintro e w3 ⟨rfl, hq3⟩)
            go_roundw
            case rel => exact ⟨k + 1, pre, by omega, by go_num, by omega, HF.out, hown.below (hq3.below _), hq.trans (hq3.below _), Nat.le_trans hsz (hq3.below 0).size⟩
            case measure => simp [intOf]; omega
        · obtain rfl : k = N := by omega
          have HF := hide (show pre = modelsF ((n : Int), t) by rw [HM.out, hr.out, rangeFrom_end]; simp [modelsL])
          go_wp2_with fail
          go_ret2
          exact ⟨_, rfl, by rw [HR.out, ← HF.out]; exact hown.fints.mono (by omega) (Nat.le_refl _), hal.trans (hq.mono (by omega))⟩
    · obtain ⟨rfl, rfl⟩ : r0 = [] ∧ r1 = false := by simpa [fAllModels, hg, h300, eq_comm] using hR
      clear hR
      obtain ⟨M, hM⟩ : ∃ M, (modelsF ((n : Int), t)).length = M := ⟨_, rfl⟩
      rw [hM] at h300
      go_enter Try.func42, Try.ntmps42
      go_wp2_with fail
      rw [← HWB.out]
      refine (s_l2Good _ ((n : Int), t) _ ⟨_, rfl, tb⟩).mono ?_
      rintro e w1 ⟨rfl, hb1⟩
      replace hown := hown.below hb1
      replace x00 := below_old hb1 _ _ x00
      replace x01 := below_old hb1 _ _ x01
      replace tb := tb.below hb1
      replace hal := hal.trans (hb1.mono hal.size)
      replace hsb := Nat.le_trans hsb hb1.size
      clear hb1
      go_wp2_with (go_at_call 62; refine (s_l5Models _ ((n : Int), t) _ ⟨_, rfl, tb⟩ hg).mono ?_; rintro e w2 ⟨rfl, hb2⟩; rw [hM]; replace hown := hown.below hb2; replace hal := hal.trans (hb2.mono hal.size))
      go_ret2
      exact ⟨_, rfl, hown.fints.mono (by omega) (Nat.le_refl _), hal⟩

theorem Cap.under_ {w1 : World} {cb base : Nat} {T : TypeId} {o : Obj} {x : Value} {W W' : World} (h : Cap w1 cb T o x W) (hb : Below base W W') (hl : w1.heap.size < base) : Cap w1 cb T o x W' := by
  obtain ⟨h1, h2, h3, h4⟩ := h
  exact ⟨(hb.block _ (by omega)).trans h1, h2.trans (hb.mono (by omega)), (hb.block _ hl).trans h3, h4⟩

set_option maxHeartbeats 400000 in
theorem i_all1 {base : Nat} (b : Int) (B : Nat) (x : Value) (s : List Int) (w : World) (hc : w.cell? ⟨B, 0, none⟩ = some x) (hf : w.frozen? ⟨B, 0, none⟩ = false) (hown : OwnI base w x s) (hn : s.length ≤ 4096) (hb : base ≤ w.heap.size) (hB : B < base) :
    Calls Try.prog 81 #[.int .i64 b, .pointer (some ⟨B, 0, none⟩)] w fun e w' => e = .returned (.bool (decide (s.length + 1 ≤ 300))) ∧ ∃ v1 w1, OwnI base w1 v1 (s ++ [b]) ∧ Below base w w1 ∧ w1.setCell ⟨B, 0, none⟩ v1 = w' := by
  obtain ⟨A0, c0, rfl, -⟩ := id hown.fints
  by_cases h300 : s.length + 1 ≤ 300
  · go_enter Try.func81, Try.ntmps81
    go_wp2_with (at_builtin; refine append_int rfl _ _ rfl base rfl hown rfl (by omega) hb ?_; intro v1 w1 hown1 hb1; obtain ⟨A1, c1, rfl, -⟩ := id hown1.fints; have hc1 := (hb1.cell (p := ⟨B, 0, none⟩) hB).trans hc; have hf1 := (hb1.frozen (p := ⟨B, 0, none⟩) hB).trans hf)
    go_ret
    exact ⟨ret_bool (by simp; omega), _, _, hown1, hb1, by simp⟩
  · go_enter Try.func81, Try.ntmps81
    go_wp2_with (at_builtin; refine append_int rfl _ _ rfl base rfl hown rfl (by omega) hb ?_; intro v1 w1 hown1 hb1; obtain ⟨A1, c1, rfl, -⟩ := id hown1.fints; have hc1 := (hb1.cell (p := ⟨B, 0, none⟩) hB).trans hc; have hf1 := (hb1.frozen (p := ⟨B, 0, none⟩) hB).trans hf)
    go_ret
    exact ⟨ret_bool (by simp; omega), _, _, hown1, hb1, by simp⟩

set_option maxRecDepth 100000 in
set_option maxHeartbeats 800000 in
theorem I_AllModels {hi : Nat} (v : Value) (f : CnfL) (r0 : List Int) (r1 : Bool) (w : World) (h : RCnf hi w v f) (hn0 : szC f ≤ 1048576) (hR : fAllModels f = (r0, r1)) :
    Calls Try.prog 43 #[v] w fun e w' => ∃ v', e = .returned (.tuple #[v', .bool r1]) ∧ FInts w.heap.size w'.heap.size w' v' r0 ∧ Below w.heap.size w w' := by
  have eg := Go.Proofs.enters_of Try.func81 (by kernel_rfl) rfl
  obtain ⟨A, m, c, rfl, ht⟩ := h.open2
  obtain ⟨vars, t⟩ := f
  dsimp only at ht ⊢
  have hal : Below w.heap.size w (w.alloc (.cells #[.int .i64 vars, .slice A m c] 27)) := (Below.refl _ _).alloc (Nat.le_refl _) _
  have htb := ht.top.below hal
  cases hg : goodB (vars, t) with
  | false =>
    obtain ⟨rfl, rfl⟩ : r0 = [] ∧ r1 = false := by simpa [fAllModels, hg, eq_comm] using hR
    clear hR
    go_enter Try.func43, Try.ntmps43
    go_wp2_with (go_at_call 18; refine (i_IsCnf _ (vars, t) _ ⟨_, rfl, htb⟩).mono ?_; rintro e w1 ⟨rfl, hb1⟩)
    go_ret2
    exact ⟨_, rfl, (OwnI.nil w.heap.size w1).fints, (box2 hb1).2.2.1⟩
  | true =>
    have HS := hide (goodB_small hg)
    obtain ⟨n, hv, hn⟩ := varsB_nat (goodB_parts hg).1
    dsimp only at HS hv
    subst hv
    have HM := hide (show modelsF ((n : Int), t) = modelsL t (rangeFrom 0 (2 ^ n)) by unfold modelsF; simp)
    have HR := hide hR
    clear hR
    go_enter Try.func43, Try.ntmps43
    go_wp2_with (go_at_call 18; refine (i_IsCnf _ ((n : Int), t) _ ⟨_, rfl, htb⟩).mono ?_; rintro e w1 ⟨rfl, hb1⟩; obtain ⟨c0, c1, hbw, hsz⟩ := box2 hb1; have ht1 := htb.below hb1; have hne : ¬(w.heap.size = w1.heap.size) := (by omega); have hal1 : Below w1.heap.size w1 (w1.alloc (.cells #[.slice none 0 0] 31)) := (Below.refl w1.heap.size w1).alloc (Nat.le_refl _) _; have c0a := below_old hal1 _ _ c0; have c1a := below_old hal1 _ _ c1)
    obtain ⟨wa, hwa⟩ : ∃ wa, wa = w1.alloc (.cells #[.slice none 0 0] 31) := ⟨_, rfl⟩
    have hblk : Blk wa w1.heap.size 31 #[.slice none 0 0] := by rw [hwa]; exact Blk.new w1 31 #[.slice none 0 0]
    have hba : Below w1.heap.size w1 wa := by rw [hwa]; exact (Below.refl w1.heap.size w1).alloc (Nat.le_refl _) (.cells #[.slice none 0 0] 31)
    have hsa : w1.heap.size + 1 = wa.heap.size := by rw [hwa]; simp
    have ht2 := ht1.below hba
    rw [← hwa]
    clear hal1 c0a c1a hwa
    have hI0 : ([] : List Int).length ≤ 0 ∧ wa.heap.size + 1 ≤ (wa.alloc (.cells #[.int .i64 n, .slice A m c] 27)).heap.size ∧ ∃ x, Cap wa w1.heap.size 31 (.cells #[.int .i64 n, .slice A m c] 27) x (wa.alloc (.cells #[.int .i64 n, .slice A m c] 27)) ∧ OwnI (wa.heap.size + 1) (wa.alloc (.cells #[.int .i64 n, .slice A m c] 27)) x [] := ⟨by simp, by simp, _, Cap.start hblk, OwnI.nil _ _⟩
    have hp : ∀ (k : Nat) (s : List Int) W, (s.length ≤ k ∧ wa.heap.size + 1 ≤ W.heap.size ∧ ∃ x, Cap wa w1.heap.size 31 (.cells #[.int .i64 n, .slice A m c] 27) x W ∧ OwnI (wa.heap.size + 1) W x s) → W.cell? ⟨wa.heap.size, 0, none⟩ = some (.int .i64 n) ∧ W.cell? ⟨wa.heap.size, 1, none⟩ = some (.slice A m c) ∧ Tab w.heap.size W (.slice A m c) t := (fun k s W ⟨_, _, x, h, _⟩ => ⟨h.box0, h.box1, ht2.under h.2.1 (by omega)⟩)
    have hstab : ∀ (k : Nat) (s : List Int) W W', (s.length ≤ k ∧ wa.heap.size + 1 ≤ W.heap.size ∧ ∃ x, Cap wa w1.heap.size 31 (.cells #[.int .i64 n, .slice A m c] 27) x W ∧ OwnI (wa.heap.size + 1) W x s) → Below W.heap.size W W' → (s.length ≤ k ∧ wa.heap.size + 1 ≤ W'.heap.size ∧ ∃ x, Cap wa w1.heap.size 31 (.cells #[.int .i64 n, .slice A m c] 27) x W' ∧ OwnI (wa.heap.size + 1) W' x s) := (fun k s W W' ⟨h1, h2, x, h3, h4⟩ hb => ⟨h1, Nat.le_trans h2 hb.size, x, h3.stab hb, h4.below hb⟩)
    have hst : ∀ (s : List Int) W (b : Nat), (s.length ≤ b ∧ wa.heap.size + 1 ≤ W.heap.size ∧ ∃ x, Cap wa w1.heap.size 31 (.cells #[.int .i64 n, .slice A m c] 27) x W ∧ OwnI (wa.heap.size + 1) W x s) → b ≤ 4096 → Calls Try.prog 81 (#[.int .i64 b] ++ #[.pointer (some ⟨w1.heap.size, 0, none⟩)]) W fun e w' => e = .returned (.bool (decide (s.length + 1 ≤ 300))) ∧ ((s ++ [(b : Int)]).length ≤ b + 1 ∧ wa.heap.size + 1 ≤ w'.heap.size ∧ ∃ x, Cap wa w1.heap.size 31 (.cells #[.int .i64 n, .slice A m c] 27) x w' ∧ OwnI (wa.heap.size + 1) w' x (s ++ [(b : Int)])) := by
      rintro s W b ⟨h1, h2, x, h3, h4⟩ hb4
      refine (i_all1 b w1.heap.size x s W h3.cell h3.frozen h4 (by omega) h2 (by omega)).mono ?_
      rintro e w' ⟨he, v1, w2, hown, hbel, hw⟩
      refine ⟨he, by simp; omega, ?_, v1, ?_, ?_⟩
      · rw [← hw]; have := hbel.size; simp [World.setCell]; omega
      · rw [← hw]; exact (h3.under_ hbel (by omega)).set_ _
      · rw [← hw]; exact ownsRow_setCell_below hown (by simp; omega) _
    have key := i_models (.slice A m c) n t 81 #[.pointer (some ⟨w1.heap.size, 0, none⟩)] wa ([] : List Int) (fun (k : Nat) (s : List Int) W => s.length ≤ k ∧ wa.heap.size + 1 ≤ W.heap.size ∧ ∃ x, Cap wa w1.heap.size 31 (.cells #[.int .i64 n, .slice A m c] 27) x W ∧ OwnI (wa.heap.size + 1) W x s) (fun s b => s ++ [(b : Int)]) (fun s _ => decide (s.length + 1 ≤ 300)) hn HS.out eg hI0 hp hstab (fun k s W h => ⟨Nat.le_succ_of_le h.1, h.2⟩) hst
    refine key.mono ?_
    rintro e w2 ⟨rfl, _, hI⟩
    rw [runM_all _ _ _ (by simp), ← HM.out, List.nil_append] at hI
    obtain ⟨-, -, x, hcap, hown⟩ := hI
    have hbel := hbw.trans ((hba.trans hcap.2.1).mono (by omega))
    have hc := hcap.cell
    obtain ⟨ms, hms⟩ : ∃ ms, (modelsF ((n : Int), t)).map (fun (k : Nat) => (k : Int)) = ms := ⟨_, rfl⟩
    have hml : (modelsF ((n : Int), t)).length = ms.length := by rw [← hms]; simp
    have hR := HR.out
    simp only [fAllModels, hg, if_true, hms, hml] at hR
    rw [hms] at hown
    clear key hst hp hI0 hstab HM hml hms HR hcap
    by_cases h300 : ms.length ≤ 300
    · rw [List.take_of_length_le (by omega)] at hown
      obtain ⟨rfl, rfl⟩ : r0 = ms ∧ r1 = true := by simpa [h300, eq_comm] using hR
      clear hR
      obtain ⟨A1, c1', rfl, -⟩ := id hown.fints
      obtain ⟨L, hL⟩ : ∃ L, r0.length = L := ⟨_, rfl⟩
      rw [hL] at h300 hc
      go_wp2_with fail
      go_ret2
      exact ⟨_, rfl, by rw [← hL]; exact hown.fints.mono (by omega) (Nat.le_refl _), hbel⟩
    · obtain ⟨rfl, rfl⟩ : r0 = [] ∧ r1 = false := by simpa [h300, eq_comm] using hR
      clear hR
      obtain ⟨A1, c1', rfl, -⟩ := id hown.fints
      have hL : (ms.take 301).length = 301 := by simp; omega
      rw [hL] at hc
      go_wp2_with fail
      go_ret2
      exact ⟨_, rfl, (OwnI.nil w.heap.size w2).fints, hbel⟩

end Go.Proofs.Ytnkdkdojmloohaa
