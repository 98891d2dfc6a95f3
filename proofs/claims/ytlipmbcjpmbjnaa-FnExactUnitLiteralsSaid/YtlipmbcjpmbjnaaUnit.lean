/- The contracts of the exported UnitLiterals. -/
import Derived.Test.YtlipmbcjpmbjnaaUnitPl
import Derived.Test.YtlipmbcjpmbjnaaGr
import Derived.Test.YtlipmbcjpmbjnaaSl
import Derived.Test.YtlipmbcjpmbjnaaValC
namespace Go.Proofs.Ytlipmbcjpmbjnaa
open Go.RowKit
set_option linter.unusedVariables false

theorem g_SortLits {lo hi : Nat} (v : Value) (zs : List Int) (w : World) (h : FInts lo hi w v zs) (hn : zs.length ≤ 1048576) :
    Calls Try.prog 56 #[v, .func (.func 57) #[] #[]] w fun e w' => e = .returned (.tuple #[]) ∧ FInts lo hi w' v (sortU zs) ∧ Chg lo hi w w' := by
  have eg := Go.Proofs.enters_of Try.func57 (by kernel_rfl) rfl
  obtain ⟨A, c, rfl, hc, hm, hown⟩ := h
  by_cases h0 : 0 < zs.length
  · obtain ⟨b, off, rfl, h1, h2, h3⟩ := hown (by simpa using h0)
    have hb : b < w.heap.size := World.block_lt_of_cell? _ _ (h3 0 _ (List.getElem?_eq_getElem (by simpa using h0))).1
    have hH : Sort.Holds (Value.int .i64) w b off zs.toArray := own_holds (lo := lo) (hi := hi) h3
    have hcm : CmpLays1 Try.prog 57 #[] (Value.int .i64) litC b off zs.toArray.size w := fun m os dk hs x y => (i_compareLiteralsG x y _).mono fun e w' ⟨he, q, os', hw⟩ => ⟨he, q, os', hw⟩
    refine (Try.slices_SortFunc_total_f56 (Value.int .i64) (fun _ => rfl) litC litLt_swo 57 #[] b off c zs.toArray w eg hcm hH hb (by simp; omega) litLt_tri).mono ?_
    rintro e w' ⟨rfl, n, os, rfl⟩
    have hH2 : Sort.Holds (Value.int .i64) (Sort.grow (Sort.putRow (Value.int .i64) (Sort.ahead w n) b off (sortU zs).toArray) os) b off (sortU zs).toArray :=
      Sort.holds_grow _ _ os b off _ (by simpa [Sort.putRow, Sort.mapBlock, Sort.ahead] using hb) (Sort.holds_putRow _ _ b off _ _ (Sort.holds_ahead _ w n b off _ hH) (by simp [sortU_len]))
    refine ⟨rfl, ⟨_, c, by rw [sortU_len], by rw [sortU_len]; exact hc, hm, fun _ => ⟨b, off, rfl, h1, h2, ?_⟩⟩, chg_row h1 h2⟩
    refine holds_own hH2 fun j x hj => ?_
    have hj' := (List.getElem?_eq_some_iff.1 hj).1
    refine ⟨by simpa using hj', ?_⟩
    simp [getElem!_pos, hj', (List.getElem?_eq_some_iff.1 hj).2]
  · obtain rfl : zs = [] := List.eq_nil_of_length_eq_zero (by omega)
    refine (Try.slices_SortFunc_none_f56 (α := Int) A c _ w).mono ?_
    rintro e w' ⟨rfl, rfl⟩
    exact ⟨rfl, by rw [show sortU ([] : List Int) = [] by simp [sortU]]; exact ⟨A, c, rfl, hc, hm, hown⟩, chg_refl _ _ _⟩

theorem i_openPart1 {hi : Nat} (x : Int) (va : Value) (a : List Int) (B : Nat) (w : World) (hc : w.cell? ⟨B, 0, none⟩ = some va) (h : Ints hi w va a) :
    Calls Try.prog 121 #[.int .i64 x, .pointer (some ⟨B, 0, none⟩)] w fun e w' => e = .returned (.bool (hasI a (wrap64 (-x)))) ∧ Below w.heap.size w w' := by
  obtain ⟨A, c, rfl, -⟩ := id h
  go_enter Try.func121, Try.ntmps121
  go_wp2_with (go_at_call 76; refine (g_Contains _ a _ _ h).mono ?_; rintro e w1 ⟨rfl, rfl⟩)
  go_ret
  exact ⟨rfl, Below.refl _ _⟩

set_option maxHeartbeats 400000 in
theorem i_openPart {hi hi' : Nat} (vs va : Value) (zs a : List Int) (w : World) (h : Ints hi w vs zs) (h2 : Ints hi' w va a) (hn : zs.length ≤ 1048576) :
    Calls Try.prog 92 #[vs, va] w fun e w' => ∃ v', e = .returned v' ∧ FInts w.heap.size w'.heap.size w' v' (leftL a zs) ∧ Below w.heap.size w w' := by
  have eg := Go.Proofs.enters_of Try.func121 (by kernel_rfl) rfl
  obtain ⟨Aa, ca, rfl, -⟩ := id h2
  have hal : Below w.heap.size w (w.alloc (.cells #[.slice Aa a.length ca] 26)) := (Below.refl w.heap.size w).alloc (Nat.le_refl _) _
  have h' := h.below hal
  have h2' := h2.top.below hal
  have hbox : (w.alloc (.cells #[.slice Aa a.length ca] 26)).cell? ⟨w.heap.size, 0, none⟩ = some (.slice Aa a.length ca) := by simp
  have HB := hide hbox
  clear hbox
  go_enter Try.func92, Try.ntmps92
  go_wp2_with fail
  refine (g_Clone _ _ _ h' (by omega)).mono ?_
  rintro e w1 ⟨v1, rfl, hown1, hb1⟩
  have hsz := hb1.size
  simp only [World.size_alloc] at hsz
  have hp : AnswersV Try.prog 121 #[.pointer (some ⟨w.heap.size, 0, none⟩)] zs (fun l => hasI a (wrap64 (-l))) (w.heap.size + 1) w1 := by
    intro x _ W hW
    have hc1 := below_old hb1 _ _ HB.out
    exact i_openPart1 x _ a w.heap.size W ((hW.cell (p := ⟨w.heap.size, 0, none⟩) (by simp)).trans hc1) ((h2'.below hb1).under hW (by omega))
  have HP := hide hp
  clear hp
  go_wp2_with fail
  refine (g_DeleteFunc (lo := w.heap.size + 1) (hi := w1.heap.size) _ _ _ zs _ w1 (hown1.fints.mono (by simp) (Nat.le_refl _)) (by omega) eg HP.out).mono ?_
  rintro e w2 ⟨v2, rfl, hf2, hb2⟩
  go_wp2_with fail
  go_ret
  have hsz2 := hb2.size
  have hb0 : Below w.heap.size w w1 := ((Below.refl _ _).alloc (Nat.le_refl _) _).trans (hb1.mono (by simp))
  exact ⟨_, rfl, hf2.mono (by omega) hsz2, hb0.trans (hb2.mono (by omega))⟩

theorem leftL_len (a c : List Int) : (leftL a c).length ≤ c.length := List.length_filter_le _ _

set_option maxHeartbeats 400000 in
theorem i_unit {hi hi' : Nat} (vc va : Value) (c a : List Int) (w : World) (h : Ints hi w vc c) (h2 : Ints hi' w va a) (hn : c.length ≤ 1048576) :
    Calls Try.prog 55 #[vc, va] w fun e w' => e = .returned (.int .i64 (unitL a c)) ∧ Below w.heap.size w w' := by
  obtain ⟨q, hq⟩ : ∃ q, valueI a (-1) c = q := ⟨_, rfl⟩
  have HV := hide (hq ▸ i_clauseValue vc va c a w h h2)
  have HO := hide (i_openPart vc va c a w h h2 hn)
  obtain ⟨Ac, cc, rfl, -⟩ := h
  obtain ⟨Aa, ca, rfl, -⟩ := h2
  by_cases h0 : q = 0
  · subst h0
    have HQ := hide hq
    clear hq
    by_cases h1 : (leftL a c).length = 1
    · obtain ⟨x, hx⟩ : ∃ x, leftL a c = [x] := by
        match hl : leftL a c, h1 with
        | [x], _ => exact ⟨x, rfl⟩
      have HF := hide (show unitL a c = x by unfold unitL; rw [if_pos HQ.out, if_pos h1, hx]; rfl)
      rw [hx] at HO
      clear h1 hx
      go_enter Try.func55, Try.ntmps55
      go_wp2_with fail
      refine HV.out.mono ?_
      rintro e w1 ⟨rfl, rfl⟩
      go_wp2_with fail
      refine HO.out.mono ?_
      rintro e w1 ⟨v1, rfl, ⟨A1, c1, rfl, hc1, hm1, hown⟩, hb1⟩
      obtain ⟨b, off, rfl, -, -, hcell⟩ := hown (by simp)
      have hc0 : w1.cell? ⟨b, off, none⟩ = some (.int .i64 x) := by simpa using (hcell 0 (.int .i64 x) (by simp)).1
      unfold maxLen at hm1
      simp only [List.length_cons, List.length_nil, Nat.zero_add] at hc1 ⊢
      clear hcell hown
      go_wp2_with fail
      go_ret
      exact ⟨by rw [HF.out]; rfl, hb1⟩
    · obtain ⟨L, hL⟩ : ∃ L, (leftL a c).length = L := ⟨_, rfl⟩
      have HF := hide (show unitL a c = 0 by unfold unitL; rw [if_pos HQ.out, if_neg h1])
      rw [hL] at h1
      have hne : ((L : Int) == 1) = false := by simp; omega
      have HL := hide hL
      clear hL
      go_enter Try.func55, Try.ntmps55
      go_wp2_with fail
      refine HV.out.mono ?_
      rintro e w1 ⟨rfl, rfl⟩
      go_wp2_with fail
      refine HO.out.mono ?_
      rintro e w1 ⟨v1, rfl, ⟨A1, c1, rfl, hc1, hm1, hown⟩, hb1⟩
      rw [HL.out]
      clear hc1 hown
      go_wp2_with fail
      go_ret
      exact ⟨by rw [HF.out]; rfl, hb1⟩
  · have HF := hide (show unitL a c = 0 by unfold unitL; rw [hq, if_neg h0])
    have hb' : (q != 0) = true := by simpa using h0
    clear hq
    go_enter Try.func55, Try.ntmps55
    go_wp2_with fail
    refine HV.out.mono ?_
    rintro e w1 ⟨rfl, rfl⟩
    go_wp2_with fail
    go_ret
    exact ⟨by rw [HF.out]; rfl, Below.refl _ _⟩

set_option maxHeartbeats 800000 in
theorem s_l3Left {hi hi' : Nat} (vc va : Value) (c a : List Int) (w : World) (h : Ints hi w vc c) (h2 : Ints hi' w va a) (hn : c.length ≤ 1048576) :
    Calls Try.prog 89 #[vc, va] w fun e w' => ∃ v', e = .returned v' ∧ OwnI w.heap.size w' v' (leftL a c) ∧ Below w.heap.size w w' := by
  obtain ⟨A, cp, rfl, hc, hm, hrow⟩ := h.top
  unfold maxLen at hm
  have hal : Below w.heap.size w (w.alloc (.cells #[] 3)) := (Below.refl _ _).alloc (Nat.le_refl _) _
  have hmade := OwnI.made w.heap.size w (Nat.le_refl _)
  have h2t := h2.top
  have HM := hide hmade
  have HAL := hide hal
  clear hmade hal h
  go_enter Try.func89, Try.ntmps89
  go_wp2_with fail
  go_loopw [5, 6] (fun q i wr => ∃ (k : Nat) (pre : List Int), k ≤ c.length ∧ i = .int .i64 k ∧ pre.length ≤ k ∧ Hid (leftL a c = pre ++ leftL a (c.drop k)) ∧ OwnI w.heap.size wr q pre ∧ Below w.heap.size w wr) (fun _ i _ => c.length - (intOf i).toNat)
  case atStart => exact ⟨0, [], Nat.zero_le _, rfl, Nat.le_refl _, rfl, HM.out, HAL.out⟩
  case round =>
    obtain ⟨k, pre, hk, rfl, hpl, hr, hown, hbel⟩ := hrel
    by_cases hlt : k < c.length
    · obtain ⟨b, off, y, rfl, hx, hcw⟩ := hrow.int hlt
      replace hcw := below_old hbel _ _ hcw
      have har := h2t.below hbel
      have hsz := hbel.size
      have HL := hide (show pre.length ≤ 1073741824 by omega)
      cases hb : hasI a (wrap64 (-y)) with
      | true =>
        have HF := hide (show leftL a c = pre ++ leftL a (c.drop (k + 1)) by rw [hr.out, hx]; simp [leftL, hb])
        clear hx hr
        go_wp2_with (go_at_call 73; refine (s_l2Has _ _ _ _ har).mono ?_; rintro e w1 ⟨rfl, rfl⟩)
        go_roundw
        case rel => exact ⟨k + 1, pre, by omega, by go_num, by omega, HF.out, hown, hbel⟩
        case measure => simp [intOf]; omega
      | false =>
        have HF := hide (show leftL a c = (pre ++ [y]) ++ leftL a (c.drop (k + 1)) by rw [hr.out, hx]; simp [leftL, hb])
        clear hx hr
        go_wp2_with (first | (go_at_call 73; refine (s_l2Has _ _ _ _ har).mono ?_; rintro e w1 ⟨rfl, rfl⟩) | (at_builtin; refine append_int rfl _ _ rfl w.heap.size rfl hown rfl HL.out hsz ?_; intro v1 w2 hown1 hb1))
        go_roundw
        case rel => exact ⟨k + 1, _, by omega, by go_num, by simp; omega, HF.out, hown1, hbel.trans hb1⟩
        case measure => simp [intOf]; omega
    · obtain rfl : k = c.length := by omega
      have HF := hide (show leftL a c = pre by rw [hr.out, List.drop_length]; simp [leftL])
      go_wp2_with fail
      go_ret
      exact ⟨_, rfl, by rw [HF.out]; exact hown, hbel⟩

set_option maxHeartbeats 400000 in
theorem s_l3Unit {hi hi' : Nat} (vc va : Value) (c a : List Int) (w : World) (h : Ints hi w vc c) (h2 : Ints hi' w va a) (hn : c.length ≤ 1048576) :
    Calls Try.prog 53 #[vc, va] w fun e w' => e = .returned (.int .i64 (unitL a c)) ∧ Below w.heap.size w w' := by
  obtain ⟨q, hq⟩ : ∃ q, valueI a (-1) c = q := ⟨_, rfl⟩
  have HO := hide (s_l3Left vc va c a w h h2 hn)
  have HV := hide (fun w1 (hb1 : Below w.heap.size w w1) => hq ▸ s_l3Value vc va c a w1 (h.below hb1) (h2.below hb1))
  obtain ⟨Ac, cc, rfl, -⟩ := h
  obtain ⟨Aa, ca, rfl, -⟩ := h2
  by_cases h0 : q = 0
  · subst h0
    have HQ := hide hq
    clear hq
    by_cases h1 : (leftL a c).length = 1
    · obtain ⟨x, hx⟩ : ∃ x, leftL a c = [x] := by
        match hl : leftL a c, h1 with
        | [x], _ => exact ⟨x, rfl⟩
      have HF := hide (show unitL a c = x by unfold unitL; rw [if_pos HQ.out, if_pos h1, hx]; rfl)
      rw [hx] at HO
      clear h1 hx
      go_enter Try.func53, Try.ntmps53
      go_wp2_with fail
      refine HO.out.mono ?_
      rintro e w1 ⟨v1, rfl, hown, hb1⟩
      obtain ⟨A1, c1, rfl, hc1, hm1, hrow1⟩ := hown.fints.ints
      obtain ⟨b, off, rfl, -, hcell⟩ := hrow1 (by simp)
      have hc0 : w1.cell? ⟨b, off, none⟩ = some (.int .i64 x) := by simpa using hcell 0 (.int .i64 x) (by simp)
      have HVV := hide (HV.out w1 hb1)
      unfold maxLen at hm1
      simp only [List.length_cons, List.length_nil, Nat.zero_add] at hc1 ⊢
      clear hcell hown hrow1
      go_wp2_with fail
      refine HVV.out.mono ?_
      rintro e w2 ⟨rfl, rfl⟩
      go_wp2_with fail
      go_ret
      exact ⟨by rw [HF.out]; rfl, hb1⟩
    · obtain ⟨L, hL⟩ : ∃ L, (leftL a c).length = L := ⟨_, rfl⟩
      have HF := hide (show unitL a c = 0 by unfold unitL; rw [if_pos HQ.out, if_neg h1])
      rw [hL] at h1
      have hne : ((L : Int) != 1) = true := by simp; omega
      have HL := hide hL
      clear hL
      go_enter Try.func53, Try.ntmps53
      go_wp2_with fail
      refine HO.out.mono ?_
      rintro e w1 ⟨v1, rfl, hown, hb1⟩
      obtain ⟨A1, c1, rfl, -⟩ := hown.fints.ints
      rw [HL.out]
      have HVV := hide (HV.out w1 hb1)
      clear hown
      go_wp2_with fail
      refine HVV.out.mono ?_
      rintro e w2 ⟨rfl, rfl⟩
      go_wp2_with fail
      go_ret
      exact ⟨by rw [HF.out]; rfl, hb1⟩
  · have HF := hide (show unitL a c = 0 by unfold unitL; rw [hq, if_neg h0])
    have hb' : (q != 0) = true := by simpa using h0
    clear hq
    go_enter Try.func53, Try.ntmps53
    go_wp2_with fail
    refine HO.out.mono ?_
    rintro e w1 ⟨v1, rfl, hown, hb1⟩
    obtain ⟨A1, c1, rfl, -⟩ := hown.fints.ints
    have HVV := hide (HV.out w1 hb1)
    clear hown
    go_wp2_with fail
    refine HVV.out.mono ?_
    rintro e w2 ⟨rfl, rfl⟩
    go_wp2_with fail
    go_ret
    exact ⟨by rw [HF.out]; rfl, hb1⟩

set_option maxHeartbeats 1600000 in
theorem I_UnitLiterals {hi hi' : Nat} (v : Value) (f : CnfL) (va : Value) (a : List Int) (r0 : List Int) (r1 : Bool) (w : World) (h : RCnf hi w v f) (h2 : Ints hi' w va a) (hn0 : szC f ≤ 1048576) (hn1 : a.length ≤ 1048576) (hR : fUnitLiterals f a = (r0, r1)) :
    Calls Try.prog 30 #[v, va] w fun e w' => ∃ v', e = .returned (.tuple #[v', .bool r1]) ∧ FInts w.heap.size w'.heap.size w' v' r0 ∧ Below w.heap.size w w' := by
  obtain ⟨A, n, c, rfl, ht⟩ := h.open2
  obtain ⟨vars, t⟩ := f
  dsimp only at ht ⊢
  obtain ⟨Aa, ca, rfl, -⟩ := id h2
  obtain ⟨wb, hwb⟩ : ∃ wb, wb = w.alloc (.cells #[.int .i64 vars, .slice A n c] 29) := ⟨_, rfl⟩
  have hal : Below w.heap.size w wb := by rw [hwb]; exact (Below.refl _ _).alloc (Nat.le_refl _) _
  have x00 : wb.cell? ⟨w.heap.size, 0, none⟩ = some (.int .i64 vars) := by rw [hwb]; simp
  have x01 : wb.cell? ⟨w.heap.size, 1, none⟩ = some (.slice A n c) := by rw [hwb]; simp
  have htb := ht.top.below hal
  have hab := h2.top.below hal
  have HWB := hide hwb
  clear hwb
  cases hg : goodB (vars, t) with
  | false =>
    obtain ⟨rfl, rfl⟩ : r0 = [] ∧ r1 = false := by simpa [fUnitLiterals, hg, eq_comm] using hR
    clear hR
    go_enter Try.func30, Try.ntmps30
    go_wp2_with fail
    rw [← HWB.out]
    refine (i_IsCnf _ (vars, t) _ ⟨_, rfl, htb⟩).mono ?_
    rintro e w1 ⟨rfl, hb1⟩
    rw [hg]
    go_wp2_with fail
    go_ret2
    exact ⟨_, rfl, FInts.nil _ _ _, hal.trans (hb1.mono hal.size)⟩
  | true =>
    cases hca : clauseB vars a with
    | false =>
      obtain ⟨rfl, rfl⟩ : r0 = [] ∧ r1 = false := by simpa [fUnitLiterals, hg, hca, eq_comm] using hR
      clear hR
      go_enter Try.func30, Try.ntmps30
      go_wp2_with fail
      rw [← HWB.out]
      refine (i_IsCnf _ (vars, t) _ ⟨_, rfl, htb⟩).mono ?_
      rintro e w1 ⟨rfl, hb1⟩
      rw [hg]
      have y00 := below_old hb1 _ _ x00
      have HA := hide (i_IsAssignment vars _ a w1 (hab.below hb1))
      go_wp2_with fail
      refine HA.out.mono ?_
      rintro e w2 ⟨rfl, hb2⟩
      rw [hca]
      go_wp2_with fail
      go_ret2
      have hal1 := hal.trans (hb1.mono hal.size)
      exact ⟨_, rfl, FInts.nil _ _ _, hal1.trans (hb2.below _)⟩
    | true =>
      have HN := hide (show t.length ≤ 60 from goodB_len hg)
      have HCL := hide (show ∀ z ∈ t, z.length ≤ 12 from fun z hz => clauseB_len ((goodB_parts hg).2.2 z hz))
      obtain ⟨hr0, rfl⟩ : r0 = Lib.compact (sortU (unitsL a t)) ∧ r1 = true := by
        simp only [fUnitLiterals, hg, hca, Bool.and_self, if_true] at hR
        injection hR with h1 h2
        exact ⟨h1.symm, h2.symm⟩
      have HR := hide hr0
      clear hR hr0
      go_enter Try.func30, Try.ntmps30
      go_wp2_with fail
      rw [← HWB.out]
      refine (i_IsCnf _ (vars, t) _ ⟨_, rfl, htb⟩).mono ?_
      rintro e w1 ⟨rfl, hb1⟩
      rw [hg]
      replace x00 := below_old hb1 _ _ x00
      replace x01 := below_old hb1 _ _ x01
      have HA := hide (i_IsAssignment vars _ a w1 (hab.below hb1))
      have hal1 := hal.trans (hb1.mono hal.size)
      have htb1 := htb.below hb1
      have hab1 := hab.below hb1
      clear htb hab
      go_wp2_with fail
      refine HA.out.mono ?_
      rintro e w2 ⟨rfl, hb2⟩
      rw [hca]
      have hq2 := hb2.below w1.heap.size
      replace x00 := below_old hq2 _ _ x00
      replace x01 := below_old hq2 _ _ x01
      have hal2 := hal1.trans (hb2.below _)
      obtain ⟨A', c', ps, e', hc, hm, rfl, hrow, hps⟩ := (htb1.below hq2).open_
      injection e' with e1 e2 e3
      subst e1 e2 e3
      unfold maxLen at hm
      have HPS := hide hps
      have HAB := hide (hab1.below hq2)
      clear hps htb1 hab1
      go_wp2_with fail
      go_loopw [6, 23] (fun q i wr => ∃ (k : Nat) (pre : List Int), k ≤ ps.length ∧ i = .int .i64 k ∧ pre.length ≤ k ∧ Hid (unitsL a (ps.map (·.2)) = pre ++ unitsL a ((ps.drop k).map (·.2))) ∧ OwnI w2.heap.size wr q pre ∧ Below w2.heap.size w2 wr) (fun _ i _ => ps.length - (intOf i).toNat)
      case atStart => exact ⟨0, [], Nat.zero_le _, rfl, Nat.le_refl _, rfl, OwnI.nil _ _, Below.refl _ _⟩
      case round =>
        obtain ⟨k, pre, hk, rfl, hpl, hr, hown, hbel⟩ := hrel
        have hsr := hbel.size
        by_cases hlt : k < ps.length
        · obtain ⟨b, off, u, z, rfl, hx, hcw, hz⟩ := hrow.tab HPS.out hlt
          replace hcw := below_old hbel _ _ hcw
          obtain ⟨Az, cz, rfl, -⟩ := id hz
          have hzl := HCL.out z (by
            have : z ∈ (ps.drop k).map (·.2) := by rw [hx]; simp
            obtain ⟨p, hp, rfl⟩ := List.mem_map.1 this
            exact List.mem_map.2 ⟨p, List.mem_of_mem_drop hp, rfl⟩)
          obtain ⟨q, hq⟩ : ∃ q, unitL a z = q := ⟨_, rfl⟩
          have HU := hide (hq ▸ i_unit (.slice Az z.length cz) _ z a wr (hz.below hbel) (HAB.out.below hbel) (by omega))
          have HL := hide (show pre.length ≤ 1000 by have := HN.out; simp at this; omega)
          have HO := hide hown
          by_cases h0 : q = 0
          · have HF := hide (show unitsL a (ps.map (·.2)) = pre ++ unitsL a ((ps.drop (k + 1)).map (·.2)) by rw [hr.out, hx]; simp [unitsL, hq, h0])
            subst h0
            clear hx hr hq hz hown
            go_wp2_with fail
            refine HU.out.mono ?_
            rintro e w3 ⟨rfl, hb3⟩
            go_wp2_with fail
            go_roundw
            case rel => exact ⟨k + 1, pre, by omega, by go_num, by omega, HF.out, HO.out.below hb3, hbel.trans (hb3.mono hsr)⟩
            case measure => simp [intOf]; omega
          · have HF := hide (show unitsL a (ps.map (·.2)) = (pre ++ [q]) ++ unitsL a ((ps.drop (k + 1)).map (·.2)) by rw [hr.out, hx]; simp [unitsL, hq, h0])
            have hb' : (q != 0) = true := by simpa using h0
            clear hx hr hq hz hown
            go_wp2_with fail
            refine HU.out.mono ?_
            rintro e w3 ⟨rfl, hb3⟩
            have ho3 := HO.out.below hb3
            have hs3 := Nat.le_trans hsr hb3.size
            have hbl3 := hbel.trans (hb3.mono hsr)
            go_wp2_with (at_builtin; refine append_int rfl _ _ rfl w2.heap.size rfl ho3 rfl (by have := HL.out; omega) hs3 ?_; intro v4 w4 hown4 hb4)
            go_roundw
            case rel => exact ⟨k + 1, _, by omega, by go_num, by simp; omega, HF.out, hown4, hbl3.trans hb4⟩
            case measure => simp [intOf]; omega
        · obtain rfl : k = ps.length := by omega
          have HF := hide (show unitsL a (ps.map (·.2)) = pre by rw [hr.out, List.drop_length]; simp [unitsL])
          have HL := hide (show pre.length ≤ 1000 by have := HN.out; simp at this; omega)
          have HS := hide (g_SortLits _ pre wr hown.fints (by have := HL.out; omega))
          have HB := hide hbel
          clear hr hown hbel
          go_wp2_with fail
          refine HS.out.mono ?_
          rintro e w3 ⟨rfl, hf1, hc1⟩
          have HC := hide (g_Compact _ _ w3 hf1 (by rw [sortU_len]; have := HL.out; omega))
          have HC1 := hide hc1
          clear hf1 hc1
          go_wp2_with fail
          refine HC.out.mono ?_
          rintro e w4 ⟨v4, rfl, hf4, hc4⟩
          have hcc := HC1.out.trans hc4
          go_wp2_with fail
          go_ret2
          have hbf := below_chg HB.out hcc (Nat.le_refl _) (Nat.le_refl _)
          refine ⟨_, rfl, ?_, hal2.trans (hbf.mono hal2.size)⟩
          rw [HR.out, HF.out]
          exact hf4.mono hal2.size hcc.size

end Go.Proofs.Ytlipmbcjpmbjnaa
