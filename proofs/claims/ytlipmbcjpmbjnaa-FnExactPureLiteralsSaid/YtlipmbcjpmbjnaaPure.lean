/- The contracts of the exported PureLiterals. -/
import Derived.Test.YtlipmbcjpmbjnaaPurePl
import Derived.Deep.RegionHeld3
namespace Go.Proofs.Ytlipmbcjpmbjnaa
open Go.RowKit
set_option linter.unusedVariables false

theorem i_occurs1 {hi : Nat} (v : Value) (zs : List Int) (l : Int) (B : Nat) (w : World) (hc : w.cell? ⟨B, 0, none⟩ = some (.int .i64 l)) (h : Ints hi w v zs) :
    Calls Try.prog 75 #[v, .pointer (some ⟨B, 0, none⟩)] w fun e w' => e = .returned (.bool (hasI zs l)) ∧ Below w.heap.size w w' := by
  go_enter Try.func75, Try.ntmps75
  go_wp2_with (go_at_call 76; refine (g_Contains _ zs _ _ h).mono ?_; rintro e w1 ⟨rfl, rfl⟩)
  go_ret
  exact ⟨rfl, Below.refl _ _⟩

set_option maxHeartbeats 400000 in
theorem i_occurs {hi : Nat} (v : Value) (t : List (List Int)) (l : Int) (w : World) (h : Tab hi w v t) :
    Calls Try.prog 41 #[v, .int .i64 l] w fun e w' => e = .returned (.bool (occB t l)) ∧ Below w.heap.size w w' := by
  have eg := Go.Proofs.enters_of Try.func75 (by kernel_rfl) rfl
  obtain ⟨A, c, ps, rfl, hc, hm, rfl, hrow, hps⟩ := h.open_
  have hal : Below w.heap.size w (w.alloc (.cells #[.int .i64 l] 3)) := (Below.refl _ _).alloc (Nat.le_refl _) _
  have hbox : (w.alloc (.cells #[.int .i64 l] 3)).cell? ⟨w.heap.size, 0, none⟩ = some (.int .i64 l) := by simp
  have hrow' := hrow.below hal
  have hp : Answers Try.prog 75 #[.pointer (some ⟨w.heap.size, 0, none⟩)] (ps.map (·.1)) (ps.map fun p => hasI p.2 l) (w.alloc (.cells #[.int .i64 l] 3)) := by
    intro j u bb hu hb W hW
    rw [List.getElem?_map] at hu hb
    obtain ⟨p, hp, rfl⟩ := Option.map_eq_some_iff.1 hu
    rw [hp] at hb
    obtain rfl : (hasI p.2 l) = bb := by simpa using hb
    have hmem := List.mem_of_getElem? hp
    exact i_occurs1 p.1 p.2 l w.heap.size W (below_old hW _ _ hbox) (((hps p hmem).below hal).below hW)
  have HP := hide hp
  have hlen : ps.length = (ps.map (·.1)).length := by simp
  have HLN := hide hlen
  clear hp hbox hlen hps h
  go_enter Try.func41, Try.ntmps41
  go_wp2_with fail
  rw [HLN.out]
  refine (g_ContainsFuncT A c _ _ _ _ _ (by simpa using hc) hm hrow' (by simp) eg HP.out).mono ?_
  rintro e w1 ⟨rfl, hb1⟩
  go_wp2_with fail
  go_ret
  exact ⟨ret_bool (by unfold occB; simp [List.any_map, Function.comp_def]), hal.trans (hb1.mono (by simp))⟩

set_option maxHeartbeats 400000 in
theorem s_l2Occurs {hi : Nat} (v : Value) (t : List (List Int)) (l : Int) (w : World) (h : Tab hi w v t) :
    Calls Try.prog 40 #[v, .int .i64 l] w fun e w' => e = .returned (.bool (occB t l)) ∧ w = w' := by
  obtain ⟨A, c, ps, rfl, hc, hm, rfl, hrow, hps⟩ := h.open_
  unfold maxLen at hm
  have HPS := hide hps
  clear hps h
  go_enter Try.func40, Try.ntmps40
  go_wp2_with fail
  go_loop [5] (fun i => ∃ k : Nat, k ≤ ps.length ∧ i = .int .i64 k ∧ Hid (occB (ps.map (·.2)) l = occB ((ps.drop k).map (·.2)) l)) (fun i => ps.length - (intOf i).toNat)
  case atStart => exact ⟨0, Nat.zero_le _, rfl, rfl⟩
  case round =>
    obtain ⟨k, hk, rfl, hr⟩ := hrel
    by_cases hlt : k < ps.length
    · obtain ⟨b, off, u, z, rfl, hx, hcw, hz⟩ := hrow.tab HPS.out hlt
      have hstep : occB (ps.map (·.2)) l = (hasI z l || occB ((ps.drop (k + 1)).map (·.2)) l) := by rw [hr.out, hx]; simp [occB]
      cases hh : hasI z l with
      | true =>
        have HF := hide (show occB (ps.map (·.2)) l = true by rw [hstep, hh]; rfl)
        clear hx hstep
        go_wp2_with (go_at_call 73; refine (s_l2Has _ _ _ _ hz).mono ?_; rintro e w1 ⟨rfl, rfl⟩; rw [hh])
        go_ret
        exact ⟨ret_bool HF.out.symm, rfl⟩
      | false =>
        have HF := hide (show occB (ps.map (·.2)) l = occB ((ps.drop (k + 1)).map (·.2)) l by rw [hstep, hh]; rfl)
        clear hx hstep
        go_wp2_with (go_at_call 73; refine (s_l2Has _ _ _ _ hz).mono ?_; rintro e w1 ⟨rfl, rfl⟩; rw [hh])
        go_round
        case rel => exact ⟨k + 1, by omega, by go_num, HF.out⟩
        case measure => simp [intOf]; omega
    · obtain rfl : k = ps.length := by omega
      have HF := hide (show occB (ps.map (·.2)) l = false by rw [hr.out, List.drop_length]; rfl)
      go_wp2_with fail
      go_ret
      exact ⟨ret_bool HF.out.symm, rfl⟩

set_option maxHeartbeats 1600000 in
theorem I_PureLiterals {hi : Nat} (v : Value) (f : CnfL) (r0 : List Int) (r1 : Bool) (w : World) (h : RCnf hi w v f) (hn0 : szC f ≤ 1048576) (hR : fPureLiterals f = (r0, r1)) :
    Calls Try.prog 19 #[v] w fun e w' => ∃ v', e = .returned (.tuple #[v', .bool r1]) ∧ FInts w.heap.size w'.heap.size w' v' r0 ∧ Below w.heap.size w w' := by
  obtain ⟨A, n, c, rfl, ht⟩ := h.open2
  obtain ⟨vars, t⟩ := f
  dsimp only at ht ⊢
  obtain ⟨wb, hwb⟩ : ∃ wb, wb = w.alloc (.cells #[.int .i64 vars, .slice A n c] 29) := ⟨_, rfl⟩
  have hal : Below w.heap.size w wb := by rw [hwb]; exact (Below.refl _ _).alloc (Nat.le_refl _) _
  have hsb : w.heap.size + 1 = wb.heap.size := by rw [hwb]; simp
  have x00 : wb.cell? ⟨w.heap.size, 0, none⟩ = some (.int .i64 vars) := by rw [hwb]; simp
  have x01 : wb.cell? ⟨w.heap.size, 1, none⟩ = some (.slice A n c) := by rw [hwb]; simp
  have htb := ht.top.below hal
  have HWB := hide hwb
  have HSB := hide hsb
  clear hwb hsb
  cases hg : goodB (vars, t) with
  | false =>
    obtain ⟨rfl, rfl⟩ : r0 = [] ∧ r1 = false := by simpa [fPureLiterals, hg, eq_comm] using hR
    clear hR
    go_enter Try.func19, Try.ntmps19
    go_wp2_with fail
    rw [← HWB.out]
    refine (i_IsCnf _ (vars, t) _ ⟨_, rfl, htb⟩).mono ?_
    rintro e w1 ⟨rfl, hb1⟩
    rw [hg]
    go_wp2_with fail
    go_ret2
    exact ⟨_, rfl, FInts.nil _ _ _, hal.trans (hb1.mono hal.size)⟩
  | true =>
    have HS := hide (goodB_small hg)
    have HFL := hide (show t.flatten.length ≤ 720 from goodB_flat hg)
    obtain ⟨nv, hv, hn⟩ := varsB_nat (goodB_parts hg).1
    dsimp only at hv
    subst hv
    obtain ⟨hr0, rfl⟩ : r0 = (varsL t).flatMap (pureW t) ∧ r1 = true := by
      simp only [fPureLiterals, hg, if_true] at hR
      injection hR with h1 h2
      exact ⟨h1.symm, h2.symm⟩
    have HR := hide hr0
    have HG := hide hg
    clear hR hr0
    go_enter Try.func19, Try.ntmps19
    go_wp2_with fail
    rw [← HWB.out]
    refine (i_IsCnf _ ((nv : Int), t) _ ⟨_, rfl, htb⟩).mono ?_
    rintro e w1 ⟨rfl, hb1⟩
    rw [hg]
    replace x00 := below_old hb1 _ _ x00
    replace x01 := below_old hb1 _ _ x01
    have HV := hide (i_varsOf _ t w1 (htb.below hb1) (by have := HFL.out; omega))
    have hal1 := hal.trans (hb1.mono hal.size)
    have ht1 := htb.below hb1
    have hs1 := hb1.size
    clear htb
    go_wp2_with fail
    refine HV.out.mono ?_
    rintro e w2 ⟨v2, rfl, hf2, hb2⟩
    rw [abs_var HS.out] at hf2
    obtain ⟨vs, hvs⟩ : ∃ vs, putAll (t.flatten.map varW) [] = vs := ⟨_, rfl⟩
    rw [hvs] at hf2
    obtain ⟨Av, cv, rfl, hcv, hmv, hov⟩ := hf2
    unfold maxLen at hmv
    have HVM := hide (show ∀ y ∈ vs, ∃ m : Nat, m < nv ∧ y = (m : Int) + 1 from fun y hy => varsL_mem HG.out y (by unfold varsL; rw [hvs]; exact hy))
    have HR2 := hide (show r0 = vs.flatMap (pureW t) by rw [HR.out]; unfold varsL; rw [hvs])
    have HVL := hide (show vs.length ≤ 720 by
      have h2 := putAll_len (t.flatten.map varW) []
      rw [List.length_map, List.length_nil, hvs] at h2
      have := HFL.out; omega)
    have HOV := hide hov.row
    replace x00 := below_old hb2 _ _ x00
    replace x01 := below_old hb2 _ _ x01
    have hal2 := hal1.trans (hb2.mono hal1.size)
    have HT := hide (ht1.below hb2)
    have hs2 := hb2.size
    clear hov hvs ht1 hb1 hb2
    go_wp2_with fail
    go_loopw [4, 14] (fun q i wr => ∃ (k : Nat) (pre : List Int), k ≤ vs.length ∧ i = .int .i64 k ∧ pre.length ≤ k ∧ Hid (r0 = pre ++ (vs.drop k).flatMap (pureW t)) ∧ OwnI w2.heap.size wr q pre ∧ Below w2.heap.size w2 wr) (fun _ i _ => vs.length - (intOf i).toNat)
    case atStart => exact ⟨0, [], Nat.zero_le _, rfl, Nat.le_refl _, HR2.out, OwnI.nil _ _, Below.refl _ _⟩
    case round =>
      obtain ⟨k, pre, hk, rfl, hpl, hr, hown, hbel⟩ := hrel
      have y01 := below_old hbel _ _ x01
      have hsr := hbel.size
      by_cases hlt : k < vs.length
      · obtain ⟨b, off, y, rfl, hx, hcy⟩ := HOV.out.int (k := k) hlt
        replace hcy := below_old hbel _ _ hcy
        obtain ⟨m, hm, rfl⟩ := HVM.out y (List.mem_of_getElem? (get_of_drop hx))
        have htr := HT.out.below hbel
        have hm12 : m < 12 := by omega
        have HL := hide (show pre.length ≤ 1000 by have := HVL.out; omega)
        have hwn : wrap64 (-((m : Int) + 1)) = -((m : Int) + 1) := IntWalk.wrap64_in _ (by omega)
        have HC1 := hide (i_occurs _ t (-((m : Int) + 1)) wr htr)
        have hstep : r0 = pre ++ (pureW t ((m : Int) + 1) ++ (vs.drop (k + 1)).flatMap (pureW t)) := by rw [hr.out, hx, List.flatMap_cons]
        cases hn1 : occB t (-((m : Int) + 1)) with
        | false =>
          have HF := hide (show r0 = (pre ++ [(m : Int) + 1]) ++ (vs.drop (k + 1)).flatMap (pureW t) by rw [hstep]; unfold pureW; rw [hn1]; simp)
          clear hx hstep hr
          go_wp2_with fail
          refine HC1.out.mono ?_
          rintro e w3 ⟨rfl, hb3⟩
          rw [hn1]
          have ho3 := hown.below hb3
          have hs3 : w2.heap.size ≤ w3.heap.size := Nat.le_trans hsr hb3.size
          have hbl3 := hbel.trans (hb3.mono hsr)
          clear hown
          go_wp2_with (at_builtin; refine append_int rfl _ _ rfl w2.heap.size rfl ho3 rfl (by have := HL.out; omega) hs3 ?_; intro v4 w4 hown4 hb4)
          go_roundw
          case rel => exact ⟨k + 1, _, by omega, by go_num, by simp; omega, HF.out, hown4, hbl3.trans hb4⟩
          case measure => simp [intOf]; omega
        | true =>
          go_wp2_with fail
          refine HC1.out.mono ?_
          rintro e w3 ⟨rfl, hb3⟩
          rw [hn1]
          have ho3 := hown.below hb3
          have hs3 : w2.heap.size ≤ w3.heap.size := Nat.le_trans hsr hb3.size
          have hbl3 := hbel.trans (hb3.mono hsr)
          have y301 := below_old hb3 _ _ y01
          have HC2 := hide (i_occurs _ t ((m : Int) + 1) w3 (htr.below hb3))
          clear hown htr
          cases hn2 : occB t ((m : Int) + 1) with
          | false =>
            have HF := hide (show r0 = (pre ++ [-((m : Int) + 1)]) ++ (vs.drop (k + 1)).flatMap (pureW t) by rw [hstep]; unfold pureW; rw [hn1, hn2]; simp)
            clear hx hstep hr
            go_wp2_with fail
            refine HC2.out.mono ?_
            rintro e w4 ⟨rfl, hb4⟩
            rw [hn2]
            have ho4 := ho3.below hb4
            have hs4 : w2.heap.size ≤ w4.heap.size := Nat.le_trans hs3 hb4.size
            have hbl4 := hbl3.trans (hb4.mono hs3)
            clear ho3
            go_wp2_with (at_builtin; refine append_int rfl _ _ rfl w2.heap.size rfl ho4 rfl (by have := HL.out; omega) hs4 ?_; intro v5 w5 hown5 hb5)
            go_roundw
            case rel => exact ⟨k + 1, _, by omega, by go_num, by simp; omega, HF.out, hown5, hbl4.trans hb5⟩
            case measure => simp [intOf]; omega
          | true =>
            have HF := hide (show r0 = pre ++ (vs.drop (k + 1)).flatMap (pureW t) by rw [hstep]; unfold pureW; rw [hn1, hn2]; simp)
            clear hx hstep hr
            go_wp2_with fail
            refine HC2.out.mono ?_
            rintro e w4 ⟨rfl, hb4⟩
            rw [hn2]
            have ho4 := ho3.below hb4
            have hbl4 := hbl3.trans (hb4.mono hs3)
            clear ho3
            go_wp2_with fail
            go_roundw
            case rel => exact ⟨k + 1, pre, by omega, by go_num, by omega, HF.out, ho4, hbl4⟩
            case measure => simp [intOf]; omega
      · obtain rfl : k = vs.length := by omega
        have HF := hide (show r0 = pre by rw [hr.out, List.drop_length]; simp)
        go_wp2_with fail
        go_ret2
        exact ⟨_, rfl, by rw [HF.out]; exact hown.fints.mono (by have := hal2.size; omega) (Nat.le_refl _), hal2.trans (hbel.mono hal2.size)⟩

set_option maxHeartbeats 3200000 in
theorem S_PureLiterals {hi : Nat} (v : Value) (f : CnfL) (r0 : List Int) (r1 : Bool) (w : World) (h : RCnf hi w v f) (hn0 : szC f ≤ 1048576) (hR : fPureLiterals f = (r0, r1)) :
    Calls Try.prog 18 #[v] w fun e w' => ∃ v', e = .returned (.tuple #[v', .bool r1]) ∧ FInts w.heap.size w'.heap.size w' v' r0 ∧ Below w.heap.size w w' := by
  obtain ⟨A, n, c, rfl, ht⟩ := h.open2
  obtain ⟨vars, t⟩ := f
  dsimp only at ht ⊢
  obtain ⟨wa, hwa⟩ : ∃ wa, wa = w.alloc (.cells #[.int .i64 vars, .slice A n c] 29) := ⟨_, rfl⟩
  have hala : Below w.heap.size w wa := by rw [hwa]; exact (Below.refl _ _).alloc (Nat.le_refl _) _
  have hsa : w.heap.size + 1 = wa.heap.size := by rw [hwa]; simp
  have x00 : wa.cell? ⟨w.heap.size, 0, none⟩ = some (.int .i64 vars) := by rw [hwa]; simp
  have x01 : wa.cell? ⟨w.heap.size, 1, none⟩ = some (.slice A n c) := by rw [hwa]; simp
  obtain ⟨wb, hwb⟩ : ∃ wb, wb = wa.alloc (.cells #[] 3) := ⟨_, rfl⟩
  have halb : Below wa.heap.size wa wb := by rw [hwb]; exact (Below.refl _ _).alloc (Nat.le_refl _) _
  have hown : OwnI (w.heap.size + 1) wb (.slice (some ⟨w.heap.size + 1, 0, none⟩) 0 0) [] := by rw [hwb, hsa]; exact OwnI.made _ _ (by omega)
  replace x00 := below_old halb _ _ x00
  replace x01 := below_old halb _ _ x01
  have tb := (ht.top.below hala).below halb
  have hal := hala.trans (halb.mono (by omega))
  have hsb : w.heap.size + 1 ≤ wb.heap.size := by rw [hsa]; exact halb.size
  have HWB := hide (show wb = (w.alloc (.cells #[.int .i64 vars, .slice A n c] 29)).alloc (.cells #[] 3) by rw [hwb, hwa])
  clear hwb hwa halb hala hsa
  cases hg : goodB (vars, t) with
  | false =>
    obtain ⟨rfl, rfl⟩ : r0 = [] ∧ r1 = false := by simpa [fPureLiterals, hg, eq_comm] using hR
    clear hR
    go_enter Try.func18, Try.ntmps18
    go_wp2_with fail
    rw [← HWB.out]
    refine (s_l2Good _ (vars, t) _ ⟨_, rfl, tb⟩).mono ?_
    rw [hg]
    rintro e w1 ⟨rfl, hb1⟩
    replace hown := hown.below hb1
    go_wp2_with fail
    go_ret2
    exact ⟨_, rfl, hown.fints.mono (by omega) (Nat.le_refl _), hal.trans (hb1.mono hal.size)⟩
  | true =>
    obtain ⟨nv, hv, hn⟩ := varsB_nat (goodB_parts hg).1
    dsimp only at hv
    subst hv
    obtain ⟨hr0, rfl⟩ : r0 = (oneTo 0 nv).flatMap (pureV t) ∧ r1 = true := by
      simp only [fPureLiterals, hg, if_true] at hR
      injection hR with h1 h2
      exact ⟨h1.symm.trans (pure_eq hg), h2.symm⟩
    go_enter Try.func18, Try.ntmps18
    go_wp2_with fail
    rw [← HWB.out]
    refine (s_l2Good _ ((nv : Int), t) _ ⟨_, rfl, tb⟩).mono ?_
    rw [hg]
    rintro e w1 ⟨rfl, hb1⟩
    replace hown := hown.below hb1
    replace x00 := below_old hb1 _ _ x00
    replace x01 := below_old hb1 _ _ x01
    replace tb := tb.below hb1
    replace hal := hal.trans (hb1.mono hal.size)
    replace hsb := Nat.le_trans hsb hb1.size
    have HO := hide hown
    have HR := hide hr0
    have HT := hide tb
    clear hown hb1 tb hR hr0
    go_wp2_with fail
    go_loopw [4, 5] (fun q i wr => ∃ (k : Nat) (pre : List Int), k ≤ nv ∧ i = .int .i64 ((k : Int) + 1) ∧ pre.length ≤ 2 * k ∧ Hid (r0 = pre ++ (oneTo k nv).flatMap (pureV t)) ∧ OwnI (w.heap.size + 1) wr q pre ∧ Below (w.heap.size + 1) w1 wr ∧ w.heap.size + 1 ≤ wr.heap.size) (fun _ i _ => nv + 1 - (intOf i).toNat)
    case atStart => exact ⟨0, [], Nat.zero_le _, rfl, Nat.le_refl _, HR.out, HO.out, Below.refl _ _, hsb⟩
    case round =>
      obtain ⟨k, pre, hk, rfl, hpl, hr, hown, hbel, hszr⟩ := hrel
      have y00 := (hbel.cell (p := ⟨w.heap.size, 0, none⟩) (by simp)).trans x00
      have y01 := (hbel.cell (p := ⟨w.heap.size, 1, none⟩) (by simp)).trans x01
      by_cases hlt : k < nv
      · have htr := HT.out.under hbel (by omega)
        have HL := hide (show pre.length ≤ 1000 by omega)
        have hwn : wrap64 (-((k : Int) + 1)) = -((k : Int) + 1) := IntWalk.wrap64_in _ (by omega)
        have HTR := hide htr
        have hstep : r0 = pre ++ (pureV t ((k : Int) + 1) ++ (oneTo (k + 1) nv).flatMap (pureV t)) := by rw [hr.out, oneTo_lt hlt, List.flatMap_cons]
        cases hy : occB t ((k : Int) + 1) with
        | false =>
          cases hn1 : occB t (-((k : Int) + 1)) with
          | false =>
            have HF := hide (show r0 = pre ++ (oneTo (k + 1) nv).flatMap (pureV t) by rw [hstep]; unfold pureV; rw [hy, hn1]; simp)
            clear hstep hr
            go_wp2_with fail
            go_quiet ((go_at_call 40; exact quietE (s_l2Occurs _ t _ _ (htr.drewN _))))
            go_wp2_with fail
            go_roundw
            case rel => exact ⟨k + 1, pre, by omega, by go_num, by omega, HF.out, hown.below (below_drewN (Below.refl _ _) _), below_drewN hbel _, hszr⟩
            case measure => simp [intOf]; omega
          | true =>
            have HF := hide (show r0 = (pre ++ [-((k : Int) + 1)]) ++ (oneTo (k + 1) nv).flatMap (pureV t) by rw [hstep]; unfold pureV; rw [hy, hn1]; simp)
            clear hstep hr
            go_wp2_with fail
            go_quiet ((go_at_call 40; exact quietE (s_l2Occurs _ t _ _ (htr.drewN _))))
            go_wp2_with (at_builtin; refine append_int rfl _ _ rfl (w.heap.size + 1) rfl (hown.below (below_drewN (Below.refl _ _) _)) rfl (by have := HL.out; omega) hszr ?_; intro v4 w4 hown4 hb4)
            go_roundw
            case rel => exact ⟨k + 1, _, by omega, by go_num, by simp; omega, HF.out, hown4, (below_drewN hbel _).trans hb4, Nat.le_trans hszr hb4.size⟩
            case measure => simp [intOf]; omega
        | true =>
          cases hn1 : occB t (-((k : Int) + 1)) with
          | false =>
            have HF := hide (show r0 = (pre ++ [(k : Int) + 1]) ++ (oneTo (k + 1) nv).flatMap (pureV t) by rw [hstep]; unfold pureV; rw [hy, hn1]; simp)
            clear hstep hr
            go_wp2_with fail
            go_quiet ((go_at_call 40; exact quietE (s_l2Occurs _ t _ _ (htr.drewN _))))
            go_wp2_with (at_builtin; refine append_int rfl _ _ rfl (w.heap.size + 1) rfl (hown.below (below_drewN (Below.refl _ _) _)) rfl (by have := HL.out; omega) hszr ?_; intro v4 w4 hown4 hb4)
            go_roundw
            case rel => exact ⟨k + 1, _, by omega, by go_num, by simp; omega, HF.out, hown4, (below_drewN hbel _).trans hb4, Nat.le_trans hszr hb4.size⟩
            case measure => simp [intOf]; omega
          | true =>
            have HF := hide (show r0 = pre ++ (oneTo (k + 1) nv).flatMap (pureV t) by rw [hstep]; unfold pureV; rw [hy, hn1]; simp)
            clear hstep hr
            go_wp2_with fail
            go_quiet ((go_at_call 40; exact quietE (s_l2Occurs _ t _ _ (htr.drewN _))))
            go_wp2_with fail
            go_roundw
            case rel => exact ⟨k + 1, pre, by omega, by go_num, by omega, HF.out, hown.below (below_drewN (Below.refl _ _) _), below_drewN hbel _, hszr⟩
            case measure => simp [intOf]; omega
      · obtain rfl : k = nv := by omega
        have HF := hide (show r0 = pre by rw [hr.out, oneTo_end]; simp)
        go_wp2_with fail
        go_ret2
        exact ⟨_, rfl, by rw [HF.out]; exact hown.fints.mono (by omega) (Nat.le_refl _), hal.trans (hbel.mono (by omega))⟩

end Go.Proofs.Ytlipmbcjpmbjnaa
