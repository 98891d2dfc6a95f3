/- The contracts of the exported VarsUsed; the program's varsOf. -/
import Derived.Test.YtlipmbcjpmbjnaaSrt
import Derived.Test.YtlipmbcjpmbjnaaSat
import Derived.Test.YtlipmbcjpmbjnaaPl2
namespace Go.Proofs.Ytlipmbcjpmbjnaa
open Go.RowKit
set_option linter.unusedVariables false

theorem goodB_flat {f : CnfL} (hg : goodB f = true) : f.2.flatten.length ≤ 720 := by
  have h1 := goodB_len hg
  have h2 : ∀ c ∈ f.2, c.length ≤ 12 := fun c hc => clauseB_len ((goodB_parts hg).2.2 c hc)
  have : ∀ t : List (List Int), (∀ c ∈ t, c.length ≤ 12) → t.flatten.length ≤ 12 * t.length := by
    intro t
    induction t with
    | nil => simp
    | cons a r ih =>
      intro h
      have := ih fun c hc => h c (List.mem_cons_of_mem _ hc)
      have := h a (by simp)
      simp only [List.flatten_cons, List.length_append, List.length_cons]
      omega
  have := this f.2 h2
  omega
def varsL (t : List (List Int)) : List Int := putAll (t.flatten.map varW) []
def fVarsUsed (f : CnfL) : List Int × Bool := if goodB f then (varsL f.2, true) else ([], false)
theorem fVarsUsed_len {f : CnfL} {r0 : List Int} {r1 : Bool} (hn : szC f ≤ 1048576) (hR : fVarsUsed f = (r0, r1)) : r0.length ≤ 1048576 := by
  unfold fVarsUsed at hR
  split at hR
  · rename_i hg
    injection hR with h1 _
    have h2 := putAll_len (f.2.flatten.map varW) []
    have h3 := goodB_flat hg
    rw [List.length_map, List.length_nil] at h2
    rw [← h1]; unfold varsL; omega
  · injection hR with h1 _; rw [← h1]; simp
theorem abs_var {t : List (List Int)} (hs : ∀ c ∈ t, ∀ l ∈ c, l ≠ 0 ∧ -12 ≤ l ∧ l ≤ 12) : t.flatten.map absW = t.flatten.map varW := by
  apply List.map_congr_left
  intro l hl
  obtain ⟨c, hc, hl⟩ := List.mem_flatten.1 hl
  have := hs c hc l hl
  rw [absW_small (by omega), varW_small (by omega)]

set_option maxHeartbeats 1600000 in
theorem i_varsOf {hi : Nat} (v : Value) (t : List (List Int)) (w : World) (h : Tab hi w v t) (hn : t.flatten.length ≤ 100000) :
    Calls Try.prog 39 #[v] w fun e w' => ∃ v', e = .returned v' ∧ FInts w.heap.size w'.heap.size w' v' (putAll (t.flatten.map absW) []) ∧ Below w.heap.size w w' := by
  obtain ⟨A, c, ps, rfl, hc, hm, rfl, hrow, hps⟩ := h.top.open_
  unfold maxLen at hm
  have HPS := hide hps
  have HN := hide hn
  obtain ⟨all, hall⟩ : ∃ all, (ps.map (·.2)).flatten.map absW = all := ⟨_, rfl⟩
  rw [hall]
  have HA := hide hall
  have HAL := hide (show all.length ≤ 100000 by rw [← hall, List.length_map]; exact hn)
  clear hps h hn hall
  go_enter Try.func39, Try.ntmps39
  go_wp2_with fail
  go_loopw [3, 10] (fun q i wr => ∃ (k : Nat) (pre : List Int), k ≤ ps.length ∧ i = .int .i64 k ∧ Hid (all = pre ++ ((ps.drop k).map (·.2)).flatten.map absW) ∧ OwnI w.heap.size wr q pre ∧ Below w.heap.size w wr) (fun _ i _ => ps.length - (intOf i).toNat)
  case atStart => exact ⟨0, [], Nat.zero_le _, rfl, by rw [← HA.out]; rfl, OwnI.nil _ _, Below.refl _ _⟩
  case round =>
    obtain ⟨k, pre, hk, rfl, hr, hown, hbel⟩ := hrel
    by_cases hlt : k < ps.length
    · obtain ⟨b, off, u, z, rfl, hx, hcw, hz⟩ := hrow.tab HPS.out hlt
      replace hcw := below_old hbel _ _ hcw
      obtain ⟨Az, cz, rfl, hcz, hmz, hzr⟩ := id hz
      unfold maxLen at hmz
      have HZ := hide hzr
      have HR := hide (show all = pre ++ z.map absW ++ ((ps.drop (k + 1)).map (·.2)).flatten.map absW by rw [hr.out, hx]; simp only [List.map_cons, List.flatten_cons, List.map_append, List.append_assoc])
      have HO := hide hown
      have HB := hide hbel
      clear hx hz hr hown hzr
      obtain ⟨wo, hwo⟩ : ∃ wo, wo = wr := ⟨_, rfl⟩
      subst hwo
      go_wp2_with fail
      go_loopw [3, 16] (fun q i wr => ∃ (m : Nat) (pre2 : List Int), m ≤ z.length ∧ i = .int .i64 m ∧ Hid (pre2 = pre ++ (z.take m).map absW) ∧ OwnI w.heap.size wr q pre2 ∧ Below w.heap.size w wr) (fun _ i _ => z.length - (intOf i).toNat)
      case atStart => exact ⟨0, pre, Nat.zero_le _, rfl, (show pre = pre ++ (z.take 0).map absW by simp), HO.out, HB.out⟩
      case round =>
        obtain ⟨m, pre2, hm2, rfl, hp2, hown, hbel⟩ := hrel
        by_cases hltm : m < z.length
        · obtain ⟨bz, oz, y, rfl, hxz, hcy⟩ := HZ.out.int (k := m) hltm
          replace hcy := below_old hbel _ _ hcy
          have HL := hide (show pre2.length ≤ 1073741824 by
            have h1 := HAL.out
            rw [HR.out] at h1
            rw [hp2.out]
            simp only [List.length_append, List.length_map, List.length_take] at h1 ⊢; omega)
          have HF := hide (show pre2 ++ [absW y] = pre ++ (z.take (m + 1)).map absW by rw [hp2.out, take_snoc hxz, List.map_append, List.append_assoc]; rfl)
          have hsz := hbel.size
          clear hxz hp2
          go_wp2_with (first | (go_at_call 71; refine (i_abs _ _).mono ?_; rintro e w1 ⟨rfl, rfl⟩) | (at_builtin; refine append_int rfl _ _ rfl w.heap.size rfl hown rfl HL.out hsz ?_; intro v1 w2 hown1 hb1))
          go_roundw
          case rel => exact ⟨m + 1, _, by omega, by go_num, HF.out, hown1, hbel.trans hb1⟩
          case measure => simp [intOf]; omega
        · obtain rfl : m = z.length := by omega
          have HF := hide (show all = pre2 ++ ((ps.drop (k + 1)).map (·.2)).flatten.map absW by rw [HR.out, hp2.out, List.take_length])
          have HO2 := hide hown
          have HB2 := hide hbel
          clear hp2 hown hbel
          go_wp2_with fail
          go_roundw
          case rel => exact ⟨k + 1, pre2, by omega, by go_num, HF.out, HO2.out, HB2.out⟩
          case measure => simp [intOf]; omega
    · obtain rfl : k = ps.length := by omega
      have HF := hide (show all = pre by rw [hr.out, List.drop_length]; simp)
      have HL := hide (show pre.length ≤ 100000 by rw [← HF.out]; exact HAL.out)
      have HS := hide (g_Sort _ pre wr hown.fints (by have := HL.out; omega))
      have HB := hide hbel
      clear hr hown hbel
      go_wp2_with fail
      refine HS.out.mono ?_
      rintro e w1 ⟨rfl, hf1, hc1⟩
      have HC := hide (g_Compact _ _ w1 hf1 (by rw [sortI_len]; have := HL.out; omega))
      have HC1 := hide hc1
      clear hf1 hc1
      go_wp2_with fail
      refine HC.out.mono ?_
      rintro e w2 ⟨v2, rfl, hf2, hc2⟩
      have hcc := HC1.out.trans hc2
      go_wp2_with fail
      go_ret
      refine ⟨_, rfl, ?_, below_chg HB.out hcc (Nat.le_refl _) (Nat.le_refl _)⟩
      rw [HF.out, ← compact_sort]
      exact hf2.mono (Nat.le_refl _) hcc.size

set_option maxHeartbeats 1600000 in
theorem I_VarsUsed {hi : Nat} (v : Value) (f : CnfL) (r0 : List Int) (r1 : Bool) (w : World) (h : RCnf hi w v f) (hn0 : szC f ≤ 1048576) (hR : fVarsUsed f = (r0, r1)) :
    Calls Try.prog 12 #[v] w fun e w' => ∃ v', e = .returned (.tuple #[v', .bool r1]) ∧ FInts w.heap.size w'.heap.size w' v' r0 ∧ Below w.heap.size w w' := by
  obtain ⟨A, n, c, rfl, ht⟩ := h.open2
  obtain ⟨vars, t⟩ := f
  dsimp only at ht ⊢
  obtain ⟨wb, hwb⟩ : ∃ wb, wb = w.alloc (.cells #[.int .i64 vars, .slice A n c] 29) := ⟨_, rfl⟩
  have hal : Below w.heap.size w wb := by rw [hwb]; exact (Below.refl _ _).alloc (Nat.le_refl _) _
  have x00 : wb.cell? ⟨w.heap.size, 0, none⟩ = some (.int .i64 vars) := by rw [hwb]; simp
  have x01 : wb.cell? ⟨w.heap.size, 1, none⟩ = some (.slice A n c) := by rw [hwb]; simp
  have htb := ht.top.below hal
  have HWB := hide hwb
  clear hwb
  cases hg : goodB (vars, t) with
  | false =>
    obtain ⟨rfl, rfl⟩ : r0 = [] ∧ r1 = false := by simpa [fVarsUsed, hg, eq_comm] using hR
    clear hR
    go_enter Try.func12, Try.ntmps12
    go_wp2_with fail
    rw [← HWB.out]
    refine (i_IsCnf _ (vars, t) _ ⟨_, rfl, htb⟩).mono ?_
    rintro e w1 ⟨rfl, hb1⟩
    rw [hg]
    go_wp2_with fail
    go_ret2
    exact ⟨_, rfl, FInts.nil _ _ _, hal.trans (hb1.mono hal.size)⟩
  | true =>
    have HS := hide (goodB_small hg)
    have HFL := hide (show t.flatten.length ≤ 720 from goodB_flat hg)
    obtain ⟨hr0, rfl⟩ : r0 = varsL t ∧ r1 = true := by simpa [fVarsUsed, hg, eq_comm] using hR
    have HR := hide hr0
    clear hR hr0
    go_enter Try.func12, Try.ntmps12
    go_wp2_with fail
    rw [← HWB.out]
    refine (i_IsCnf _ (vars, t) _ ⟨_, rfl, htb⟩).mono ?_
    rintro e w1 ⟨rfl, hb1⟩
    rw [hg]
    replace x00 := below_old hb1 _ _ x00
    replace x01 := below_old hb1 _ _ x01
    have HV := hide (i_varsOf _ t w1 (htb.below hb1) (by have := HFL.out; omega))
    have hal1 := hal.trans (hb1.mono hal.size)
    clear htb
    go_wp2_with fail
    refine HV.out.mono ?_
    rintro e w2 ⟨v2, rfl, hf2, hb2⟩
    go_wp2_with fail
    go_ret2
    refine ⟨_, rfl, ?_, hal1.trans (hb2.mono hal1.size)⟩
    rw [HR.out]
    unfold varsL
    rw [← abs_var HS.out]
    exact hf2.mono hal1.size (Nat.le_refl _)

set_option maxHeartbeats 1600000 in
theorem S_VarsUsed {hi : Nat} (v : Value) (f : CnfL) (r0 : List Int) (r1 : Bool) (w : World) (h : RCnf hi w v f) (hn0 : szC f ≤ 1048576) (hR : fVarsUsed f = (r0, r1)) :
    Calls Try.prog 10 #[v] w fun e w' => ∃ v', e = .returned (.tuple #[v', .bool r1]) ∧ FInts w.heap.size w'.heap.size w' v' r0 ∧ Below w.heap.size w w' := by
  obtain ⟨A, n, c, rfl, ht⟩ := h.open2
  obtain ⟨vars, t⟩ := f
  dsimp only at ht ⊢
  obtain ⟨wa, hwa⟩ : ∃ wa, wa = w.alloc (.cells #[.int .i64 vars, .slice A n c] 29) := ⟨_, rfl⟩
  have hala : Below w.heap.size w wa := by rw [hwa]; exact (Below.refl _ _).alloc (Nat.le_refl _) _
  have hsa : w.heap.size + 1 = wa.heap.size := by rw [hwa]; simp
  have x00 : wa.cell? ⟨w.heap.size, 0, none⟩ = some (.int .i64 vars) := by rw [hwa]; simp
  have x01 : wa.cell? ⟨w.heap.size, 1, none⟩ = some (.slice A n c) := by rw [hwa]; simp
  obtain ⟨wb, hwb⟩ : ∃ wb, wb = wa.alloc (.cells #[] 3) := ⟨_, rfl⟩
  have halb : Below wa.heap.size wa wb := by rw [hwb]; exact (Below.refl _ _).alloc (Nat.le_refl _) _
  have hown : OwnI (w.heap.size + 1) wb (.slice (some ⟨w.heap.size + 1, 0, none⟩) 0 0) [] := by rw [hwb, hsa]; exact OwnI.made _ _ (by omega)
  replace x00 := below_old halb _ _ x00
  replace x01 := below_old halb _ _ x01
  have tb := (ht.top.below hala).below halb
  have hal := hala.trans (halb.mono (by omega))
  have hsb : w.heap.size + 1 ≤ wb.heap.size := by rw [hsa]; exact halb.size
  have HWB := hide (show wb = (w.alloc (.cells #[.int .i64 vars, .slice A n c] 29)).alloc (.cells #[] 3) by rw [hwb, hwa])
  clear hwb hwa halb hala hsa
  cases hg : goodB (vars, t) with
  | false =>
    obtain ⟨rfl, rfl⟩ : r0 = [] ∧ r1 = false := by simpa [fVarsUsed, hg, eq_comm] using hR
    clear hR
    go_enter Try.func10, Try.ntmps10
    go_wp2_with fail
    rw [← HWB.out]
    refine (s_l2Good _ (vars, t) _ ⟨_, rfl, tb⟩).mono ?_
    rw [hg]
    rintro e w1 ⟨rfl, hb1⟩
    replace hown := hown.below hb1
    go_wp2_with fail
    go_ret2
    exact ⟨_, rfl, hown.fints.mono (by omega) (Nat.le_refl _), hal.trans (hb1.mono hal.size)⟩
  | true =>
    have HFL := hide (show t.flatten.length ≤ 720 from goodB_flat hg)
    obtain ⟨hr0, rfl⟩ : r0 = varsL t ∧ r1 = true := by simpa [fVarsUsed, hg, eq_comm] using hR
    go_enter Try.func10, Try.ntmps10
    go_wp2_with fail
    rw [← HWB.out]
    refine (s_l2Good _ (vars, t) _ ⟨_, rfl, tb⟩).mono ?_
    rw [hg]
    rintro e w1 ⟨rfl, hb1⟩
    replace hown := hown.below hb1
    replace x01 := below_old hb1 _ _ x01
    replace tb := tb.below hb1
    replace hal := hal.trans (hb1.mono hal.size)
    replace hsb := Nat.le_trans hsb hb1.size
    obtain ⟨A', c', ps, e', hc, hm, rfl, hrow, hps⟩ := tb.open_
    injection e' with e1 e2 e3
    subst e1 e2 e3
    unfold maxLen at hm
    have HPS := hide hps
    have HO := hide hown
    have HR := hide hr0
    clear hps hown hb1 tb hR hr0
    go_wp2_with fail
    go_loopw [4, 5] (fun q i wr => ∃ (k g cap : Nat) (pre : List Int), k ≤ ps.length ∧ i = .int .i64 k ∧ q = .slice (some ⟨g, 0, none⟩) pre.length cap ∧ Hid (r0 = putAll (((ps.drop k).map (·.2)).flatten.map varW) pre) ∧ Hid (pre.length + ((ps.drop k).map (·.2)).flatten.length ≤ 720) ∧ OwnI (w.heap.size + 1) wr q pre ∧ Below (w.heap.size + 1) w1 wr ∧ w.heap.size + 1 ≤ wr.heap.size) (fun _ i _ => ps.length - (intOf i).toNat)
    case atStart => exact ⟨0, _, _, [], Nat.zero_le _, rfl, rfl, by rw [HR.out]; rfl, (show 0 + (ps.map (·.2)).flatten.length ≤ 720 by have := HFL.out; omega), HO.out, Below.refl _ _, hsb⟩
    case round =>
      obtain ⟨k, g, cap, pre, hk, rfl, rfl, hr, hl, hown, hbel, hszr⟩ := hrel
      have y01 := (hbel.cell (p := ⟨w.heap.size, 1, none⟩) (by simp)).trans x01
      by_cases hlt : k < ps.length
      · obtain ⟨b, off, u, z, rfl, hx, hcw, hz⟩ := hrow.tab HPS.out hlt
        have hbb : b < w.heap.size := by obtain ⟨b', off', e', hlt', _⟩ := hrow (by simp; omega); injection e' with e'; injection e' with e1 e2; omega
        obtain ⟨Az, cz, rfl, hcz, hmz, hzr⟩ := id hz
        unfold maxLen at hmz
        have HZ := hide hzr
        have HR2 := hide (show r0 = putAll (((ps.drop (k + 1)).map (·.2)).flatten.map varW) (putAll (z.map varW) pre) by rw [hr.out, hx]; simp only [List.map_cons, List.flatten_cons, List.map_append, putAll_append])
        have HL2 := hide (show pre.length + z.length + ((ps.drop (k + 1)).map (·.2)).flatten.length ≤ 720 by have := hl.out; rw [hx] at this; simp only [List.map_cons, List.flatten_cons, List.length_append] at this ⊢; omega)
        have HOW := hide hown
        have HBE := hide hbel
        have hk0 : (0 : Int) ≤ (k : Int) := by omega
        have hk1 : (k : Int) < (ps.length : Int) := by omega
        clear hx hz hr hl hown hzr
        obtain ⟨wo, hwo⟩ : ∃ wo, wo = wr := ⟨_, rfl⟩
        subst hwo
        go_wp2_with fail
        go_loopw [4, 6] (fun q i wr => ∃ (m g cap : Nat) (pre2 : List Int), m ≤ z.length ∧ i = .int .i64 m ∧ q = .slice (some ⟨g, 0, none⟩) pre2.length cap ∧ Hid (putAll (z.map varW) pre = putAll ((z.drop m).map varW) pre2) ∧ pre2.length ≤ pre.length + m ∧ OwnI (w.heap.size + 1) wr q pre2 ∧ Below (w.heap.size + 1) w1 wr ∧ w.heap.size + 1 ≤ wr.heap.size) (fun _ i _ => z.length - (intOf i).toNat)
        case atStart => exact ⟨0, g, cap, pre, Nat.zero_le _, rfl, rfl, rfl, Nat.le_refl _, HOW.out, HBE.out, hszr⟩
        case round =>
          obtain ⟨m, g2, cap2, pre2, hm2, rfl, rfl, hp2, hpl, hown, hbel, hszr2⟩ := hrel
          have z01 := (hbel.cell (p := ⟨w.heap.size, 1, none⟩) (by simp)).trans x01
          have hcw2 := (hbel.cell (p := ⟨b, off + k, none⟩) (by simp; omega)).trans hcw
          by_cases hltm : m < z.length
          · obtain ⟨bz, oz, y, rfl, hxz, hcy⟩ := HZ.out.int (k := m) hltm
            have hbz : bz < w.heap.size := by obtain ⟨b', off', e', hlt', _⟩ := HZ.out (by simp; omega); injection e' with e'; injection e' with e1 e2; omega
            replace hcy := (hbel.cell (p := ⟨bz, oz + m, none⟩) (by simp; omega)).trans hcy
            have HF := hide (show putAll (z.map varW) pre = putAll ((z.drop (m + 1)).map varW) (putI (varW y) pre2) by rw [hp2.out, hxz]; rfl)
            have hpl2 := putI_len (varW y) pre2
            have HPL := hide hpl2
            have HPU := hide (s_l1Put g2 pre2.length cap2 pre2 (varW y) wr hown rfl (by have := HL2.out; omega) hszr2)
            have hm0 : (0 : Int) ≤ (m : Int) := by omega
            have hm1 : (m : Int) < (z.length : Int) := by omega
            clear hxz hp2 hpl2
            go_wp2_with (first | (go_at_call 36; refine (s_l2Var _ _).mono ?_; rintro e w2 ⟨rfl, rfl⟩) | fail)
            refine HPU.out.mono ?_
            rintro e w2 ⟨v2, rfl, hown2, hb2, g3, cap3, rfl⟩
            have HPL2 := hide HPL.out
            go_wp2_with fail
            go_roundw
            case rel => exact ⟨m + 1, g3, cap3, _, by omega, by go_num, rfl, HF.out, by have := HPL2.out; omega, hown2, hbel.trans hb2, Nat.le_trans hszr2 hb2.size⟩
            case measure => simp [intOf]; omega
          · obtain rfl : m = z.length := by omega
            have HF := hide (show r0 = putAll (((ps.drop (k + 1)).map (·.2)).flatten.map varW) pre2 by rw [HR2.out, hp2.out, List.drop_length]; rfl)
            have HL3 := hide (show pre2.length + ((ps.drop (k + 1)).map (·.2)).flatten.length ≤ 720 by have := HL2.out; omega)
            have HO2 := hide hown
            have HB2 := hide hbel
            clear hp2 hown hpl
            go_wp2_with fail
            go_roundw
            case rel => exact ⟨k + 1, g2, cap2, pre2, by omega, by go_num, rfl, HF.out, HL3.out, HO2.out, HB2.out, hszr2⟩
            case measure => simp [intOf]; omega
      · obtain rfl : k = ps.length := by omega
        have HF := hide (show r0 = pre by rw [hr.out, List.drop_length]; rfl)
        go_wp2_with fail
        go_ret2
        exact ⟨_, rfl, by rw [HF.out]; exact hown.fints.mono (by omega) (Nat.le_refl _), hal.trans (hbel.mono (by omega))⟩

end Go.Proofs.Ytlipmbcjpmbjnaa
