/- The contract of UnitLiterals: the reference's. -/
import Derived.Test.YtlipmbcjpmbjnaaUnit
namespace Go.Proofs.Ytlipmbcjpmbjnaa
open Go.RowKit
set_option linter.unusedVariables false

/-- what is left of the two signs of a variable -/
def signs (s : Nat) (v : Int) : List Int := if s = 0 then [v, -v] else if s = 1 then [-v] else []
theorem units_any (a : List Int) (t : List (List Int)) (l : Int) (h0 : l ≠ 0) : (unitsL a t).contains l = t.any fun c => unitL a c == l := by
  unfold unitsL
  induction t with
  | nil => rfl
  | cons c r ih =>
    rw [List.map_cons, List.any_cons, ← ih]
    by_cases h : unitL a c = 0
    · rw [List.filter_cons_of_neg (p := fun l => l != 0) (a := unitL a c) (by simp [h])]
      have : (unitL a c == l) = false := by rw [h]; simpa using fun e => h0 e.symm
      rw [this]; rfl
    · rw [List.filter_cons_of_pos (p := fun l => l != 0) (a := unitL a c) (by simpa using h), List.contains_cons]
      congr 1
      exact Bool.beq_comm
theorem signs_lt {s : Nat} (hs : s < 2) (v : Int) : signs s v = (1 - 2 * (s : Int)) * v :: signs (s + 1) v := by
  match s, hs with
  | 0, _ => simp [signs]
  | 1, _ => simp [signs]

set_option maxHeartbeats 3200000 in
theorem S_UnitLiterals {hi hi' : Nat} (v : Value) (f : CnfL) (va : Value) (a : List Int) (r0 : List Int) (r1 : Bool) (w : World) (h : RCnf hi w v f) (h2 : Ints hi' w va a) (hn0 : szC f ≤ 1048576) (hn1 : a.length ≤ 1048576) (hR : fUnitLiterals f a = (r0, r1)) :
    Calls Try.prog 28 #[v, va] w fun e w' => ∃ v', e = .returned (.tuple #[v', .bool r1]) ∧ FInts w.heap.size w'.heap.size w' v' r0 ∧ Below w.heap.size w w' := by
  obtain ⟨A, n, c, rfl, ht⟩ := h.open2
  obtain ⟨vars, t⟩ := f
  dsimp only at ht ⊢
  obtain ⟨Aa, ca, rfl, -⟩ := id h2
  obtain ⟨wa, hwa⟩ : ∃ wa, wa = w.alloc (.cells #[.int .i64 vars, .slice A n c] 29) := ⟨_, rfl⟩
  have hala : Below w.heap.size w wa := by rw [hwa]; exact (Below.refl _ _).alloc (Nat.le_refl _) _
  have hsa : w.heap.size + 1 = wa.heap.size := by rw [hwa]; simp
  have x00 : wa.cell? ⟨w.heap.size, 0, none⟩ = some (.int .i64 vars) := by rw [hwa]; simp
  have x01 : wa.cell? ⟨w.heap.size, 1, none⟩ = some (.slice A n c) := by rw [hwa]; simp
  obtain ⟨wb, hwb⟩ : ∃ wb, wb = wa.alloc (.cells #[] 3) := ⟨_, rfl⟩
  have halb : Below wa.heap.size wa wb := by rw [hwb]; exact (Below.refl _ _).alloc (Nat.le_refl _) _
  have hown : OwnI (w.heap.size + 1) wb (.slice (some ⟨w.heap.size + 1, 0, none⟩) 0 0) [] := by rw [hwb, hsa]; exact OwnI.made _ _ (by omega)
  replace x00 := below_old halb _ _ x00
  replace x01 := below_old halb _ _ x01
  have tb := (ht.top.below hala).below halb
  have ab := (h2.top.below hala).below halb
  have hal := hala.trans (halb.mono (by omega))
  have hsb : w.heap.size + 1 ≤ wb.heap.size := by rw [hsa]; exact halb.size
  have HWB := hide (show wb = (w.alloc (.cells #[.int .i64 vars, .slice A n c] 29)).alloc (.cells #[] 3) by rw [hwb, hwa])
  clear hwb hwa halb hala hsa
  cases hg : (goodB (vars, t) && clauseB vars a) with
  | false =>
    obtain ⟨rfl, rfl⟩ : r0 = [] ∧ r1 = false := by simpa [fUnitLiterals, hg, eq_comm] using hR
    clear hR
    go_enter Try.func28, Try.ntmps28
    go_wp2_with fail
    rw [← HWB.out]
    refine (s_l3Asked _ (vars, t) _ a _ ⟨_, rfl, tb⟩ ab).mono ?_
    rw [hg]
    rintro e w1 ⟨rfl, hb1⟩
    replace hown := hown.below hb1
    go_wp2_with fail
    go_ret2
    exact ⟨_, rfl, hown.fints.mono (by omega) (Nat.le_refl _), hal.trans (hb1.mono hal.size)⟩
  | true =>
    have hg1 : goodB (vars, t) = true := by simp at hg; exact hg.1
    obtain ⟨nv, hv, hn⟩ := varsB_nat (goodB_parts hg1).1
    dsimp only at hv
    subst hv
    have HCL := hide (show ∀ z ∈ t, z.length ≤ 12 from fun z hz => clauseB_len ((goodB_parts hg1).2.2 z hz))
    obtain ⟨p, hp⟩ : ∃ p : Int → Bool, p = fun l => (unitsL a t).contains l := ⟨_, rfl⟩
    obtain ⟨hr0, rfl⟩ : r0 = (cand 0 nv).filter p ∧ r1 = true := by
      simp only [fUnitLiterals, hg, if_true] at hR
      injection hR with h1 h2
      rw [units_eq a hg1 hn] at h1
      rw [hp]
      exact ⟨h1.symm, h2.symm⟩
    have HP := hide (show ∀ l : Int, l ≠ 0 → p l = t.any fun c => unitL a c == l from fun l h0 => by rw [hp]; exact units_any a t l h0)
    have HR := hide hr0
    clear hR hr0 hp
    go_enter Try.func28, Try.ntmps28
    go_wp2_with fail
    rw [← HWB.out]
    refine (s_l3Asked _ ((nv : Int), t) _ a _ ⟨_, rfl, tb⟩ ab).mono ?_
    rw [hg]
    rintro e w1 ⟨rfl, hb1⟩
    replace hown := hown.below hb1
    replace x00 := below_old hb1 _ _ x00
    replace x01 := below_old hb1 _ _ x01
    replace tb := tb.below hb1
    replace ab := ab.below hb1
    replace hal := hal.trans (hb1.mono hal.size)
    replace hsb := Nat.le_trans hsb hb1.size
    obtain ⟨A', c', ps, e', hc, hm, rfl, hrow, hps⟩ := tb.open_
    injection e' with e1 e2 e3
    subst e1 e2 e3
    unfold maxLen at hm
    have HPS := hide hps
    have HAB := hide ab
    have HO := hide hown
    clear hps hown hb1 tb ab
    go_wp2_with fail
    go_loopw [6, 7] (fun q i wr => ∃ (k : Nat) (pre : List Int), k ≤ nv ∧ i = .int .i64 ((k : Int) + 1) ∧ pre.length ≤ 2 * k ∧ Hid (r0 = pre ++ (cand k nv).filter p) ∧ OwnI (w.heap.size + 1) wr q pre ∧ Below (w.heap.size + 1) w1 wr ∧ w.heap.size + 1 ≤ wr.heap.size) (fun _ i _ => nv + 1 - (intOf i).toNat)
    case atStart => exact ⟨0, [], Nat.zero_le _, rfl, Nat.le_refl _, HR.out, HO.out, Below.refl _ _, hsb⟩
    case round =>
      obtain ⟨k, pre, hk, rfl, hpl, hr, hown, hbel, hszr⟩ := hrel
      have y00 := (hbel.cell (p := ⟨w.heap.size, 0, none⟩) (by simp)).trans x00
      have y01 := (hbel.cell (p := ⟨w.heap.size, 1, none⟩) (by simp)).trans x01
      by_cases hlt : k < nv
      · have HS0 := hide (show r0 = pre ++ (signs 0 ((k : Int) + 1) ++ cand (k + 1) nv).filter p by
          rw [hr.out]; unfold cand; rw [oneTo_lt hlt]; rfl)
        have HO1 := hide hown
        have HB1 := hide hbel
        have hkb : (k : Int) + 1 ≤ (nv : Int) := by omega
        clear hr hown hbel
        obtain ⟨wo, hwo⟩ : ∃ wo, wo = wr := ⟨_, rfl⟩
        subst hwo
        go_wp2_with fail
        go_loopw [6, 8] (fun q i wr => ∃ (s : Nat) (pre2 : List Int), s ≤ 2 ∧ i = .int .i64 (1 - 2 * (s : Int)) ∧ pre2.length ≤ 2 * k + s ∧ Hid (r0 = pre2 ++ (signs s ((k : Int) + 1) ++ cand (k + 1) nv).filter p) ∧ OwnI (w.heap.size + 1) wr q pre2 ∧ Below (w.heap.size + 1) w1 wr ∧ w.heap.size + 1 ≤ wr.heap.size) (fun _ i _ => (4 + intOf i).toNat)
        case atStart => exact ⟨0, pre, Nat.zero_le _, rfl, by omega, HS0.out, HO1.out, HB1.out, hszr⟩
        case round =>
          obtain ⟨s, pre2, hs2, rfl, hpl2, hr2, hown2, hbel2, hsz2⟩ := hrel
          have z00 := (hbel2.cell (p := ⟨w.heap.size, 0, none⟩) (by simp)).trans x00
          have z01 := (hbel2.cell (p := ⟨w.heap.size, 1, none⟩) (by simp)).trans x01
          by_cases hs : s < 2
          · obtain ⟨sv, hsv⟩ : ∃ sv, (1 - 2 * (s : Int)) * ((k : Int) + 1) = sv := ⟨_, rfl⟩
            obtain ⟨sg, hsg⟩ : ∃ sg, 1 - 2 * (s : Int) = sg := ⟨_, rfl⟩
            have hsg1 : -1 ≤ sg := by omega
            have hsg2 : sg ≤ 1 := by omega
            rw [hsg] at hsv ⊢
            have hsvb : -13 ≤ sv ∧ sv ≤ 13 ∧ sv ≠ 0 := by
              rcases (show s = 0 ∨ s = 1 by omega) with rfl | rfl
              · obtain rfl : sg = 1 := by omega
                omega
              · obtain rfl : sg = -1 := by omega
                omega
            have hmul : IntKind.i64.wrap (sg * ((k : Int) + 1)) = sv := by rw [hsv, IntKind.wrap_i64]; omega
            have HSG := hide hsg
            have HPS1 := hide (show p sv = (false || (ps.map (·.2)).any fun c => unitL a c == sv) by rw [HP.out sv hsvb.2.2]; rfl)
            have HFL := hide (show r0 = pre2 ++ ((if p sv then [sv] else []) ++ (signs (s + 1) ((k : Int) + 1) ++ cand (k + 1) nv).filter p) by
              rw [hr2.out, signs_lt hs, HSG.out, hsv, List.cons_append, List.filter_cons]
              cases p sv <;> rfl)
            have HO2 := hide hown2
            have HB2 := hide hbel2
            clear hsg hsv hr2 hown2
            obtain ⟨wi, hwi⟩ : ∃ wi, wi = wr := ⟨_, rfl⟩
            subst hwi
            go_wp2_with fail
            go_loopw [9, 10] (fun q i wr => ∃ (m : Nat) (bb : Bool), m ≤ ps.length ∧ i = .int .i64 m ∧ q = .bool bb ∧ Hid (p sv = (bb || ((ps.drop m).map (·.2)).any fun c => unitL a c == sv)) ∧ Below wi.heap.size wi wr) (fun _ i _ => ps.length - (intOf i).toNat)
            case atStart => exact ⟨0, false, Nat.zero_le _, rfl, rfl, HPS1.out, Below.refl _ _⟩
            case round =>
              obtain ⟨m, bb, hm2, rfl, rfl, hpp, hbel3⟩ := hrel
              have hbw := HB2.out.trans (hbel3.mono hsz2)
              have u00 := below_old hbel3 _ _ z00
              have u01 := below_old hbel3 _ _ z01
              have hsr3 := hbel3.size
              by_cases hltm : m < ps.length
              · obtain ⟨b, off, u, z, rfl, hx, hcw, hz⟩ := hrow.tab HPS.out hltm
                have hbb : b < w.heap.size := by obtain ⟨b', off', e', hlt', _⟩ := hrow (by simp; omega); injection e' with e'; injection e' with e1 e2; omega
                replace hcw := (hbw.cell (p := ⟨b, off + m, none⟩) (by simp; omega)).trans hcw
                obtain ⟨Az, cz, rfl, -⟩ := id hz
                have hzl := HCL.out z (by
                  have : z ∈ (ps.drop m).map (·.2) := by rw [hx]; simp
                  obtain ⟨p, hp, rfl⟩ := List.mem_map.1 this
                  exact List.mem_map.2 ⟨p, List.mem_of_mem_drop hp, rfl⟩)
                have hm0 : (0 : Int) ≤ (m : Int) := by omega
                have hm1 : (m : Int) < (ps.length : Int) := by omega
                cases bb with
                | true =>
                  have HF := hide (show p sv = (true || ((ps.drop (m + 1)).map (·.2)).any fun c => unitL a c == sv) by rw [hpp.out]; simp)
                  clear hx hpp hz
                  go_wp2_with fail
                  go_roundw
                  case rel => exact ⟨m + 1, true, by omega, by go_num, rfl, HF.out, hbel3⟩
                  case measure => simp [intOf]; omega
                | false =>
                  obtain ⟨q, hq⟩ : ∃ q, unitL a z = q := ⟨_, rfl⟩
                  have HU := hide (hq ▸ s_l3Unit (.slice Az z.length cz) (.slice Aa a.length ca) z a wr (hz.under hbw (by omega)) (HAB.out.under hbw (by omega)) (by omega))
                  cases he : (q == sv) with
                  | true =>
                    have HF := hide (show p sv = (true || ((ps.drop (m + 1)).map (·.2)).any fun c => unitL a c == sv) by rw [hpp.out, hx]; simp [hq, he])
                    clear hx hpp hz hq
                    go_wp2_with fail
                    refine HU.out.mono ?_
                    rintro e w5 ⟨rfl, hb5⟩
                    go_wp2_with fail
                    go_roundw
                    case rel => exact ⟨m + 1, true, by omega, by go_num, rfl, HF.out, hbel3.trans (hb5.mono hsr3)⟩
                    case measure => simp [intOf]; omega
                  | false =>
                    have HF := hide (show p sv = (false || ((ps.drop (m + 1)).map (·.2)).any fun c => unitL a c == sv) by rw [hpp.out, hx]; simp [hq, he])
                    clear hx hpp hz hq
                    go_wp2_with fail
                    refine HU.out.mono ?_
                    rintro e w5 ⟨rfl, hb5⟩
                    go_wp2_with fail
                    go_roundw
                    case rel => exact ⟨m + 1, false, by omega, by go_num, rfl, HF.out, hbel3.trans (hb5.mono hsr3)⟩
                    case measure => simp [intOf]; omega
              · obtain rfl : m = ps.length := by omega
                have hpb : p sv = bb := by rw [hpp.out, List.drop_length]; simp
                have ho3 := HO2.out.below hbel3
                have hsz3 := Nat.le_trans hsz2 hsr3
                have HL := hide (show pre2.length ≤ 1000 by omega)
                have hflw : r0 = pre2 ++ ((if bb then [sv] else []) ++ (signs (s + 1) ((k : Int) + 1) ++ cand (k + 1) nv).filter p) := by rw [HFL.out, hpb]
                have HFW := hide hflw
                clear hpp hpb hflw
                cases bb with
                | true =>
                  have HF := hide (show r0 = (pre2 ++ [sv]) ++ (signs (s + 1) ((k : Int) + 1) ++ cand (k + 1) nv).filter p by rw [HFW.out]; simp)
                  go_wp2_with (at_builtin; refine append_int rfl _ _ rfl (w.heap.size + 1) rfl ho3 rfl (by have := HL.out; omega) hsz3 ?_; intro v4 w4 hown4 hb4)
                  go_roundw
                  case rel => exact ⟨s + 1, _, by omega, by have := HSG.out; go_num, by simp; omega, HF.out, hown4, hbw.trans hb4, Nat.le_trans hsz3 hb4.size⟩
                  case measure => simp [intOf]; omega
                | false =>
                  have HF := hide (show r0 = pre2 ++ (signs (s + 1) ((k : Int) + 1) ++ cand (k + 1) nv).filter p by rw [HFW.out]; simp)
                  go_wp2_with fail
                  go_roundw
                  case rel => exact ⟨s + 1, pre2, by omega, by have := HSG.out; go_num, by omega, HF.out, ho3, hbw, hsz3⟩
                  case measure => simp [intOf]; omega
          · obtain rfl : s = 2 := by omega
            have HF := hide (show r0 = pre2 ++ (cand (k + 1) nv).filter p by rw [hr2.out]; rfl)
            clear hr2
            go_wp2_with fail
            go_roundw
            case rel => exact ⟨k + 1, pre2, by omega, by go_num, by omega, HF.out, hown2, hbel2, hsz2⟩
            case measure => simp [intOf]; omega
      · obtain rfl : k = nv := by omega
        have HF := hide (show r0 = pre by rw [hr.out]; unfold cand; rw [oneTo_end]; simp)
        go_wp2_with fail
        go_ret2
        exact ⟨_, rfl, by rw [HF.out]; exact hown.fints.mono (by omega) (Nat.le_refl _), hal.trans (hbel.mono (by omega))⟩

end Go.Proofs.Ytlipmbcjpmbjnaa
