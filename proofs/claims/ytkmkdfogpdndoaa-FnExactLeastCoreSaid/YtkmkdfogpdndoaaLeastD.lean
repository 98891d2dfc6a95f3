/- The contract of LeastCore: the program's. -/
import Derived.Test.YtkmkdfogpdndoaaLeastC
import Derived.Test.YtkmkdfogpdndoaaLeastS
namespace Go.Proofs.Ytkmkdfogpdndoaa
open Go.RowKit
set_option linter.unusedVariables false

set_option maxHeartbeats 3200000 in
theorem I_LeastCore {hi : Nat} (v : Value) (f : CnfL) (r0 : List Int) (r1 : Bool) (w : World) (h : RCnf hi w v f) (hn0 : szC f ≤ 1048576) (hR : fLeastCore f = (r0, r1)) :
    Calls Try.prog 45 #[v] w fun e w' => ∃ v', e = .returned (.tuple #[v', .bool r1]) ∧ FInts w.heap.size w'.heap.size w' v' r0 ∧ Below w.heap.size w w' := by
  obtain ⟨A, n, c, rfl, ht⟩ := h.open2
  obtain ⟨vars, t⟩ := f
  dsimp only at ht ⊢
  have hlen : t.length = n := by obtain ⟨A', c', ps', e, _⟩ := ht; injection e with _ e2; exact e2.symm
  obtain ⟨wb, hwb⟩ : ∃ wb, wb = w.alloc (.cells #[.int .i64 vars, .slice A n c] 29) := ⟨_, rfl⟩
  have hal : Below w.heap.size w wb := by rw [hwb]; exact (Below.refl _ _).alloc (Nat.le_refl _) _
  have x00 : wb.cell? ⟨w.heap.size, 0, none⟩ = some (.int .i64 vars) := by rw [hwb]; simp
  have x01 : wb.cell? ⟨w.heap.size, 1, none⟩ = some (.slice A n c) := by rw [hwb]; simp
  have htb := ht.top.below hal
  have HWB := hide hwb
  clear hwb
  cases hg : goodB (vars, t) with
  | false =>
    obtain ⟨rfl, rfl⟩ : r0 = [] ∧ r1 = false := by simpa [fLeastCore, hg, eq_comm] using hR
    clear hR
    go_enter Try.func45, Try.ntmps45
    go_wp2_with fail
    rw [← HWB.out]
    refine (i_IsCnf _ (vars, t) _ ⟨_, rfl, htb⟩).mono ?_
    rintro e w1 ⟨rfl, hb1⟩
    rw [hg]
    go_wp2_with fail
    go_ret2
    exact ⟨_, rfl, FInts.nil _ _ _, hal.trans (hb1.mono hal.size)⟩
  | true =>
    have HS := hide (goodB_small hg)
    obtain ⟨nv, hv, hn⟩ := varsB_nat (goodB_parts hg).1
    dsimp only at HS hv
    subst hv
    have HLE := hide hlen
    by_cases h12 : n ≤ 12
    · cases hs : satB ((nv : Int), t) with
      | true =>
        obtain ⟨rfl, rfl⟩ : r0 = [] ∧ r1 = false := by simpa [fLeastCore, hg, hs, hlen, h12, eq_comm] using hR
        clear hR hlen
        go_enter Try.func45, Try.ntmps45
        go_wp2_with fail
        rw [← HWB.out]
        refine (i_IsCnf _ ((nv : Int), t) _ ⟨_, rfl, htb⟩).mono ?_
        rintro e w1 ⟨rfl, hb1⟩
        rw [hg]
        have y00 := below_old hb1 _ _ x00
        have y01 := below_old hb1 _ _ x01
        have hal1 := hal.trans (hb1.mono hal.size)
        go_wp2_with fail
        refine (i_satisfiable nv _ t _ (htb.below hb1) hn HS.out).mono ?_
        rintro e w2 ⟨rfl, hb2⟩
        rw [hs]
        go_wp2_with fail
        go_ret2
        exact ⟨_, rfl, FInts.nil _ _ _, hal1.trans (hb2.mono hal1.size)⟩
      | false =>
        have hRR : (match leastF (leastP ((nv : Int), t)) n (rangeFrom 0 (n + 1)) with | some l => (castL l, true) | none => ([], false)) = (r0, r1) := by
          rw [← hR]
          unfold fLeastCore
          rw [if_pos hg]
          dsimp only
          rw [hlen, if_pos (by simpa using h12), hs]
          rfl
        have HR := hide hRR
        clear hR hRR hlen
        go_enter Try.func45, Try.ntmps45
        go_wp2_with fail
        rw [← HWB.out]
        refine (i_IsCnf _ ((nv : Int), t) _ ⟨_, rfl, htb⟩).mono ?_
        rintro e w1 ⟨rfl, hb1⟩
        rw [hg]
        replace x00 := below_old hb1 _ _ x00
        replace x01 := below_old hb1 _ _ x01
        replace htb := htb.below hb1
        replace hal := hal.trans (hb1.mono hal.size)
        go_wp2_with fail
        refine (i_satisfiable nv _ t _ htb hn HS.out).mono ?_
        rintro e w2 ⟨rfl, hb2⟩
        rw [hs]
        replace x00 := below_old hb2 _ _ x00
        replace x01 := below_old hb2 _ _ x01
        have HT := hide (htb.below hb2)
        have hb12 := hal.trans (hb2.mono hal.size)
        have hs2 := hb12.size
        obtain ⟨M, hM, hMe, hM1, hM2⟩ := pow_nat h12
        have HME := hide hMe
        clear htb hb1 hb2 hal hMe
        go_wp2_with fail
        go_loopw [5] (fun i wr => ∃ k : Nat, k ≤ n + 1 ∧ i = .int .i64 k ∧ Hid (leastF (leastP ((nv : Int), t)) n (rangeFrom 0 (n + 1)) = leastF (leastP ((nv : Int), t)) n (rangeFrom k (n + 1))) ∧ Below w2.heap.size w2 wr) (fun i _ => (n + 1) - (intOf i).toNat)
        case atStart => exact ⟨0, Nat.zero_le _, rfl, rfl, Below.refl _ _⟩
        case round =>
          obtain ⟨k, hk, rfl, hch, hbel⟩ := hrel
          have y00 := below_old hbel _ _ x00
          have y01 := below_old hbel _ _ x01
          have hsr := hbel.size
          by_cases hlt : k ≤ n
          · have hjle : (k : Int) ≤ (n : Int) := by omega
            obtain ⟨L, hL⟩ : ∃ L, chs n k 0 = L := ⟨_, rfl⟩
            have hstep : leastF (leastP ((nv : Int), t)) n (rangeFrom k (n + 1)) = match L.find? (leastP ((nv : Int), t)) with | some l => some l | none => leastF (leastP ((nv : Int), t)) n (rangeFrom (k + 1) (n + 1)) := by
              rw [rangeFrom_lt (by omega), leastF, hL]
              cases L.find? (leastP ((nv : Int), t)) <;> rfl
            have HCS := hide (hch.out.trans hstep)
            have HLM := hide (show ∀ l ∈ L, l.length = k ∧ ∀ x ∈ l, 0 ≤ x ∧ x < n from fun l hl => chs_mem n k 0 l (by rw [hL]; exact hl))
            have hshift : chs (n + 1) k 1 = L.map (List.map (· + 1)) := by rw [← hL]; exact chs_shift n k 0
            have hcl : (chs (n + 1) k 1).length ≤ M := by
              rw [hshift, List.length_map, ← hL, HME.out]
              exact chs_len n n k 0 (by omega)
            have HREC := hide ((i_choices n k M wr h12 (by omega) hcl hM2))
            clear hch hstep hcl
            go_wp2_with fail
            refine HREC.out.mono ?_
            rintro e w5 ⟨v5, ps, rfl, hps, hF5, hb5⟩
            rw [hshift, List.map_map] at hps
            obtain ⟨Aq, cq, rfl⟩ := hF5.open_
            obtain ⟨pn, hpn⟩ : ∃ pn, ps.length = pn := ⟨_, rfl⟩
            have hLn : L.length = pn := by rw [← hpn]; simpa using (congrArg List.length hps).symm
            have hpnM : pn ≤ 4096 := by
              have h1 := chs_len n n k 0 (by omega)
              rw [hL, ← HME.out] at h1
              omega
            rw [hpn] at hF5 ⊢
            have HPS := hide (show ∀ j, j < pn → ∃ u l, ps[j]? = some (u, castL (l.map (· + 1))) ∧ L[j]? = some l from fun j hj => by
              obtain ⟨l, hl⟩ : ∃ l, L[j]? = some l := ⟨_, List.getElem?_eq_getElem (by omega)⟩
              obtain ⟨p, hp⟩ : ∃ p, ps[j]? = some p := ⟨_, List.getElem?_eq_getElem (by omega)⟩
              have h1 := congrArg (fun (x : List (List Int)) => x[j]?) hps
              simp only [List.getElem?_map, hl, hp, Option.map_some, Function.comp] at h1
              injection h1 with h1
              obtain ⟨u, z⟩ := p
              dsimp only at h1
              rw [h1] at hp
              exact ⟨u, l, hp, hl⟩)
            have HREM := hide hF5.rem
            have HPN := hide hpn
            have HLN := hide hLn
            have hbo := below_stp hbel hb5
            have hs5 := hb5.size
            clear hps hshift hF5 hpn hLn
            obtain ⟨wo, hwo⟩ : ∃ wo, wo = wr := ⟨_, rfl⟩
            subst hwo
            go_wp2_with fail
            go_loopw [37] (fun i wr => ∃ j : Nat, j ≤ pn ∧ i = .int .i64 j ∧ Hid (L.find? (leastP ((nv : Int), t)) = (L.drop j).find? (leastP ((nv : Int), t))) ∧ RemT wo.heap.size w5.heap.size wr (.slice Aq pn cq) ps j ∧ Below wo.heap.size w5 wr) (fun i _ => pn - (intOf i).toNat)
            case atStart => exact ⟨0, Nat.zero_le _, rfl, rfl, HREM.out, Below.refl _ _⟩
            case round =>
              obtain ⟨j, hj, rfl, hfd, hRem, hbr⟩ := hrel
              by_cases hltj : j < pn
              · obtain ⟨u, l, hu, hl⟩ := HPS.out j hltj
                obtain ⟨B, off, rfl, hcu, hbb⟩ := hRem.head hu
                have hrow := hRem.row hu
                obtain ⟨hll, hlm⟩ := HLM.out l (List.mem_of_getElem? hl)
                have HLL := hide hlm
                have hzl : (castL (l.map (· + 1))).length = k := by simp [hll]
                obtain ⟨zz, hzz⟩ : ∃ zz, castL (l.map (· + 1)) = zz := ⟨_, rfl⟩
                have hd0 : decL l 0 = zz := by rw [← hzz]; exact decL_0 l
                rw [hzz] at hzl hrow hu
                obtain ⟨Ar, cr, rfl, hcr, hcm, hOwn⟩ := hrow
                rw [hzl] at hcr hcu hu
                rw [← hd0] at hOwn
                unfold maxLen at hcm
                obtain ⟨ob, hob⟩ : ∃ ob, rowB (.slice Ar k cr) zz = ob := ⟨_, rfl⟩
                have HOB := hide (show ∀ b off, Ar = some ⟨b, off, none⟩ → 0 < k → ob = some b from fun b off e h0 => by
                  rw [← hob, e]
                  unfold rowB
                  rw [if_neg (by intro e2; rw [e2] at hzl; simp at hzl; omega)]
                  rfl)
                have HNX := hide (show ∀ w', wr.grownBy w' ob → RemT wo.heap.size w5.heap.size w' (.slice (some ⟨B, off, none⟩) pn cq) ps (j + 1) from fun w' hg => hRem.next hu (by rw [hob]; exact hg))
                have hf : L.find? (leastP ((nv : Int), t)) = (if coreB nv t (castL l) then some l else (L.drop (j + 1)).find? (leastP ((nv : Int), t))) := by
                  rw [hfd.out, drop_at hl, List.find?_cons]
                  unfold leastP
                  dsimp only
                  cases coreB nv t (castL l) <;> rfl
                have HF := hide hf
                have HLL2 := hide hll
                have HIN := hide (show ∀ x ∈ castL l, 0 ≤ x ∧ x < (t.length : Int) from fun x hx => by
                  obtain ⟨y, hy, rfl⟩ := List.mem_map.1 hx
                  have h1 := hlm y hy
                  rw [HLE.out]; omega)
                clear hf hob hRem hu hzz hd0 hfd hl hzl hlm
                obtain ⟨wi, hwi⟩ : ∃ wi, wi = wr := ⟨_, rfl⟩
                subst hwi
                go_wp2_with fail
                go_loopw [43] (fun i wr => ∃ q : Nat, q ≤ k ∧ i = .int .i64 q ∧ Own wo.heap.size w5.heap.size wr Ar (ic (decL l q)) ∧ wi.grownBy wr ob ∧ Below wo.heap.size w5 wr) (fun i _ => k - (intOf i).toNat)
                case atStart => exact ⟨0, Nat.zero_le _, rfl, hOwn, grown_refl _ _, hbr⟩
                case round =>
                  obtain ⟨q, hq, rfl, hO, hgr, hbr2⟩ := hrel
                  by_cases hltq : q < k
                  · obtain ⟨b, bo, rfl, hb1, hb2, hcell, hfrz, hO'⟩ := dec_step hO (by rw [HLL2.out]; exact hltq)
                    obtain rfl := HOB.out b bo rfl (by omega)
                    obtain ⟨x, hx⟩ : ∃ x, l[q]'(by rw [HLL2.out]; exact hltq) = x := ⟨_, rfl⟩
                    have hxn := (HLL.out x (by rw [← hx]; exact List.getElem_mem _)).2
                    rw [hx] at hcell hO'
                    have HO := hide hO'
                    have HG := hide (grown_setCell hgr (bo + q) (.int .i64 (x : Int)))
                    have HBB := hide (hbr2.setCell (p := ⟨b, bo + q, none⟩) hb1 (.int .i64 (x : Int)))
                    clear hO hO' hgr hbr2 hx
                    go_wp2_with fail
                    go_roundw
                    case rel => exact ⟨q + 1, by omega, by go_num, HO.out, HG.out, HBB.out⟩
                    case measure => simp [intOf]; omega
                  · obtain rfl : q = k := by omega
                    have hO2 : Own wo.heap.size w5.heap.size wr Ar (ic (castL l)) := by rw [← decL_end l, HLL2.out]; exact hO
                    have hlc : (castL l).length = q := by simp [HLL2.out]
                    have hint : FInts wo.heap.size w5.heap.size wr (.slice Ar q cr) (castL l) := ⟨Ar, cr, by rw [hlc], by rw [hlc]; exact hcr, by unfold maxLen; omega, hO2⟩
                    have hb2r : Below w2.heap.size w2 wr := (below_stp hbel hb5).trans (hbr2.mono hbel.size)
                    have z00 := below_old hb2r _ _ x00
                    have z01 := below_old hb2r _ _ x01
                    have HCR := hide (i_isCore nv A n c t _ _ wr (HT.out.below hb2r) hint.ints hn HS.out HIN.out (by rw [hlc]; omega))
                    have HINT := hide hint
                    have HNX2 := hide (HNX.out _ hgr)
                    clear hint hO hO2 hgr
                    go_wp2_with fail
                    refine HCR.out.mono ?_
                    rintro e w6 ⟨rfl, hb6⟩
                    have hb56 : Below wo.heap.size w5 w6 := hbr2.trans (hb6.mono (Nat.le_trans hs5 hbr2.size))
                    cases hcb : coreB nv t (castL l) with
                    | true =>
                      have hr := HR.out
                      rw [HCS.out, HF.out, hcb] at hr
                      simp only [if_true] at hr
                      injection hr with hr1 hr2
                      subst hr1 hr2
                      go_wp2_with fail
                      go_ret2
                      exact ⟨_, rfl, ((HINT.out.below hb6).mono (by omega) (by have := hb56.size; omega)), hb12.trans ((hb2r.trans (hb6.mono hb2r.size)).mono hs2)⟩
                    | false =>
                      have HF2 := hide (show L.find? (leastP ((nv : Int), t)) = (L.drop (j + 1)).find? (leastP ((nv : Int), t)) by rw [HF.out, hcb]; rfl)
                      go_wp2_with fail
                      go_roundw
                      case rel => exact ⟨j + 1, by omega, by go_num, HF2.out, HNX2.out.below hb6, hb56⟩
                      case measure => simp [intOf]; omega
              · obtain rfl : j = pn := by omega
                have HF := hide (show leastF (leastP ((nv : Int), t)) n (rangeFrom 0 (n + 1)) = leastF (leastP ((nv : Int), t)) n (rangeFrom (k + 1) (n + 1)) by
                  rw [HCS.out, hfd.out, List.drop_eq_nil_of_le (by rw [HLN.out]; omega)]; rfl)
                have hb2r : Below w2.heap.size w2 wr := (below_stp hbel hb5).trans (hbr.mono hbel.size)
                go_wp2_with fail
                go_roundw
                case rel => exact ⟨k + 1, by omega, by go_num, HF.out, hb2r⟩
                case measure => simp [intOf]; omega
          · obtain rfl : k = n + 1 := by omega
            have hr := HR.out
            rw [hch.out, rangeFrom_end] at hr
            obtain ⟨rfl, rfl⟩ : r0 = [] ∧ r1 = false := by simpa [leastF, eq_comm] using hr
            clear hr
            have hfin := hb12.trans (hbel.mono hs2)
            have hkn : ¬ (((n + 1 : Nat) : Int) ≤ (n : Int)) := by omega
            go_wp2_with fail
            go_ret2
            exact ⟨_, rfl, FInts.nil _ _ _, hfin⟩
    · obtain ⟨rfl, rfl⟩ : r0 = [] ∧ r1 = false := by simpa [fLeastCore, hg, hlen, h12, eq_comm] using hR
      clear hR hlen
      go_enter Try.func45, Try.ntmps45
      go_wp2_with fail
      rw [← HWB.out]
      refine (i_IsCnf _ ((nv : Int), t) _ ⟨_, rfl, htb⟩).mono ?_
      rintro e w1 ⟨rfl, hb1⟩
      rw [hg]
      have y00 := below_old hb1 _ _ x00
      have y01 := below_old hb1 _ _ x01
      have hal1 := hal.trans (hb1.mono hal.size)
      have hgt : (12 : Int) < (n : Int) := by omega
      go_wp2_with fail
      go_ret2
      exact ⟨_, rfl, FInts.nil _ _ _, hal1⟩

end Go.Proofs.Ytkmkdfogpdndoaa
