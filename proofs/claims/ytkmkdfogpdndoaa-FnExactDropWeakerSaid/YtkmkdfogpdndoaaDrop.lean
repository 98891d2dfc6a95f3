/- The contracts of DropWeaker: the program's and the reference's. -/
import Derived.Test.YtkmkdfogpdndoaaBothI
import Derived.Test.YtkmkdfogpdndoaaSame
import Derived.Test.YtkmkdfogpdndoaaDropPl
import Derived.Test.YtkmkdfogpdndoaaVal
namespace Go.Proofs.Ytkmkdfogpdndoaa
open Go.RowKit
set_option linter.unusedVariables false

theorem Tab.take {hi : Nat} {w : World} {A : Option Addr} {n c : Nat} {t : List (List Int)} (h : Tab hi w (.slice A n c) t) {k : Nat} (hk : k ≤ n) : Tab hi w (.slice A k c) (t.take k) := by
  obtain ⟨A', c', ps, e, h1, h2, rfl, h4, h5⟩ := h
  injection e with e1 e2 e3
  subst e1 e2 e3
  simp only [List.length_map] at hk h1
  refine ⟨A, c, ps.take k, by simp; omega, by simp; omega, h2, by simp, ?_, fun p hp => h5 p (List.mem_of_mem_take hp)⟩
  intro h0
  obtain ⟨b, off, e, hb, hc⟩ := h4 (by simp at h0 ⊢; omega)
  refine ⟨b, off, e, hb, fun j u hu => hc j u ?_⟩
  rw [List.map_take, List.getElem?_take] at hu
  split at hu
  · exact hu
  · cases hu
theorem dropS_at {c : List Int} {i k : Nat} {d : List Int} {r : List (List Int)} : dropS c i k (d :: r) = ((subI c d && (!(d == c) || decide (k < i))) || dropS c i (k + 1) r) := rfl
theorem keep_at {t r : List (List Int)} {k : Nat} {c : List Int} : keepFrom t k (c :: r) = (if dropS c k 0 t then keepFrom t (k + 1) r else c :: keepFrom t (k + 1) r) := rfl

theorem drQ2 {P : Program} {f : FuncId} {args : Array Value} {w : World} {a n : Nat} {v : Value}
    (h : Calls P f args (w.drewN (a + n)) fun e w' => e = .returned v ∧ w.drewN (a + n) = w') : Calls P f args (w.drewN (a + n)) fun e w'' => e = .returned v ∧ ∃ m, w'' = w.drewN (a + m) :=
  h.mono fun _ _ ⟨he, hm⟩ => ⟨he, n, hm.symm⟩
theorem s_l2SubB {hi hi' : Nat} (va vb : Value) (a b : List Int) (bb : Bool) (w : World) (hb : subI b a = bb) (h : Ints hi w va a) (h2 : Ints hi' w vb b) :
    Calls Try.prog 94 #[va, vb] w fun e w' => e = .returned (.bool bb) ∧ w = w' := hb ▸ s_l2Sub va vb a b w h h2
theorem s_l1SameB {hi hi' : Nat} (va vb : Value) (a b : List Int) (bb : Bool) (w : World) (hb : (a == b) = bb) (h : Ints hi w va a) (h2 : Ints hi' w vb b) :
    Calls Try.prog 93 #[va, vb] w fun e w' => e = .returned (.bool bb) ∧ Quiet w w' := hb ▸ s_l1Same va vb a b w h h2

set_option maxHeartbeats 3200000 in
theorem S_DropWeaker {hi : Nat} (v : Value) (f : CnfL) (r0 : CnfL) (r1 : Bool) (w : World) (h : RCnf hi w v f) (hn0 : szC f ≤ 1048576) (hR : fDropWeaker f = (r0, r1)) :
    Calls Try.prog 40 #[v] w fun e w' => ∃ v', e = .returned (.tuple #[v', .bool r1]) ∧ FCnf w.heap.size w'.heap.size w' v' r0 ∧ Below w.heap.size w w' := by
  obtain ⟨A, n1, c, rfl, ht⟩ := h.open2
  obtain ⟨vars, t⟩ := f
  dsimp only at ht ⊢
  obtain ⟨wa, hwa⟩ : ∃ wa, wa = w.alloc (.cells #[.int .i64 vars, .slice A n1 c] 29) := ⟨_, rfl⟩
  have hala : Below w.heap.size w wa := by rw [hwa]; exact (Below.refl _ _).alloc (Nat.le_refl _) _
  have hsa : wa.heap.size = w.heap.size + 1 := by rw [hwa]; simp
  have xa00 : wa.cell? ⟨w.heap.size, 0, none⟩ = some (.int .i64 vars) := by rw [hwa]; simp
  have xa01 : wa.cell? ⟨w.heap.size, 1, none⟩ = some (.slice A n1 c) := by rw [hwa]; simp
  obtain ⟨wb, hwb⟩ : ∃ wb, wb = wa.alloc (.cells #[.int .i64 0, .slice none 0 0] 29) := ⟨_, rfl⟩
  have halb : Below wa.heap.size wa wb := by rw [hwb]; exact (Below.refl _ _).alloc (Nat.le_refl _) _
  have hyr : Blk wb (w.heap.size + 1) 29 #[.int .i64 0, .slice none 0 0] := by rw [hwb, ← hsa]; exact Blk.new _ _ _
  have x00 := below_old halb _ _ xa00
  have x01 := below_old halb _ _ xa01
  have hal := hala.trans (halb.mono (by omega))
  have tf := ht.top.below hal
  have HGE := hide (show w.heap.size ≤ w.heap.size + 1 by omega)
  have HWB := hide (show wb = (w.alloc (.cells #[.int .i64 vars, .slice A n1 c] 29)).alloc (.cells #[.int .i64 0, .slice none 0 0] 29) by rw [hwb, hwa])
  clear hwb hwa h hala halb hsa xa00 xa01
  cases hg : goodB (vars, t) with
  | false =>
    obtain ⟨rfl, rfl⟩ : r0 = (0, []) ∧ r1 = false := by simpa [fDropWeaker, hg, eq_comm] using hR
    clear hR
    go_enter Try.func40, Try.ntmps40
    go_wp2_with fail
    rw [← HWB.out]
    refine (s_l2Good _ (vars, t) _ ⟨_, rfl, tf⟩).mono ?_
    rintro e w1 ⟨rfl, hb1⟩
    rw [hg]
    have hyr := hyr.below hb1 hyr.lt
    obtain ⟨z0, z1, g0, g1⟩ := blkTwo hyr
    obtain ⟨u0, u1, -, -⟩ := blkTwo (blkSet hyr (.int .i64 0) (.slice none 0 0))
    have HB := hide (((hal.trans (hb1.mono hal.size)).setCell (p := ⟨w.heap.size + 1, 0, none⟩) HGE.out (.int .i64 0)).setCell (p := ⟨w.heap.size + 1, 1, none⟩) HGE.out (.slice none 0 0))
    go_wp2_with fail
    refine bodyPost_ret (v := .tuple #[.agg #[.int .i64 0, .slice none 0 0], .bool false]) (by simp [results, Try.results40, go_sem, u0, u1]) rfl ⟨_, rfl, ⟨_, rfl, FTab.nil _ _ _⟩, HB.out⟩
  | true =>
    obtain ⟨rfl, rfl⟩ : r0 = (vars, keepFrom t 0 t) ∧ r1 = true := by simpa [fDropWeaker, hg, eq_comm] using hR
    have HCL := hide (goodB_parts hg).2.2
    have HT60 := hide (show t.length ≤ 60 from goodB_len hg)
    have HZ1 := hide (show ∀ z ∈ t, z.length ≤ 1048576 from fun z hz => by have h1 := mem_cntT hz; have h2 : szT t ≤ 1048576 := hn0; unfold szT at h2; omega)
    clear hR
    go_enter Try.func40, Try.ntmps40
    go_wp2_with fail
    rw [← HWB.out]
    refine (s_l2Good _ (_, t) _ ⟨_, rfl, tf⟩).mono ?_
    rintro e w1 ⟨rfl, hb1⟩
    rw [hg]
    replace x00 := below_old hb1 _ _ x00
    replace x01 := below_old hb1 _ _ x01
    replace tf := tf.below hb1
    replace hyr := hyr.below hb1 hyr.lt
    replace hal := hal.trans (hb1.mono hal.size)
    have HW1 := hide (show w.heap.size + 1 < w1.heap.size from hyr.lt)
    clear hb1 ht
    obtain ⟨wc, hwc⟩ : ∃ wc, wc = w1.alloc (.cells #[] 25) := ⟨_, rfl⟩
    have halc : Below w1.heap.size w1 wc := by rw [hwc]; exact (Below.refl _ _).alloc (Nat.le_refl _) _
    have hsc : wc.heap.size = w1.heap.size + 1 := by rw [hwc]; simp
    have hmade : FRT w1.heap.size wc (.slice (some ⟨w1.heap.size, 0, none⟩) 0 0) [] := by rw [hwc]; exact FRT.made _ _ (Nat.le_refl _)
    obtain ⟨we, hwe⟩ : ∃ we, we = wc.alloc (.cells #[.int .i64 vars, .slice (some ⟨w1.heap.size, 0, none⟩) 0 0] 29) := ⟨_, rfl⟩
    have hale : Below wc.heap.size wc we := by rw [hwe]; exact (Below.refl _ _).alloc (Nat.le_refl _) _
    have hBe : Blk we (w1.heap.size + 1) 29 #[.int .i64 vars, .slice (some ⟨w1.heap.size, 0, none⟩) 0 0] := by rw [hwe, ← hsc]; exact Blk.new _ _ _
    have hb1e : Below w1.heap.size w1 we := halc.trans (hale.mono (by omega))
    have HWE := hide (show we = (w1.alloc (.cells #[] 25)).alloc (.cells #[.int .i64 vars, .slice (some ⟨w1.heap.size, 0, none⟩) 0 0] 29) by rw [hwe, hwc])
    have HFE := hide (hmade.below hale)
    have HBE := hide hBe
    have HTG := hide (tf.below hb1e)
    have HY := hide (hyr.below hb1e hyr.lt)
    have HAL := hide (hal.trans (hb1e.mono hal.size))
    have HX01 := hide (below_old hb1e _ _ x01)
    have HSZ := hide (show w1.heap.size + 1 < we.heap.size from hBe.lt)
    clear hwe hwc hale halc hsc hmade hBe tf hyr hal hb1e
    go_wp2_with fail
    rw [← HWE.out]
    clear x00 x01
    obtain ⟨A', c', us, e', hc, hm, hut, hrow, hus⟩ := HTG.out.open_
    injection e' with e1 e2 e3
    subst e1 e2 e3
    have HUS := hide hus
    have HUT := hide hut
    have HUL := hide (show us.length ≤ 60 by have := HT60.out; rw [hut] at this; simpa using this)
    unfold maxLen at hm
    clear hus hut
    go_loopw [5] (fun i wr => ∃ (k : Nat) (q : Value) (qs : List (Value × List Int)), k ≤ us.length ∧ i = .int .i64 k ∧ Hid (qs.length ≤ k ∧ keepFrom t 0 t = qs.map (·.2) ++ keepFrom t k (t.drop k)) ∧ Blk wr (w1.heap.size + 1) 29 #[.int .i64 vars, q] ∧ FRT w1.heap.size wr q qs ∧ NotAt (w1.heap.size + 1) q qs ∧ Below w1.heap.size we wr) (fun i _ => us.length - (intOf i).toNat)
    case atStart => exact ⟨0, _, [], Nat.zero_le _, rfl, ⟨Nat.le_refl _, rfl⟩, HBE.out, HFE.out, ⟨by simp [Value.ownBlock], by simp⟩, Below.refl _ _⟩
    case round =>
      obtain ⟨k, q, qs, hk, rfl, hqs, hB, hR, hNA, hbel⟩ := hrel
      obtain ⟨wo, hwo⟩ : ∃ wo, wo = wr := ⟨_, rfl⟩
      subst hwo
      have q01 := (hbel.cell (p := ⟨w.heap.size, 1, none⟩) (by show w.heap.size < _; have := HW1.out; omega)).trans HX01.out
      have hwr : w1.heap.size + 1 < wo.heap.size := Nat.lt_of_lt_of_le HSZ.out hbel.size
      obtain ⟨y0, y1, f0, f1⟩ := blkTwo hB
      by_cases hlt : k < us.length
      · obtain ⟨b, off, ur, z, rfl, hx, hcw, hzz⟩ := hrow.tab HUS.out hlt
        have hbb : b < w1.heap.size := by obtain ⟨b', off', e', hlt', _⟩ := hrow (by simp; omega); injection e' with e'; injection e' with e1 e2; have := HW1.out; omega
        replace hcw := (hbel.cell (p := ⟨b, off + k, none⟩) hbb).trans hcw
        have hrowo : ∀ j u, us[j]? = some u → wo.cell? ⟨b, off + j, none⟩ = some u.1 := by
          intro j u hu
          obtain ⟨b', off', e', hlt', hcc⟩ := hrow (by simp; omega)
          injection e' with e'; injection e' with e1 e2
          subst e1 e2
          exact (hbel.cell (p := ⟨b, off + j, none⟩) hbb).trans (hcc j u.1 (by simp [hu]))
        have hzr := hzz.under hbel (by have := HW1.out; omega)
        have hdk : t.drop k = z :: t.drop (k + 1) := by rw [HUT.out, ← List.map_drop, hx]; simp
        have hmem : z ∈ t := List.mem_of_getElem? (get_of_drop hdk)
        have HZN := hide (show z.length ≤ 16777216 from Nat.le_trans (HZ1.out z hmem) (by omega))
        have HLN := hide (show qs.length ≤ 1073741824 by have := hqs.out.1; have := HUL.out; omega)
        have HQK := hide hqs.out.1
        have HKF := hide (show keepFrom t 0 t = qs.map (·.2) ++ (if dropS z k 0 t then keepFrom t (k + 1) (t.drop (k + 1)) else z :: keepFrom t (k + 1) (t.drop (k + 1))) by rw [hqs.out.2, hdk, keep_at])
        obtain ⟨Az, cz, rfl, -⟩ := id hzz
        obtain ⟨Aq2, cq2, rfl⟩ := hR.open_
        have HROW := hide hrowo
        have k0 : (0 : Int) ≤ ↑k := by omega
        have k1 : (↑k : Int) < ↑us.length := by omega
        have HR0 := hide hR
        have HB0 := hide hB
        have HN0 := hide hNA
        have HBL := hide hbel
        clear hx hqs hzz hmem hdk hrowo hR hB hNA
        go_wp2_with fail
        go_loopw [6, 7] (fun kp j ws => ∃ (m : Nat) (acc : Bool), m ≤ us.length ∧ j = .int .i64 m ∧ kp = .bool (!acc) ∧ Hid (dropS z k 0 t = (acc || dropS z k m (t.drop m))) ∧ Quiet wo ws) (fun _ j _ => us.length - (intOf j).toNat)
        case atStart => exact ⟨0, false, Nat.zero_le _, rfl, rfl, rfl, Quiet.refl _⟩
        case round =>
          obtain ⟨m, acc, hm2, rfl, rfl, hr, hq⟩ := hrel
          by_cases hlt2 : m < us.length
          · obtain ⟨u2, d, hxm⟩ : ∃ u2 d, us[m] = (u2, d) := ⟨_, _, rfl⟩
            have hgm : us[m]? = some (u2, d) := by rw [List.getElem?_eq_getElem hlt2, hxm]
            have hcm := HROW.out m _ hgm
            have hzd := (HUS.out (u2, d) (List.mem_of_getElem? hgm)).under hbel (by have := HW1.out; omega)
            dsimp only at hcm hzd
            have hdm : t.drop m = d :: t.drop (m + 1) := by
              have h3 : m < t.length := by rw [HUT.out]; simpa using hlt2
              rw [List.drop_eq_getElem_cons h3]
              congr 1
              have : t[m]? = some d := by rw [HUT.out, List.getElem?_map, hgm]; rfl
              rw [List.getElem?_eq_getElem h3] at this
              injection this
            have HF := hide (show dropS z k 0 t = (acc || ((subI z d && (!(d == z) || decide (m < k))) || dropS z k (m + 1) (t.drop (m + 1)))) by rw [hr.out, hdm, dropS_at])
            have zd := hzd.below (hq.below wo.heap.size)
            have zc := hzr.below (hq.below wo.heap.size)
            rw [← hq.cell] at hcw hcm q01
            obtain ⟨Ad, cd, rfl, -⟩ := id hzd
            have m0 : (0 : Int) ≤ ↑m := by omega
            have m1 : (↑m : Int) < ↑us.length := by omega
            have HU2 := HUL.out
            clear hr hdm hgm hxm hzd
            cases hsub : subI z d with
            | false =>
              have HFF := hide (show dropS z k 0 t = (acc || dropS z k (m + 1) (t.drop (m + 1))) by rw [HF.out, hsub]; simp)
              go_wp2_with fail
              go_quiet ((go_at_call 93; exact quietC (s_l1SameB _ _ _ _ _ _ rfl (zd.drewN _) (zc.drewN _))))
              go_wp2_with fail
              go_quiet ((go_at_call 94; exact drQ2 (s_l2SubB _ _ _ _ _ _ hsub (zd.drewN _) (zc.drewN _))))
              go_wp2_with fail
              go_roundw
              case rel => exact ⟨m + 1, acc, by omega, by go_num, by simp, HFF.out, hq.drewN _⟩
              case measure => simp [intOf]; omega
            | true =>
              cases heq : (d == z) with
              | false =>
                have HFF := hide (show dropS z k 0 t = (true || dropS z k (m + 1) (t.drop (m + 1))) by rw [HF.out, hsub, heq]; simp)
                go_wp2_with fail
                go_quiet ((go_at_call 93; exact quietC (s_l1SameB _ _ _ _ _ _ heq (zd.drewN _) (zc.drewN _))))
                go_wp2_with fail
                go_quiet ((go_at_call 94; exact drQ2 (s_l2SubB _ _ _ _ _ _ hsub (zd.drewN _) (zc.drewN _))))
                go_wp2_with fail
                go_roundw
                case rel => exact ⟨m + 1, true, by omega, by go_num, by simp, HFF.out, hq.drewN _⟩
                case measure => simp [intOf]; omega
              | true =>
                by_cases hmk : (m : Int) < (k : Int)
                · have HFF := hide (show dropS z k 0 t = (true || dropS z k (m + 1) (t.drop (m + 1))) by rw [HF.out, hsub, heq, decide_eq_true (show m < k by omega)]; simp)
                  go_wp2_with fail
                  go_quiet ((go_at_call 93; exact quietC (s_l1SameB _ _ _ _ _ _ heq (zd.drewN _) (zc.drewN _))))
                  go_wp2_with fail
                  go_quiet ((go_at_call 94; exact drQ2 (s_l2SubB _ _ _ _ _ _ hsub (zd.drewN _) (zc.drewN _))))
                  go_wp2_with fail
                  go_roundw
                  case rel => exact ⟨m + 1, true, by omega, by go_num, by simp, HFF.out, hq.drewN _⟩
                  case measure => simp [intOf]; omega
                · have HFF := hide (show dropS z k 0 t = (acc || dropS z k (m + 1) (t.drop (m + 1))) by rw [HF.out, hsub, heq, decide_eq_false (show ¬ m < k by omega)]; simp)
                  go_wp2_with fail
                  go_quiet ((go_at_call 93; exact quietC (s_l1SameB _ _ _ _ _ _ heq (zd.drewN _) (zc.drewN _))))
                  go_wp2_with fail
                  go_quiet ((go_at_call 94; exact drQ2 (s_l2SubB _ _ _ _ _ _ hsub (zd.drewN _) (zc.drewN _))))
                  go_wp2_with fail
                  go_roundw
                  case rel => exact ⟨m + 1, acc, by omega, by go_num, by simp, HFF.out, hq.drewN _⟩
                  case measure => simp [intOf]; omega
          · obtain rfl : m = us.length := by omega
            have HD := hide (show dropS z k 0 t = acc by
              rw [hr.out, List.drop_of_length_le (by rw [HUT.out]; simp)]
              simp [dropS])
            have hRq := HR0.out.below (hq.below _)
            have hBq := HB0.out.below (hq.below wo.heap.size) HB0.out.lt
            have hbq := HBL.out.trans (hq.below w1.heap.size)
            have hsz := hq.size
            rw [← hq.cell] at hcw q01
            have hzq := hzr.below (hq.below wo.heap.size)
            obtain ⟨y0, y1, f0, f1⟩ := blkTwo hBq
            cases acc with
            | true =>
              have HF := hide (show keepFrom t 0 t = qs.map (·.2) ++ keepFrom t (k + 1) (t.drop (k + 1)) by rw [HKF.out, HD.out]; rfl)
              clear hr
              go_wp2_with fail
              go_roundw
              case rel => exact ⟨k + 1, _, qs, by omega, by go_num, ⟨by have := HQK.out; omega, HF.out⟩, hBq, hRq, HN0.out, hbq⟩
              case measure => simp [intOf]; omega
            | false =>
              have HF := hide (show keepFrom t 0 t = (qs.map (·.2) ++ [z]) ++ keepFrom t (k + 1) (t.drop (k + 1)) by rw [HKF.out, HD.out]; simp)
              have HZR := hide (hzq.below (below_drew wr))
              have HWR := hide (show w1.heap.size ≤ wr.heap.size by omega)
              have HWX := hide (show w1.heap.size + 1 < wr.heap.size by omega)
              have HGE2 := hide (show w1.heap.size ≤ w1.heap.size + 1 by omega)
              have HNN := hide (show ∀ W, Below wr.heap.size wr W → ¬ (w1.heap.size + 1 = W.heap.size) from fun W hW => by have := hW.size; omega)
              have HBK := hide (show ∀ W, Below wr.heap.size wr W → W.cell? ⟨w1.heap.size + 1, 0, none⟩ = some (.int .i64 vars) ∧ W.cell? ⟨w1.heap.size + 1, 1, none⟩ = some (.slice Aq2 qs.length cq2) from fun W hW => ⟨below_old hW _ _ y0, below_old hW _ _ y1⟩)
              have HBG := hide (show ∀ W, wr.grownBy W (Value.slice Aq2 qs.length cq2).ownBlock → Blk W (w1.heap.size + 1) 29 #[.int .i64 vars, .slice Aq2 qs.length cq2] from fun W hW => (hW.block (w1.heap.size + 1) hBq.lt (fun e => HN0.out.1 e.symm)).trans hBq)
              clear hr hBq
              go_wp2_with fail
              go_region_law (first | (go_simp; go_at_call 95; refine (s_l1Own _ z _ HZR.out HZN.out).mono ?_; rintro e w2 ⟨v2, rfl, hown2, hb2⟩; have hb2' := (below_drew wr).trans hb2; have hu := hown2.fints; obtain ⟨A2, c2, rfl, -⟩ := id hu; obtain ⟨p0, p1⟩ := HBK.out w2 hb2'; have hnn := HNN.out w2 hb2'; have p2 := (HBK.out _ (below_alloc_of hb2' (.cells #[.slice A2 z.length c2] 25))).2) | ((refine step_frow (H := w2.heap.size) rfl _ _ rfl w1.heap.size ?_ wr hRq w2 hb2' hu ?_ ?_ HLN.out ?_ ?_ ?_); (· rfl); (· (repeat (first | exact Below.refl _ _ | apply below_drew_of | apply below_alloc_of))); (· exact HWR.out); (· rfl); (· simp); (intro v3 w3 hR3 hb3 hg3 hat3; have hB3 := HBG.out w3 hg3; obtain ⟨A3, c3, rfl⟩ := hR3.open_; simp only [List.length_append, List.length_cons, List.length_nil, Nat.zero_add] at hR3 hat3; obtain ⟨p0, p1, g0, g1⟩ := blkTwo hB3)))
              all_goals (have hN3 := HN0.out.snoc HWX.out hu hat3; have hB4 := hB3.set_ 1 (Value.slice A3 (qs.length + 1) c3); have hR4 := hR3.set_ hN3 1 (Value.slice A3 (qs.length + 1) c3); have hb4 := (hbq.trans hb3).setCell (p := ⟨w1.heap.size + 1, 1, none⟩) HGE2.out (Value.slice A3 (qs.length + 1) c3))
              all_goals go_wp2_with fail
              all_goals go_roundw
              all_goals first | (exact ⟨k + 1, _, _, by omega, by go_num, ⟨by simp; exact HQK.out, by rw [List.map_append]; exact HF.out⟩, by simpa using hB4, hR4, hN3, hb4⟩) | (simp [intOf]; omega)
      · obtain rfl : k = us.length := by omega
        have HQ := hide (show keepFrom t 0 t = qs.map (·.2) by
          rw [hqs.out.2, List.drop_of_length_le (by rw [HUT.out]; simp)]
          simp [keepFrom])
        have hyf := HY.out.below hbel (by have := HW1.out; omega)
        obtain ⟨z0, z1, g0, g1⟩ := blkTwo hyf
        obtain ⟨Aq2, cq2, rfl⟩ := hR.open_
        have hbf := HAL.out.trans (hbel.mono (by have := HW1.out; omega))
        obtain ⟨u0, u1, -, -⟩ := blkTwo (blkSet hyf (.int .i64 vars) (.slice Aq2 qs.length cq2))
        have hNr := hR.notAt (g := w.heap.size + 1) HW1.out
        have HFS := hide ((hR.set_ hNr 0 (.int .i64 vars)).set_ hNr 1 (.slice Aq2 qs.length cq2))
        have HB := hide ((hbf.setCell (p := ⟨w.heap.size + 1, 0, none⟩) HGE.out (.int .i64 vars)).setCell (p := ⟨w.heap.size + 1, 1, none⟩) HGE.out (.slice Aq2 qs.length cq2))
        clear hqs
        go_wp2_with fail
        refine bodyPost_ret (v := .tuple #[.agg #[.int .i64 vars, .slice Aq2 qs.length cq2], .bool true]) (by simp [results, Try.results40, go_sem, u0, u1]) rfl ⟨_, rfl, ⟨_, rfl, by rw [HQ.out]; exact HFS.out.ftab.mono (by have := HW1.out; omega) (Nat.le_refl _)⟩, HB.out⟩

set_option maxHeartbeats 800000 in
theorem i_indexOf1 {hi hi' : Nat} (v : Value) (m c : List Int) (vc : Value) (B : Nat) (w : World) (hc : w.cell? ⟨B, 0, none⟩ = some vc) (h : Ints hi w v m) (h2 : Ints hi' w vc c) :
    Calls Try.prog 142 #[v, .pointer (some ⟨B, 0, none⟩)] w fun e w' => e = .returned (.bool (c == m)) ∧ Below w.heap.size w w' := by
  obtain ⟨Ac, cc, rfl, -⟩ := id h2
  go_enter Try.func142, Try.ntmps142
  go_wp2_with (go_at_call 143; refine (g_EqualI _ _ c m _ h2 h).mono ?_; rintro e w1 ⟨rfl, hq1⟩)
  go_ret
  exact ⟨rfl, hq1.below _⟩

set_option maxHeartbeats 800000 in
theorem i_hasList {hi hi' : Nat} (v : Value) (t : List (List Int)) (vc : Value) (c : List Int) (w : World) (h : Tab hi w v t) (h2 : Ints hi' w vc c) :
    Calls Try.prog 96 #[v, vc] w fun e w' => e = .returned (.bool (t.any fun m => c == m)) ∧ Below w.heap.size w w' := by
  have eg := Go.Proofs.enters_of Try.func142 (by kernel_rfl) rfl
  obtain ⟨A, n, ps, rfl, hc, hm, rfl, hrow, hps⟩ := h.open_
  obtain ⟨Ac, cc, rfl, -⟩ := id h2
  have hal : Below w.heap.size w (w.alloc (.cells #[.slice Ac c.length cc] 25)) := (Below.refl _ _).alloc (Nat.le_refl _) _
  have hbox : (w.alloc (.cells #[.slice Ac c.length cc] 25)).cell? ⟨w.heap.size, 0, none⟩ = some (.slice Ac c.length cc) := by simp
  have hrow' := hrow.below hal
  have hp : Answers Try.prog 142 #[.pointer (some ⟨w.heap.size, 0, none⟩)] (ps.map (·.1)) (ps.map fun p => c == p.2) (w.alloc (.cells #[.slice Ac c.length cc] 25)) := by
    intro j u bb hu hb W hW
    rw [List.getElem?_map] at hu hb
    obtain ⟨p, hp, rfl⟩ := Option.map_eq_some_iff.1 hu
    rw [hp] at hb
    obtain rfl : (c == p.2) = bb := by simpa using hb
    have hmem := List.mem_of_getElem? hp
    exact i_indexOf1 p.1 p.2 c _ w.heap.size W (below_old hW _ _ hbox) (((hps p hmem).below hal).below hW) ((h2.below hal).below hW)
  have hz : ((ps.map fun p => c == p.2).any id) = (ps.map (·.2)).any fun m => c == m := by simp [List.any_map, Function.comp_def]
  rw [← hz, ← firstT_any _ 0]
  have HP := hide hp
  have HLN := hide (show ps.length = (ps.map (·.1)).length by simp)
  have hlo := firstT_lo (ps.map fun p => c == p.2) 0
  clear hp hbox hps h hz
  have HIX : Hid (Calls Try.prog 129 #[.slice A ps.length n, .slice Ac c.length cc] w fun e w' => e = .returned (.int .i64 (firstT (ps.map fun p => c == p.2) 0)) ∧ Below w.heap.size w w') := by
    show Calls Try.prog 129 #[.slice A ps.length n, .slice Ac c.length cc] w _
    go_enter Try.func129, Try.ntmps129
    go_wp2_with fail
    rw [HLN.out]
    refine (g_IndexFuncT A n _ _ _ _ _ (by simpa using hc) hm hrow' (by simp) eg HP.out).mono ?_
    rintro e w1 ⟨rfl, hb1⟩
    go_wp2_with fail
    go_ret
    exact ⟨rfl, hal.trans (hb1.mono (by simp))⟩
  go_enter Try.func96, Try.ntmps96
  go_wp2_with (go_at_call 129; refine HIX.out.mono ?_; rintro e w1 ⟨rfl, hb1⟩)
  go_ret
  exact ⟨rfl, hb1⟩

set_option maxHeartbeats 800000 in
theorem i_DropWeaker1 {hi hi' : Nat} (v : Value) (d c : List Int) (vc : Value) (B : Nat) (w : World) (hc : w.cell? ⟨B, 0, none⟩ = some vc) (h : Ints hi w v d) (h2 : Ints hi' w vc c) :
    Calls Try.prog 98 #[v, .pointer (some ⟨B, 0, none⟩)] w fun e w' => e = .returned (.bool (subI c d && !subI d c)) ∧ Below w.heap.size w w' := by
  obtain ⟨Ac, cc, rfl, -⟩ := id h2
  have HP := hide (i_part v _ d c w h h2)
  cases hs : subI c d with
  | false =>
    have HP2 := hide (show Calls Try.prog 99 #[v, .slice Ac c.length cc] w fun e w' => e = .returned (.bool false) ∧ Below w.heap.size w w' from hs ▸ HP.out)
    go_enter Try.func98, Try.ntmps98
    go_wp2_with (go_at_call 99; refine HP2.out.mono ?_; rintro e w1 ⟨rfl, hb1⟩)
    go_ret
    exact ⟨rfl, hb1⟩
  | true =>
    have HP2 := hide (show Calls Try.prog 99 #[v, .slice Ac c.length cc] w fun e w' => e = .returned (.bool true) ∧ Below w.heap.size w w' from hs ▸ HP.out)
    have HH := hide h
    have HH2 := hide h2
    clear h h2
    go_enter Try.func98, Try.ntmps98
    go_wp2_with fail
    refine HP2.out.mono ?_
    rintro e w1 ⟨rfl, hb1⟩
    have HP3 := hide (i_part _ v c d w1 (HH2.out.below hb1) (HH.out.below hb1))
    have hc1 := below_old hb1 _ _ hc
    go_wp2_with fail
    refine HP3.out.mono ?_
    rintro e w2 ⟨rfl, hb2⟩
    go_wp2_with fail
    go_ret
    exact ⟨rfl, below_step hb1 hb2⟩

set_option maxHeartbeats 3200000 in
theorem I_DropWeaker {hi : Nat} (v : Value) (f : CnfL) (r0 : CnfL) (r1 : Bool) (w : World) (h : RCnf hi w v f) (hn0 : szC f ≤ 1048576) (hR : fDropWeaker f = (r0, r1)) :
    Calls Try.prog 41 #[v] w fun e w' => ∃ v', e = .returned (.tuple #[v', .bool r1]) ∧ FCnf w.heap.size w'.heap.size w' v' r0 ∧ Below w.heap.size w w' := by
  obtain ⟨A, n1, c, rfl, ht⟩ := h.open2
  obtain ⟨vars, t⟩ := f
  dsimp only at ht ⊢
  obtain ⟨wa, hwa⟩ : ∃ wa, wa = w.alloc (.cells #[.int .i64 vars, .slice A n1 c] 29) := ⟨_, rfl⟩
  have hala : Below w.heap.size w wa := by rw [hwa]; exact (Below.refl _ _).alloc (Nat.le_refl _) _
  have hsa : wa.heap.size = w.heap.size + 1 := by rw [hwa]; simp
  have xa00 : wa.cell? ⟨w.heap.size, 0, none⟩ = some (.int .i64 vars) := by rw [hwa]; simp
  have xa01 : wa.cell? ⟨w.heap.size, 1, none⟩ = some (.slice A n1 c) := by rw [hwa]; simp
  obtain ⟨wb, hwb⟩ : ∃ wb, wb = wa.alloc (.cells #[.int .i64 0, .slice none 0 0] 29) := ⟨_, rfl⟩
  have halb : Below wa.heap.size wa wb := by rw [hwb]; exact (Below.refl _ _).alloc (Nat.le_refl _) _
  have hyr : Blk wb (w.heap.size + 1) 29 #[.int .i64 0, .slice none 0 0] := by rw [hwb, ← hsa]; exact Blk.new _ _ _
  have x00 := below_old halb _ _ xa00
  have x01 := below_old halb _ _ xa01
  have hal := hala.trans (halb.mono (by omega))
  have tf := ht.top.below hal
  have HGE := hide (show w.heap.size ≤ w.heap.size + 1 by omega)
  have HWB := hide (show wb = (w.alloc (.cells #[.int .i64 vars, .slice A n1 c] 29)).alloc (.cells #[.int .i64 0, .slice none 0 0] 29) by rw [hwb, hwa])
  clear hwb hwa h hala halb hsa xa00 xa01
  cases hg : goodB (vars, t) with
  | false =>
    obtain ⟨rfl, rfl⟩ : r0 = (0, []) ∧ r1 = false := by simpa [fDropWeaker, hg, eq_comm] using hR
    clear hR
    go_enter Try.func41, Try.ntmps41
    go_wp2_with fail
    rw [← HWB.out]
    refine (i_IsCnf _ (vars, t) _ ⟨_, rfl, tf⟩).mono ?_
    rintro e w1 ⟨rfl, hb1⟩
    rw [hg]
    have hyr := hyr.below hb1 hyr.lt
    obtain ⟨z0, z1, g0, g1⟩ := blkTwo hyr
    obtain ⟨u0, u1, -, -⟩ := blkTwo (blkSet hyr (.int .i64 0) (.slice none 0 0))
    have HB := hide (((hal.trans (hb1.mono hal.size)).setCell (p := ⟨w.heap.size + 1, 0, none⟩) HGE.out (.int .i64 0)).setCell (p := ⟨w.heap.size + 1, 1, none⟩) HGE.out (.slice none 0 0))
    go_wp2_with fail
    refine bodyPost_ret (v := .tuple #[.agg #[.int .i64 0, .slice none 0 0], .bool false]) (by simp [results, Try.results41, go_sem, u0, u1]) rfl ⟨_, rfl, ⟨_, rfl, FTab.nil _ _ _⟩, HB.out⟩
  | true =>
    obtain ⟨rfl, rfl⟩ : r0 = (vars, keepFrom t 0 t) ∧ r1 = true := by simpa [fDropWeaker, hg, eq_comm] using hR
    have HCL := hide (goodB_parts hg).2.2
    have HT60 := hide (show t.length ≤ 60 from goodB_len hg)
    have HZ1 := hide (show ∀ z ∈ t, z.length ≤ 1048576 from fun z hz => by have h1 := mem_cntT hz; have h2 : szT t ≤ 1048576 := hn0; unfold szT at h2; omega)
    clear hR
    go_enter Try.func41, Try.ntmps41
    go_wp2_with fail
    rw [← HWB.out]
    refine (i_IsCnf _ (_, t) _ ⟨_, rfl, tf⟩).mono ?_
    rintro e w1 ⟨rfl, hb1⟩
    rw [hg]
    replace x00 := below_old hb1 _ _ x00
    replace x01 := below_old hb1 _ _ x01
    replace tf := tf.below hb1
    replace hyr := hyr.below hb1 hyr.lt
    replace hal := hal.trans (hb1.mono hal.size)
    have HW1 := hide (show w.heap.size + 1 < w1.heap.size from hyr.lt)
    clear hb1 ht
    obtain ⟨we, hwe⟩ : ∃ we, we = w1.alloc (.cells #[.int .i64 vars, .slice none 0 0] 29) := ⟨_, rfl⟩
    have hb1e : Below w1.heap.size w1 we := by rw [hwe]; exact (Below.refl _ _).alloc (Nat.le_refl _) _
    have hBe : Blk we w1.heap.size 29 #[.int .i64 vars, .slice none 0 0] := by rw [hwe]; exact Blk.new _ _ _
    have HWE := hide hwe
    have HBE := hide hBe
    have HTG := hide (tf.below hb1e)
    have HY := hide (hyr.below hb1e hyr.lt)
    have HAL := hide (hal.trans (hb1e.mono hal.size))
    have HX01 := hide (below_old hb1e _ _ x01)
    have HSZ := hide (show w1.heap.size < we.heap.size from hBe.lt)
    have x01 := below_old hb1e _ _ x01
    have o01 := x01
    rw [hwe] at o01
    have E0 : ¬ (w.heap.size = w1.heap.size) := by have := HW1.out; omega
    clear hwe hBe tf hyr hal hb1e x01
    go_wp2_with fail
    rw [← HWE.out]
    clear x00 o01
    obtain ⟨A', c', us, e', hc, hm, hut, hrow, hus⟩ := HTG.out.open_
    injection e' with e1 e2 e3
    subst e1 e2 e3
    have HUS := hide hus
    have HUT := hide hut
    have HUL := hide (show us.length ≤ 60 by have := HT60.out; rw [hut] at this; simpa using this)
    have HMX := hide hm
    have HCX := hide hc
    unfold maxLen at hm
    have eg := Go.Proofs.enters_of Try.func98 (by kernel_rfl) rfl
    have EG := hide eg
    clear hus hut eg
    go_loopw [18] (fun i wr => ∃ (k : Nat) (q : Value) (qs : List (Value × List Int)), k ≤ us.length ∧ i = .int .i64 k ∧ Hid (qs.length ≤ k ∧ keepFrom t 0 t = qs.map (·.2) ++ keepFrom t k (t.drop k)) ∧ Blk wr w1.heap.size 29 #[.int .i64 vars, q] ∧ FRT w1.heap.size wr q qs ∧ NotAt w1.heap.size q qs ∧ Below w1.heap.size we wr) (fun i _ => us.length - (intOf i).toNat)
    case atStart => exact ⟨0, _, [], Nat.zero_le _, rfl, ⟨Nat.le_refl _, rfl⟩, HBE.out, FRT.nil _ _, NotAt.nil _, Below.refl _ _⟩
    case round =>
      obtain ⟨k, q, qs, hk, rfl, hqs, hB, hR, hNA, hbel⟩ := hrel
      have q01 := (hbel.cell (p := ⟨w.heap.size, 1, none⟩) (by show w.heap.size < _; have := HW1.out; omega)).trans HX01.out
      have hwr : w1.heap.size < wr.heap.size := Nat.lt_of_lt_of_le HSZ.out hbel.size
      obtain ⟨y0, y1, f0, f1⟩ := blkTwo hB
      by_cases hlt : k < us.length
      · obtain ⟨b, off, ur, z, rfl, hx, hcw, hzz⟩ := hrow.tab HUS.out hlt
        have hbb : b < w1.heap.size := by obtain ⟨b', off', e', hlt', _⟩ := hrow (by simp; omega); injection e' with e'; injection e' with e1 e2; have := HW1.out; omega
        replace hcw := (hbel.cell (p := ⟨b, off + k, none⟩) hbb).trans hcw
        have hzr := hzz.under hbel (by have := HW1.out; omega)
        have htr := HTG.out.under hbel (by have := HW1.out; omega)
        have hdk : t.drop k = z :: t.drop (k + 1) := by rw [HUT.out, ← List.map_drop, hx]; simp
        have hmem : z ∈ t := List.mem_of_getElem? (get_of_drop hdk)
        have HZN := hide (show z.length ≤ 16777216 from Nat.le_trans (HZ1.out z hmem) (by omega))
        have HLN := hide (show qs.length ≤ 1073741824 by have := hqs.out.1; have := HUL.out; omega)
        have HQK := hide hqs.out.1
        have HKF := hide (show keepFrom t 0 t = qs.map (·.2) ++ (if dropI t k z then keepFrom t (k + 1) (t.drop (k + 1)) else z :: keepFrom t (k + 1) (t.drop (k + 1))) by rw [hqs.out.2, hdk, keep_at, drop_eq HCL.out (HCL.out z hmem)])
        obtain ⟨Az, cz, rfl, -⟩ := id hzz
        obtain ⟨Aq2, cq2, rfl⟩ := hR.open_
        have k0 : (0 : Int) ≤ ↑k := by omega
        have k1 : (↑k : Int) < ↑us.length := by omega
        have k2 : (↑k : Int) ≤ ↑c := by have := HCX.out; omega
        obtain ⟨wk, hwk⟩ : ∃ wk, wk = wr.alloc (.cells #[.slice Az z.length cz] 25) := ⟨_, rfl⟩
        have hbk : Below wr.heap.size wr wk := by rw [hwk]; exact (Below.refl _ _).alloc (Nat.le_refl _) _
        have hBk : Blk wk wr.heap.size 25 #[.slice Az z.length cz] := by rw [hwk]; exact Blk.new _ _ _
        have c6 : wk.cell? ⟨wr.heap.size, 0, none⟩ = some (.slice Az z.length cz) := by simpa using hBk.cell 0
        have HWK := hide hwk
        have q01k := below_old hbk _ _ q01
        have HROW := hide ((hrow.under hbel (by have := HW1.out; omega)).below hbk)
        have HUK := hide (show ∀ p ∈ us, Ints w.heap.size wk p.1 p.2 from fun p hp => ((HUS.out p hp).under hbel (by have := HW1.out; omega)).below hbk)
        have HTR := hide (htr.below hbk)
        have HTT := hide ((htr.below hbk).take (k := k) (by omega))
        have HZK := hide (hzr.below hbk)
        have HBK0 := hide (hB.below hbk hB.lt)
        have HRK := hide (hR.below hbk)
        have HNA := hide hNA
        have hsk : wr.heap.size < wk.heap.size := hBk.lt
        have HBE2 := hide (hbel.trans (hbk.mono (by omega)))
        have HC6 := hide c6
        have HQ1 := hide q01k
        clear hwk hx hqs hzz hmem hdk hB hR hNA q01 y0 y1 hzr htr hbk hBk
        have HAN := hide (show (t.any fun d => subI z d && !subI d z) = ((us.map fun p => subI z p.2 && !subI p.2 z).any id) by rw [HUT.out]; simp [List.any_map, Function.comp_def])
        have HCON := hide (show ∀ bb, (t.any fun d => subI z d && !subI d z) = bb → ∀ W, Below wk.heap.size wk W → Calls Try.prog 97 #[.slice (some ⟨b, off, none⟩) us.length c, .func (.func 98) #[] #[.pointer (some ⟨wr.heap.size, 0, none⟩)]] W fun e w' => e = .returned (.bool bb) ∧ Below W.heap.size W w' from by
          intro bb hbb W hW
          have hp : Answers Try.prog 98 #[.pointer (some ⟨wr.heap.size, 0, none⟩)] (us.map (·.1)) (us.map fun p => subI z p.2 && !subI p.2 z) W := by
            intro j u bb hu hb W2 hW2
            rw [List.getElem?_map] at hu hb
            obtain ⟨p, hp, rfl⟩ := Option.map_eq_some_iff.1 hu
            rw [hp] at hb
            obtain rfl : (subI z p.2 && !subI p.2 z) = bb := by simpa using hb
            have hmem := List.mem_of_getElem? hp
            exact i_DropWeaker1 p.1 p.2 z _ wr.heap.size W2 (below_old hW2 _ _ (below_old hW _ _ HC6.out)) (((HUK.out p hmem).below hW).below hW2) ((HZK.out.below hW).below hW2)
          have h := g_ContainsFuncT (some ⟨b, off, none⟩) c _ _ (us.map (·.1)) _ W (by simpa using HCX.out) HMX.out (HROW.out.below hW) (by simp) EG.out hp
          rw [← HAN.out, hbb, List.length_map] at h
          exact h)
        have HHAS := hide (show ∀ bb, ((t.take k).any fun m => z == m) = bb → ∀ W, Below wk.heap.size wk W → Calls Try.prog 96 #[.slice (some ⟨b, off, none⟩) k c, .slice Az z.length cz] W fun e w' => e = .returned (.bool bb) ∧ Below W.heap.size W w' from fun bb hbb W hW => hbb ▸ i_hasList _ (t.take k) _ z W (HTT.out.below hW) (HZK.out.below hW))
        have hk2 : w1.heap.size < wk.heap.size := by omega
        go_wp2_with fail
        rw [← HWK.out]
        cases hh : (t.take k).any fun m => z == m with
        | true =>
          have HF := hide (show keepFrom t 0 t = qs.map (·.2) ++ keepFrom t (k + 1) (t.drop (k + 1)) by rw [HKF.out]; unfold dropI; rw [hh]; rfl)
          have g01 : ∀ d os, (Go.Sort.grow (redrawn wk d) os).cell? ⟨w.heap.size, 1, none⟩ = some (.slice (some ⟨b, off, none⟩) us.length c) := fun d os => below_old (below_regrown wk d os) _ _ HQ1.out
          have g06 : ∀ d os, (Go.Sort.grow (redrawn wk d) os).cell? ⟨wr.heap.size, 0, none⟩ = some (.slice Az z.length cz) := fun d os => below_old (below_regrown wk d os) _ _ HC6.out
          refine wp_region_quiet_below (by kernel_rfl) (by kernel_rfl) ?_
          repeat (go_big_quiet_step (((go_at_call 96; exact belowC fun W hW => HHAS.out _ hh W hW))))
          refine wpQuiet_nil ?_
          intro wm hw'
          have hbwm := below_of_regrown hw'
          clear hw'
          have hBk2 := HBK0.out.below hbwm hk2
          have hRk2 := HRK.out.below hbwm
          have hBl2 := HBE2.out.trans (hbwm.mono (by omega))
          go_wp2_with fail
          go_roundw
          case rel => exact ⟨k + 1, _, qs, by omega, by go_num, ⟨by have := HQK.out; omega, HF.out⟩, hBk2, hRk2, HNA.out, hBl2⟩
          case measure => simp [intOf]; omega
        | false =>
          cases hd : t.any fun d => subI z d && !subI d z with
          | true =>
            have HF := hide (show keepFrom t 0 t = qs.map (·.2) ++ keepFrom t (k + 1) (t.drop (k + 1)) by rw [HKF.out]; unfold dropI; rw [hh, hd]; rfl)
            go_region_held3 (fun w' => w'.cell? ⟨w.heap.size, 1, none⟩ = some (.slice (some ⟨b, off, none⟩) us.length c) ∧ w'.cell? ⟨wr.heap.size, 0, none⟩ = some (.slice Az z.length cz)) (refine ⟨below_old (w := wk) ?_ _ _ HQ1.out, below_old (w := wk) ?_ _ _ HC6.out⟩ <;> (repeat (first | exact hBn | exact hBm | exact Below.refl _ _ | apply below_drew_of | apply below_alloc_of)))
              ((first | (go_at_call 96; go_loud(refine (HHAS.out _ hh _ (by (repeat (first | exact Below.refl _ _ | apply below_drew_of | apply below_alloc_of)))).mono ?_; rintro e wm ⟨rfl, hbm⟩; have hBm := below_step (w := wk) (by (repeat (first | exact Below.refl _ _ | apply below_drew_of | apply below_alloc_of))) hbm)) | (go_at_call 97; go_loud(refine (HCON.out _ hd _ (by (repeat (first | exact hBm | exact Below.refl _ _ | apply below_drew_of | apply below_alloc_of)))).mono ?_; rintro e wn ⟨rfl, hbn⟩; have hBn := below_step (w := wk) (by (repeat (first | exact hBm | exact Below.refl _ _ | apply below_drew_of | apply below_alloc_of))) hbn))))
            all_goals (have hBk2 := HBK0.out.below hBn hk2; have hRk2 := HRK.out.below hBn; have hBl2 := HBE2.out.trans (hBn.mono (by omega)))
            all_goals go_wp2_with fail
            all_goals go_roundw
            all_goals first | (exact ⟨k + 1, _, qs, by omega, by go_num, ⟨by have := HQK.out; omega, HF.out⟩, hBk2, hRk2, HNA.out, hBl2⟩) | (simp [intOf]; omega)
          | false =>
            have HF := hide (show keepFrom t 0 t = (qs.map (·.2) ++ [z]) ++ keepFrom t (k + 1) (t.drop (k + 1)) by rw [HKF.out]; unfold dropI; rw [hh, hd]; simp)
            go_region_held3 (fun w' => w'.cell? ⟨w.heap.size, 1, none⟩ = some (.slice (some ⟨b, off, none⟩) us.length c) ∧ w'.cell? ⟨wr.heap.size, 0, none⟩ = some (.slice Az z.length cz)) (refine ⟨below_old (w := wk) ?_ _ _ HQ1.out, below_old (w := wk) ?_ _ _ HC6.out⟩ <;> (repeat (first | exact hBn | exact hBm | exact Below.refl _ _ | apply below_drew_of | apply below_alloc_of)))
              ((first | (go_at_call 96; go_loud(refine (HHAS.out _ hh _ (by (repeat (first | exact Below.refl _ _ | apply below_drew_of | apply below_alloc_of)))).mono ?_; rintro e wm ⟨rfl, hbm⟩; have hBm := below_step (w := wk) (by (repeat (first | exact Below.refl _ _ | apply below_drew_of | apply below_alloc_of))) hbm)) | (go_at_call 97; go_loud(refine (HCON.out _ hd _ (by (repeat (first | exact hBm | exact Below.refl _ _ | apply below_drew_of | apply below_alloc_of)))).mono ?_; rintro e wn ⟨rfl, hbn⟩; have hBn := below_step (w := wk) (by (repeat (first | exact hBm | exact Below.refl _ _ | apply below_drew_of | apply below_alloc_of))) hbn))))
            all_goals (have hBk2 := HBK0.out.below hBn hk2; have hRk2 := HRK.out.below hBn; have hBl2 := HBE2.out.trans (hBn.mono (by omega)); have hsn := hBn.size; have cn6 := below_old hBn _ _ HC6.out; have HZR := hide ((HZK.out.below hBn).below (below_drew wn)); have HWR := hide (show w1.heap.size ≤ wn.heap.size by omega); have HWX := hide (show w1.heap.size < wn.heap.size by omega); have HNN := hide (show ∀ W, Below wn.heap.size wn W → ¬ (w1.heap.size = W.heap.size) from fun W hW => by have := hW.size; omega); have HBK := hide (show ∀ W, Below wn.heap.size wn W → W.cell? ⟨w1.heap.size, 0, none⟩ = some (.int .i64 vars) ∧ W.cell? ⟨w1.heap.size, 1, none⟩ = some (.slice Aq2 qs.length cq2) from fun W hW => ⟨below_old hW _ _ (blkTwo hBk2).1, below_old hW _ _ (blkTwo hBk2).2.1⟩); have HBG := hide (show ∀ W, wn.grownBy W (Value.slice Aq2 qs.length cq2).ownBlock → Blk W w1.heap.size 29 #[.int .i64 vars, .slice Aq2 qs.length cq2] from fun W hW => (hW.block w1.heap.size hBk2.lt (fun e => HNA.out.1 e.symm)).trans hBk2); obtain ⟨y0, y1, f0, f1⟩ := blkTwo hBk2)
            all_goals clear hBk2
            all_goals go_wp2_with fail
            all_goals go_region_law (first | (go_simp; go_at_call 100; refine (g_Clone _ z _ HZR.out HZN.out).mono ?_; rintro e w2 ⟨v2, rfl, hown2, hb2⟩; have hb2' := (below_drew wn).trans hb2; have hu := hown2.fints; obtain ⟨A2, c2, rfl, -⟩ := id hu; obtain ⟨p0, p1⟩ := HBK.out w2 hb2'; have hnn := HNN.out w2 hb2'; have p2 := (HBK.out _ (below_alloc_of hb2' (.cells #[.slice A2 z.length c2] 25))).2) | ((refine step_frow (H := w2.heap.size) rfl _ _ rfl w1.heap.size ?_ wn hRk2 w2 hb2' hu ?_ ?_ HLN.out ?_ ?_ ?_); (· rfl); (· (repeat (first | exact Below.refl _ _ | apply below_drew_of | apply below_alloc_of))); (· exact HWR.out); (· rfl); (· simp); (intro v3 w3 hR3 hb3 hg3 hat3; have hB3 := HBG.out w3 hg3; obtain ⟨A3, c3, rfl⟩ := hR3.open_; simp only [List.length_append, List.length_cons, List.length_nil, Nat.zero_add] at hR3 hat3; obtain ⟨p0, p1, g0, g1⟩ := blkTwo hB3)))
            all_goals (have hN3 := HNA.out.snoc HWX.out hu hat3; have hB4 := hB3.set_ 1 (Value.slice A3 (qs.length + 1) c3); have hR4 := hR3.set_ hN3 1 (Value.slice A3 (qs.length + 1) c3); have hb4 := (hBl2.trans hb3).setCell (p := ⟨w1.heap.size, 1, none⟩) (Nat.le_refl _) (Value.slice A3 (qs.length + 1) c3))
            all_goals go_wp2_with fail
            all_goals go_roundw
            all_goals first | (exact ⟨k + 1, _, _, by omega, by go_num, ⟨by simp; exact HQK.out, by rw [List.map_append]; exact HF.out⟩, by simpa using hB4, hR4, hN3, hb4⟩) | (simp [intOf]; omega)
      · obtain rfl : k = us.length := by omega
        have HQ := hide (show keepFrom t 0 t = qs.map (·.2) by
          rw [hqs.out.2, List.drop_of_length_le (by rw [HUT.out]; simp)]
          simp [keepFrom])
        have hyf := HY.out.below hbel (by have := HW1.out; omega)
        obtain ⟨z0, z1, g0, g1⟩ := blkTwo hyf
        obtain ⟨Aq2, cq2, rfl⟩ := hR.open_
        have hbf := HAL.out.trans (hbel.mono (by have := HW1.out; omega))
        obtain ⟨u0, u1, -, -⟩ := blkTwo (blkSet hyf (.int .i64 vars) (.slice Aq2 qs.length cq2))
        have hNr := hR.notAt (g := w.heap.size + 1) HW1.out
        have HFS := hide ((hR.set_ hNr 0 (.int .i64 vars)).set_ hNr 1 (.slice Aq2 qs.length cq2))
        have HB := hide ((hbf.setCell (p := ⟨w.heap.size + 1, 0, none⟩) HGE.out (.int .i64 vars)).setCell (p := ⟨w.heap.size + 1, 1, none⟩) HGE.out (.slice Aq2 qs.length cq2))
        clear hqs
        go_wp2_with fail
        refine bodyPost_ret (v := .tuple #[.agg #[.int .i64 vars, .slice Aq2 qs.length cq2], .bool true]) (by simp [results, Try.results41, go_sem, u0, u1]) rfl ⟨_, rfl, ⟨_, rfl, by rw [HQ.out]; exact HFS.out.ftab.mono (by have := HW1.out; omega) (Nat.le_refl _)⟩, HB.out⟩

end Go.Proofs.Ytkmkdfogpdndoaa
