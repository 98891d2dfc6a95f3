/- The contracts of FullCnf: the reference's and the program's families of all signed clauses. -/
import Derived.Test.YtkmkdfogpdndoaaPut
import Derived.Test.YtkmkdfogpdndoaaFullPl
import Derived.Test.YtkmkdfogpdndoaaBothI
import Derived.Test.YtkmkdfogpdndoaaCoreC
namespace Go.Proofs.Ytkmkdfogpdndoaa
open Go.RowKit
set_option linter.unusedVariables false

theorem s_l4To (n : Nat) (w : World) (hn : n ≤ 1000) :
    Calls Try.prog 70 #[.int .i64 n] w fun e w' => ∃ v', e = .returned v' ∧ OwnI w.heap.size w' v' (upK n) ∧ Below w.heap.size w w' := by
  go_enter Try.func70, Try.ntmps70
  go_wp2_with fail
  go_loopw [3, 4] (fun v i wr => ∃ k : Nat, k ≤ n ∧ i = .int .i64 ((k : Int) + 1) ∧ OwnI w.heap.size wr v (upK k) ∧ Below w.heap.size w wr) (fun _ i _ => (n + 1) - (intOf i).toNat)
  case atStart => exact ⟨0, Nat.zero_le _, rfl, OwnI.made _ _ (Nat.le_refl _), (Below.refl _ _).alloc (Nat.le_refl _) _⟩
  case round =>
    obtain ⟨k, hk, rfl, hown, hbel⟩ := hrel
    by_cases hlt : k < n
    · have hsz := hbel.size
      have HF := hide (show upK (k + 1) = upK k ++ [(k : Int) + 1] by unfold upK; rw [List.range_succ]; simp)
      have HL := hide (upK_length k)
      go_wp2_with (at_builtin; refine append_int rfl _ _ rfl w.heap.size rfl hown rfl (by rw [HL.out]; omega) hsz ?_; intro v1 w1 hown1 hb1)
      go_roundw
      case rel => exact ⟨k + 1, by omega, by go_num, by rw [HF.out]; exact hown1, hbel.trans hb1⟩
      case measure => simp [intOf]; omega
    · obtain rfl : k = n := by omega
      go_wp2_with fail
      go_ret
      exact ⟨_, rfl, hown, hbel⟩

theorem s_l4New (vars : Int) (w : World) :
    Calls Try.prog 117 #[.int .i64 vars] w fun e w' => ∃ v', e = .returned (.agg #[.int .i64 vars, v']) ∧ FRT (w.heap.size + 1) w' v' [] ∧ Below w.heap.size w w' ∧ w.heap.size < w'.heap.size := by
  obtain ⟨wa, hwa⟩ : ∃ wa, wa = w.alloc (.cells #[.int .i64 vars, .slice (some ⟨w.heap.size + 1, 0, none⟩) 0 0] 29) := ⟨_, rfl⟩
  have hala : Below w.heap.size w wa := by rw [hwa]; exact (Below.refl _ _).alloc (Nat.le_refl _) _
  have hsa : wa.heap.size = w.heap.size + 1 := by rw [hwa]; simp
  have hBa : Blk wa w.heap.size 29 #[.int .i64 vars, .slice (some ⟨w.heap.size + 1, 0, none⟩) 0 0] := by rw [hwa]; exact Blk.new _ _ _
  obtain ⟨wb, hwb⟩ : ∃ wb, wb = wa.alloc (.cells #[] 25) := ⟨_, rfl⟩
  have halb : Below wa.heap.size wa wb := by rw [hwb]; exact (Below.refl _ _).alloc (Nat.le_refl _) _
  have hmade : FRT (w.heap.size + 1) wb (.slice (some ⟨w.heap.size + 1, 0, none⟩) 0 0) [] := by rw [hwb, ← hsa]; exact FRT.made _ _ (Nat.le_refl _)
  have HB := hide (hala.trans (halb.mono (by omega)))
  obtain ⟨z0, z1, -, -⟩ := blkTwo (hBa.below halb hBa.lt)
  have HF := hide hmade
  have HWB := hide (show wb = (w.alloc (.cells #[.int .i64 vars, .slice (some ⟨w.heap.size + 1, 0, none⟩) 0 0] 29)).alloc (.cells #[] 25) by rw [hwb, hwa])
  clear hwa hwb hmade hala halb hBa
  go_enter Try.func117, Try.ntmps117
  go_wp2_with fail
  rw [← HWB.out]
  refine bodyPost_ret (v := .agg #[.int .i64 vars, .slice (some ⟨w.heap.size + 1, 0, none⟩) 0 0]) (by simp [results, Try.results117, go_sem, z0, z1]) rfl ⟨_, rfl, HF.out, HB.out, by rw [HWB.out]; simp; omega⟩

theorem FRT.notTop {base g : Nat} {w : World} {v : Value} {ps : List (Value × List Int)} (h : FRT base w v ps) (hg : w.heap.size ≤ g) : NotAt g v ps := by
  refine ⟨fun e => ?_, fun p hp h0 e => ?_⟩
  · have := (h.1.block_lt e).2; omega
  · obtain ⟨b, hb1, _, hb2⟩ := (h.2.1.1 p hp).block h0
    rw [hb1] at e
    have : b = g := by simpa using e
    omega

set_option maxHeartbeats 1600000 in
theorem s_l4AddE {base hi : Nat} (vars : Int) (A : Option Addr) (c : Nat) (ps : List (Value × List Int)) (cv : Value) (zs : List Int) (w : World) (hR : FRT base w (.slice A ps.length c) ps) (h60 : ps.length ≤ 60) (hb : base ≤ w.heap.size)
    (h : Ints hi w cv zs) (hn : zs.length ≤ 1000) (hp : zs.Pairwise fun a b => varW a < varW b) (hs : ∀ y ∈ zs, y ≠ 0 ∧ -12 ≤ y ∧ y ≤ 12) :
    Calls Try.prog 118 #[.agg #[.int .i64 vars, .slice A ps.length c], cv] w fun e w' => ∃ v' u, e = .returned (.agg #[.int .i64 vars, v']) ∧ FRT base w' v' (ps ++ [(u, zs)]) ∧ Below base w w' ∧ ∀ g, g < w.heap.size → NotAt g (.slice A ps.length c) ps → NotAt g v' (ps ++ [(u, zs)]) ∧ w'.heap[g]? = w.heap[g]? := by
  obtain ⟨wa, hwa⟩ : ∃ wa, wa = w.alloc (.cells #[.int .i64 vars, .slice A ps.length c] 29) := ⟨_, rfl⟩
  have hala : Below w.heap.size w wa := by rw [hwa]; exact (Below.refl _ _).alloc (Nat.le_refl _) _
  have hsa : wa.heap.size = w.heap.size + 1 := by rw [hwa]; simp
  have hBa : Blk wa w.heap.size 29 #[.int .i64 vars, .slice A ps.length c] := by rw [hwa]; exact Blk.new _ _ _
  obtain ⟨wb, hwb⟩ : ∃ wb, wb = wa.alloc (.cells #[.int .i64 0, .slice none 0 0] 29) := ⟨_, rfl⟩
  have halb : Below wa.heap.size wa wb := by rw [hwb]; exact (Below.refl _ _).alloc (Nat.le_refl _) _
  have hBz : Blk wb (w.heap.size + 1) 29 #[.int .i64 0, .slice none 0 0] := by rw [hwb, ← hsa]; exact Blk.new _ _ _
  have hBb := hBa.below halb hBa.lt
  have hal := hala.trans (halb.mono (by omega))
  have hszb : wb.heap.size = w.heap.size + 1 + 1 := by rw [hwb]; simp [hsa]
  obtain ⟨x0, x1, f0, f1⟩ := blkTwo hBb
  have HWB := hide (show wb = (w.alloc (.cells #[.int .i64 vars, .slice A ps.length c] 29)).alloc (.cells #[.int .i64 0, .slice none 0 0] 29) by rw [hwb, hwa])
  have HO := hide (s_l2OfE cv zs wb (h.below hal) hn hp hs)
  have hT1 := hR.notTop (g := w.heap.size) (Nat.le_refl _)
  have hT2 := hR.notTop (g := w.heap.size + 1) (by omega)
  have HRB := hide (hR.below hal)
  have HT1 := hide hT1
  have HT2 := hide hT2
  have hown : ∀ g, (Value.slice A ps.length c).ownBlock = some g → g < w.heap.size := fun g e => (hR.1.block_lt e).2
  have HOWN := hide hown
  have h60' : (ps.length : Int) ≤ 60 := by omega
  clear hwa hwb hala halb hBa h hp hs hT1 hT2 hown
  go_enter Try.func118, Try.ntmps118
  go_wp2_with fail
  rw [← HWB.out]
  refine HO.out.mono ?_
  rintro e w1 ⟨v1, rfl, hown1, hb1⟩
  have hu := hown1.fints
  obtain ⟨A1, c1, rfl, -⟩ := id hu
  replace x0 := below_old hb1 _ _ x0
  replace x1 := below_old hb1 _ _ x1
  have hB1 := hBb.below hb1 hBb.lt
  have hZ1 := hBz.below hb1 hBz.lt
  have hsz1 := hb1.size
  have hn1 : ¬ (w.heap.size = w1.heap.size) := by omega
  go_wp2_with (at_builtin; refine append_frow (H := w1.heap.size) rfl _ _ rfl base rfl HRB.out hb1 hu rfl rfl (by omega) (by omega) ?_; intro v3 w3 hR3 hb3 hg3 hat3; have hB3 : Blk w3 w.heap.size 29 #[.int .i64 vars, .slice A ps.length c] := (hg3.block w.heap.size hBb.lt (fun e => Nat.lt_irrefl _ (HOWN.out _ e.symm))).trans hBb; have hZ3 : Blk w3 (w.heap.size + 1) 29 #[.int .i64 0, .slice none 0 0] := (hg3.block (w.heap.size + 1) hBz.lt (fun e => by have := HOWN.out _ e.symm; omega)).trans hBz; obtain ⟨A3, c3, rfl⟩ := hR3.open_; simp only [List.length_append, List.length_cons, List.length_nil, Nat.zero_add] at hR3 hat3; obtain ⟨p0, p1, g0, g1⟩ := blkTwo hB3; obtain ⟨z0, z1, k0, k1⟩ := blkTwo hZ3; have hB4 : Blk (w3.setCell ⟨w.heap.size, 1, none⟩ (.slice A3 (ps.length + 1) c3)) w.heap.size 29 #[.int .i64 vars, .slice A3 (ps.length + 1) c3] := (by simpa using hB3.set_ 1 (.slice A3 (ps.length + 1) c3)); have hZ4 : Blk (w3.setCell ⟨w.heap.size, 1, none⟩ (.slice A3 (ps.length + 1) c3)) (w.heap.size + 1) 29 #[.int .i64 0, .slice none 0 0] := hZ3.far (by show ¬ (w.heap.size + 1 = w.heap.size); omega) _; obtain ⟨q0, q1, -, -⟩ := blkTwo hB4; obtain ⟨t0, t1, j0, j1⟩ := blkTwo hZ4)
  have N1 := HT1.out.snoc (by omega) hu hat3
  have N2 := HT2.out.snoc (by omega) hu hat3
  have HR4 := hide (((hR3.set_ N1 1 (.slice A3 (ps.length + 1) c3)).set_ N2 0 (.int .i64 vars)).set_ N2 1 (.slice A3 (ps.length + 1) c3))
  have HB4 := hide (((((hal.mono hb).trans hb3).setCell (p := ⟨w.heap.size, 1, none⟩) hb (.slice A3 (ps.length + 1) c3)).setCell (p := ⟨w.heap.size + 1, 0, none⟩) (by show base ≤ w.heap.size + 1; omega) (.int .i64 vars)).setCell (p := ⟨w.heap.size + 1, 1, none⟩) (by show base ≤ w.heap.size + 1; omega) (.slice A3 (ps.length + 1) c3))
  obtain ⟨z5, z6, -, -⟩ := blkTwo (blkSet hZ4 (.int .i64 vars) (.slice A3 (ps.length + 1) c3))
  refine bodyPost_ret (v := .agg #[.int .i64 vars, .slice A3 (ps.length + 1) c3]) (by simp [results, Try.results118, go_sem, z5, z6]) rfl ⟨_, _, rfl, HR4.out, HB4.out, fun g hg hna => ⟨hna.snoc (by omega) hu hat3, ?_⟩⟩
  rw [Below.heap_setCell _ _ _ g (by show ¬ (g = w.heap.size + 1); omega), Below.heap_setCell _ _ _ g (by show ¬ (g = w.heap.size + 1); omega), Below.heap_setCell _ _ _ g (by show ¬ (g = w.heap.size); omega), hg3.block g (by omega) (fun e => hna.1 e.symm)]
  exact hal.block g hg

set_option maxHeartbeats 1600000 in
theorem s_l4Full {hi : Nat} (vars : Int) (v : Value) (zs : List Int) (kind : Nat) (w : World) (h : Ints hi w v zs) (hn : zs.length ≤ 5) (hp : zs.Pairwise fun a b => varW a < varW b) (hs : ∀ y ∈ zs, 1 ≤ y ∧ y ≤ 12) (hk : kind ≤ 2) :
    Calls Try.prog 69 #[.int .i64 vars, v, .int .i64 kind] w fun e w' => ∃ v' ps, e = .returned (.agg #[.int .i64 vars, v']) ∧ ps.map (·.2) = (maskT zs).filter (keepB kind) ∧ FRT (w.heap.size + 1) w' v' ps ∧ Below w.heap.size w w' := by
  obtain ⟨A, c, rfl, hc, hm, hrow⟩ := h.top
  obtain ⟨n, hzn⟩ : ∃ n, zs.length = n := ⟨_, rfl⟩
  obtain ⟨N, hN, hNe, hN1, hN2⟩ := pow_nat (show n ≤ 12 by omega)
  have HNe := hide hNe
  have HZN := hide hzn
  have HROW := hide hrow
  have HP := hide hp
  have HS := hide hs
  have HSN := hide (show ∀ y ∈ zs, y ≠ 0 ∧ -12 ≤ y ∧ y ≤ 12 from fun y hy => by have := hs y hy; omega)
  rw [hzn] at hc hn ⊢
  unfold maxLen at hm
  obtain ⟨wa, hwa⟩ : ∃ wa, wa = w.alloc (.cells #[.int .i64 0, .slice none 0 0] 29) := ⟨_, rfl⟩
  have hala : Below w.heap.size w wa := by rw [hwa]; exact (Below.refl _ _).alloc (Nat.le_refl _) _
  have hBa : Blk wa w.heap.size 29 #[.int .i64 0, .slice none 0 0] := by rw [hwa]; exact Blk.new _ _ _
  have hsa : w.heap.size < wa.heap.size := hBa.lt
  have HWA := hide hwa
  clear hwa hNe hrow hp hs hzn h
  go_enter Try.func69, Try.ntmps69
  go_wp2_with fail
  rw [← HWA.out]
  refine (s_l4New vars _).mono ?_
  rintro e w1 ⟨q0, rfl, hF1, hb1, hsz01⟩
  have hB1 := hBa.below hb1 hBa.lt
  have hal1 := hala.trans (hb1.mono (by omega))
  obtain ⟨Aq, cq, rfl⟩ := hF1.open_
  rw [List.length_nil] at hF1 ⊢
  obtain ⟨wb, hwb⟩ : ∃ wb, wb = w1.alloc (.cells #[.int .i64 vars, .slice Aq 0 cq] 29) := ⟨_, rfl⟩
  have halb : Below w1.heap.size w1 wb := by rw [hwb]; exact (Below.refl _ _).alloc (Nat.le_refl _) _
  have hBx : Blk wb w1.heap.size 29 #[.int .i64 vars, .slice Aq 0 cq] := by rw [hwb]; exact Blk.new _ _ _
  have hNA := hF1.notTop (g := w1.heap.size) (Nat.le_refl _)
  have HFB := hide (hF1.below halb)
  have HBZ := hide (hB1.below halb hB1.lt)
  have HAL := hide (hal1.trans (halb.mono (by have := hal1.size; omega)))
  have HWB := hide hwb
  have hs1 : w.heap.size < w1.heap.size := hB1.lt
  have hsb : w1.heap.size < wb.heap.size := hBx.lt
  have HBX := hide hBx
  have HNA := hide hNA
  clear hwb hBx hF1 hal1 halb hB1 hala hBa hNA
  go_wp2_with fail
  rw [← HWB.out]
  go_loopw [8] (fun i wr => ∃ (b : Nat) (q : Value) (qs : List (Value × List Int)), b ≤ N ∧ i = .int .i64 b ∧ Hid (qs.length ≤ b ∧ qs.map (·.2) = ((List.range b).map (maskC zs)).filter (keepB kind)) ∧ Blk wr w1.heap.size 29 #[.int .i64 vars, q] ∧ FRT (wa.heap.size + 1) wr q qs ∧ NotAt w1.heap.size q qs ∧ Below (wa.heap.size + 1) wb wr) (fun i _ => N - (intOf i).toNat)
  case atStart => exact ⟨0, _, [], Nat.zero_le _, rfl, ⟨Nat.le_refl _, rfl⟩, HBX.out, HFB.out, HNA.out, Below.refl _ _⟩
  case round =>
    obtain ⟨b, q, qs, hbN, rfl, hqs, hB, hR, hNA, hbel⟩ := hrel
    obtain ⟨wo, hwo⟩ : ∃ wo, wo = wr := ⟨_, rfl⟩
    subst hwo
    have hwo1 : w1.heap.size < wo.heap.size := Nat.lt_of_lt_of_le hsb hbel.size
    by_cases hlt : b < N
    · obtain ⟨cl, hcl⟩ : ∃ cl, maskC zs b = cl := ⟨_, rfl⟩
      have HCL := hide (show cl.length = n by rw [← hcl, maskC_len]; exact HZN.out)
      have HMK := hide hcl
      have HRN := hide (show ((List.range (b + 1)).map (maskC zs)).filter (keepB kind) = qs.map (·.2) ++ (if keepB kind cl then [cl] else []) by
        rw [List.range_succ, List.map_append, List.filter_append, hqs.out.2]
        simp only [List.map_cons, List.map_nil, hcl, List.filter_cons, List.filter_nil])
      have HQB := hide hqs.out.1
      have HR0 := hide hR
      have HB0 := hide hB
      have HN0 := hide hNA
      have HBL := hide hbel
      have b32 : b < 32 := by
        have h1 : 2 ^ n ≤ 2 ^ 5 := Nat.pow_le_pow_right (by decide) hn
        have := HNe.out
        omega
      clear hcl hqs hR hB hNA
      go_wp2_with fail
      go_loopw [9, 10, 11] (fun cv on i ws => ∃ k : Nat, k ≤ n ∧ i = .int .i64 k ∧ on = .int .i64 (negCnt (cl.take k) : Nat) ∧ OwnI wo.heap.size ws cv (cl.take k) ∧ Below wo.heap.size wo ws) (fun _ _ i _ => n - (intOf i).toNat)
      case atStart => exact ⟨0, Nat.zero_le _, rfl, by simp [negCnt], OwnI.made _ _ (Nat.le_refl _), (Below.refl _ _).alloc (Nat.le_refl _) _⟩
      case round =>
        obtain ⟨k, hkn, rfl, rfl, hown, hbs⟩ := hrel
        have hss := hbs.size
        by_cases hlt2 : k < n
        · obtain ⟨j, hj⟩ : ∃ j, j = n - 1 - k := ⟨_, rfl⟩
          have hj1 : (n : Int) - 1 - (k : Int) = (j : Int) := by omega
          have hw1 : IntKind.i64.wrap ((n : Int) - 1) = (n : Int) - 1 := by rw [IntKind.wrap_i64]; omega
          have hw2 : IntKind.i64.wrap ((j : Nat) : Int) = (j : Int) := by rw [IntKind.wrap_i64]; omega
          have hj5 : j < 5 := by omega
          obtain ⟨bz, oz, x, rfl, hx, hcx⟩ := (HROW.out).int (k := k) (by rw [HZN.out]; exact hlt2)
          have hbz : bz < w.heap.size := by obtain ⟨b', off', e', hlt', _⟩ := HROW.out (by simp [HZN.out]; omega); injection e' with e'; injection e' with e1 e2; omega
          have hcr : wr.cell? ⟨bz, oz + k, none⟩ = some (.int .i64 x) := by
            rw [(hbs.cell (p := ⟨bz, oz + k, none⟩) (by show bz < _; omega)), (HBL.out.cell (p := ⟨bz, oz + k, none⟩) (by show bz < _; omega))]
            rw [HAL.out.cell (p := ⟨bz, oz + k, none⟩) hbz]
            exact hcx
          have hxs := HS.out x (List.mem_of_getElem? (get_of_drop hx))
          have HD := hide (show cl.drop k = (if b.testBit j then -x else x) :: cl.drop (k + 1) by
            rw [← HMK.out, maskC_drop zs b k (by rw [HZN.out]; exact hlt2), HZN.out, ← hj, List.getD_eq_getElem?_getD, get_of_drop hx]
            rfl)
          have hneg : wrap64 (-x) = -x := IntWalk.wrap64_in _ (by omega)
          have HLL := hide (show (cl.take k).length ≤ 1073741824 by have := HCL.out; simp; omega)
          have hcn := Nat.le_trans (negCnt_le (cl.take k)) (show (cl.take k).length ≤ 5 by have := HCL.out; simp; omega)
          have k0 : (0 : Int) ≤ ↑k := by omega
          have k1 : (↑k : Int) < ↑n := by omega
          obtain ⟨mc, hmc⟩ : ∃ mc, negCnt (cl.take k) = mc := ⟨_, rfl⟩
          have HMC := hide hmc
          rw [hmc] at hcn ⊢
          clear hx hcx hmc hj
          cases hbt : bitB (b : Int) j with
          | true =>
            have HT := hide (show cl.take (k + 1) = cl.take k ++ [-x] from take_snoc (by rw [HD.out, ← bit_test b32 hj5, hbt]; rfl))
            have HC := hide (show negCnt (cl.take (k + 1)) = mc + 1 by rw [HT.out, negCnt_snoc, HMC.out, if_pos (by omega)])
            have hbt' := hbt
            unfold bitB at hbt'
            go_wp2_with (at_builtin; refine append_int rfl _ _ rfl wo.heap.size rfl hown rfl HLL.out hss ?_; intro v1 w5 hown1 hb5)
            go_roundw
            case rel => exact ⟨k + 1, by omega, by go_num, by rw [HC.out]; go_num, by rw [HT.out]; exact hown1, hbs.trans hb5⟩
            case measure => simp [intOf]; omega
          | false =>
            have HT := hide (show cl.take (k + 1) = cl.take k ++ [x] from take_snoc (by rw [HD.out, ← bit_test b32 hj5, hbt]; rfl))
            have HC := hide (show negCnt (cl.take (k + 1)) = mc by rw [HT.out, negCnt_snoc, HMC.out, if_neg (by omega)]; rfl)
            have hbt' := hbt
            unfold bitB at hbt'
            go_wp2_with (at_builtin; refine append_int rfl _ _ rfl wo.heap.size rfl hown rfl HLL.out hss ?_; intro v1 w5 hown1 hb5)
            go_roundw
            case rel => exact ⟨k + 1, by omega, by go_num, by rw [HC.out], by rw [HT.out]; exact hown1, hbs.trans hb5⟩
            case measure => simp [intOf]; omega
        · obtain rfl : k = n := by omega
          rw [List.take_of_length_le (by rw [HCL.out]; exact Nat.le_refl _)] at hown ⊢
          obtain ⟨mc, hmc⟩ : ∃ mc, negCnt cl = mc := ⟨_, rfl⟩
          rw [hmc]
          have hkd : (kind = 2 ∨ (kind ≠ 2 ∧ mc % 2 = kind)) ∨ (kind ≠ 2 ∧ mc % 2 ≠ kind) := by omega
          rcases hkd with hkd | ⟨hk2, hpar⟩
          · have hkp : keepB kind cl = true := by
              unfold keepB; rw [hmc]
              rcases hkd with h | ⟨h1, h2⟩
              · simp [h]
              · simp [h2]
            have HRK := hide (HRN.out.trans (by rw [if_pos hkp]))
            clear HRN hkp
            obtain ⟨Aq2, cq2, rfl⟩ := (HR0.out).open_
            have hB := (HB0.out).below hbs (HB0.out).lt
            obtain ⟨x0, x1, f0, f1⟩ := blkTwo hB
            have HBX := hide hB
            have HO := hide (s_l4AddE vars Aq2 cq2 qs u9 cl wr ((HR0.out).below hbs) (by have := HQB.out; omega) (by have := HBL.out.size; have := hb1.size; omega) hown.fints.ints (by rw [HCL.out]; omega) (by rw [← HMK.out]; exact maskC_rise zs b HSN.out HP.out) (by rw [← HMK.out]; exact maskC_small HSN.out b))
            have HHS := hide (show w1.heap.size < wr.heap.size by omega)
            have hkd' : ((kind : Int) == 2) = true ∨ (((kind : Int) == 2) = false ∧ ((mc : Int) % 2 == (kind : Int)) = true) := by simp; omega
            clear hkd
            rcases hkd' with hk2 | ⟨hk2, hpar⟩
            all_goals (go_wp2_with fail; refine HO.out.mono ?_; rintro e w4 ⟨v4, u4, rfl, hR4, hb4, hat4⟩; obtain ⟨hN4, hH4⟩ := hat4 w1.heap.size HHS.out HN0.out)
            all_goals obtain ⟨A4, c4, rfl⟩ := hR4.open_
            all_goals rw [List.length_append, List.length_singleton] at *
            all_goals (have hB4 : Blk w4 w1.heap.size 29 #[.int .i64 vars, .slice Aq2 qs.length cq2] := hH4.trans HBX.out)
            all_goals obtain ⟨y0, y1, g0, g1⟩ := blkTwo hB4
            all_goals have HB5 := hide (blkSet hB4 (.int .i64 vars) (.slice A4 (qs.length + 1) c4))
            all_goals have HR5 := hide ((hR4.set_ hN4 0 (.int .i64 vars)).set_ hN4 1 (.slice A4 (qs.length + 1) c4))
            all_goals have HBL5 := hide ((((HBL.out).trans (hbs.mono (by have := HBL.out.size; have := hb1.size; omega))).trans hb4).setCell (p := ⟨w1.heap.size, 0, none⟩) (by have := hb1.size; show _ ≤ w1.heap.size; omega) (.int .i64 vars) |>.setCell (p := ⟨w1.heap.size, 1, none⟩) (by show _ ≤ w1.heap.size; omega) (.slice A4 (qs.length + 1) c4))
            all_goals go_wp2_with fail
            all_goals go_roundw
            case rel => exact ⟨b + 1, _, _, by omega, by go_num, ⟨by rw [List.length_append, List.length_singleton]; have := HQB.out; omega, by rw [List.map_append, HRK.out]; rfl⟩, HB5.out, HR5.out, hN4, HBL5.out⟩
            case measure => simp [intOf]; omega
            case rel => exact ⟨b + 1, _, _, by omega, by go_num, ⟨by rw [List.length_append, List.length_singleton]; have := HQB.out; omega, by rw [List.map_append, HRK.out]; rfl⟩, HB5.out, HR5.out, hN4, HBL5.out⟩
            case measure => simp [intOf]; omega
          · have hkp : keepB kind cl = false := by
              unfold keepB; rw [hmc]; simp [hk2, hpar]
            have HRK := hide (HRN.out.trans (show _ = qs.map (·.2) by rw [hkp]; simp))
            have hk2' : ((kind : Int) == 2) = false := by simp; omega
            have hpar' : ((mc : Int) % 2 == (kind : Int)) = false := by simp; omega
            go_wp2_with fail
            go_roundw
            case rel => exact ⟨b + 1, q, qs, by omega, by go_num, ⟨by have := HQB.out; omega, HRK.out.symm⟩, (HB0.out).below hbs (HB0.out).lt, (HR0.out).below hbs, HN0.out, (HBL.out).trans (hbs.mono (by have := HBL.out.size; have := hb1.size; omega))⟩
            case measure => simp [intOf]; omega
    · obtain rfl : b = N := by omega
      obtain ⟨A9, c9, rfl⟩ := hR.open_
      obtain ⟨y0, y1, -, -⟩ := blkTwo hB
      have hbz : w.heap.size < wb.heap.size := by omega
      have hBZ : Blk wo w.heap.size 29 #[.int .i64 0, .slice none 0 0] := (HBZ.out).below hbel (by omega)
      obtain ⟨z0, z1, k0, k1⟩ := blkTwo hBZ
      have hN2' : NotAt w.heap.size (.slice A9 qs.length c9) qs := hR.notAt (by omega)
      have HB5 := hide (blkSet hBZ (.int .i64 vars) (.slice A9 qs.length c9))
      have HR5 := hide (((hR.set_ hN2' 0 (.int .i64 vars)).set_ hN2' 1 (.slice A9 qs.length c9)).mono (show w.heap.size + 1 ≤ wa.heap.size + 1 by omega))
      have HBL5 := hide (((HAL.out).trans (hbel.mono (by omega))).setCell (p := ⟨w.heap.size, 0, none⟩) (Nat.le_refl _) (.int .i64 vars) |>.setCell (p := ⟨w.heap.size, 1, none⟩) (Nat.le_refl _) (.slice A9 qs.length c9))
      have HQ := hide (show qs.map (·.2) = (maskT zs).filter (keepB kind) by rw [hqs.out.2]; unfold maskT; rw [HZN.out, ← HNe.out])
      go_wp2_with fail
      obtain ⟨e0, e1, -, -⟩ := blkTwo HB5.out
      refine bodyPost_ret (v := .agg #[.int .i64 vars, .slice A9 qs.length c9]) (by simp [results, Try.results69, go_sem, e0, e1]) rfl ⟨_, qs, rfl, HQ.out, HR5.out, HBL5.out⟩

end Go.Proofs.Ytkmkdfogpdndoaa
