/- The walks that stand under the laws whose answer is a formula: copies of tables, what gives a family. -/
import Derived.Test.YtkmkdfogpdndoaaTabs
import Derived.Test.YtkmkdfogpdndoaaCore
import Derived.Test.YtkmkdfogpdndoaaSl
import Derived.Deep.AppendLies
import Derived.Deep.RegionLaw
import Derived.Test.YtkmkdfogpdndoaaTopC
namespace Go.Proofs.Ytkmkdfogpdndoaa
open Go.RowKit
set_option linter.unusedVariables false

set_option maxHeartbeats 400000 in
theorem s_l1Own {hi : Nat} (v : Value) (zs : List Int) (w : World) (h : Ints hi w v zs) (hn : zs.length ≤ 16777216) :
    Calls Try.prog 95 #[v] w fun e w' => ∃ v', e = .returned v' ∧ OwnI w.heap.size w' v' zs ∧ Below w.heap.size w w' := by
  obtain ⟨A, c, rfl, hc, hm, hrow⟩ := h
  unfold maxLen at hm
  have hmade := OwnI.made w.heap.size w (Nat.le_refl _)
  have hrow' := hrow.below ((Below.refl w.heap.size w).alloc (Nat.le_refl _) (.cells #[] 3))
  go_enter Try.func95, Try.ntmps95
  go_wp2_with (at_builtin; refine append_ints rfl _ _ rfl w.heap.size rfl hmade rfl hrow' (by simp; omega) (by simp) ?_; intro v1 w1 hown1 hb1)
  go_ret
  exact ⟨_, rfl, by simpa using hown1, ((Below.refl _ _).alloc (Nat.le_refl _) _).trans hb1⟩

set_option maxHeartbeats 800000 in
theorem i_cloneLists {hi : Nat} (v : Value) (t : List (List Int)) (w : World) (h : Tab hi w v t) (hn : t.length ≤ 16777216) (hz : ∀ z ∈ t, z.length ≤ 16777216) :
    Calls Try.prog 64 #[v] w fun e w' => ∃ v' ps, e = .returned v' ∧ ps.map (·.2) = t ∧ FRT w.heap.size w' v' ps ∧ Below w.heap.size w w' := by
  obtain ⟨A, c, ps, rfl, hc, hm, rfl, hrow, hps⟩ := h.top.open_
  have HPS := hide hps
  have HZ := hide hz
  have HN := hide (show ps.length ≤ 16777216 by simpa using hn)
  unfold maxLen at hm
  clear hps hz hn h
  go_enter Try.func64, Try.ntmps64
  go_wp2_with fail
  go_loopw [3, 8] (fun q i wr => ∃ (k : Nat) (qs : List (Value × List Int)), k ≤ ps.length ∧ i = .int .i64 k ∧ Hid (qs.length = k ∧ qs.map (·.2) = (ps.map (·.2)).take k) ∧ FRT w.heap.size wr q qs ∧ Below w.heap.size w wr) (fun _ i _ => ps.length - (intOf i).toNat)
  case atStart => exact ⟨0, [], Nat.zero_le _, rfl, ⟨rfl, rfl⟩, FRT.nil _ _, Below.refl _ _⟩
  case round =>
    obtain ⟨k, qs, hk, rfl, hqs, hR, hbel⟩ := hrel
    by_cases hlt : k < ps.length
    · obtain ⟨b, off, u, z, rfl, hx, hcw, hzz⟩ := hrow.tab HPS.out hlt
      have hbb : b < w.heap.size := by obtain ⟨b', off', e', hlt', _⟩ := hrow (by simp; omega); injection e' with e'; injection e' with e1 e2; omega
      replace hcw := (hbel.cell (p := ⟨b, off + k, none⟩) hbb).trans hcw
      have hzr := hzz.below hbel
      have hzn : z.length ≤ 16777216 := HZ.out z (by
        have := List.mem_of_getElem? (get_of_drop hx)
        exact List.mem_map.2 ⟨_, this, rfl⟩)
      have HF : Hid ((qs ++ [(u, z)]).map (·.2) = (ps.map (·.2)).take (k + 1)) := by
        show _ = _
        rw [List.map_append, hqs.out.2, take_snoc_l (x := z) (by rw [← List.map_drop, hx]; simp)]
        rfl
      have HL := hide hqs.out.1
      have HLN := hide (show qs.length ≤ 1073741824 by have := hqs.out.1; have := HN.out; omega)
      obtain ⟨Au, cu, rfl, -⟩ := id hzz
      have hwr := hbel.size
      clear hx hqs
      go_wp2_with fail
      refine (g_Clone _ z _ hzr hzn).mono ?_
      rintro e w2 ⟨v2, rfl, hown2, hb2⟩
      have hu := hown2.fints
      obtain ⟨A2, c2, rfl, -⟩ := id hu
      go_wp2_with (at_builtin; refine append_frow (H := w2.heap.size) rfl _ _ rfl w.heap.size rfl hR hb2 hu rfl rfl HLN.out hwr ?_; intro v3 w3 hR3 hb3 hg3 hat3)
      go_roundw
      case rel => exact ⟨k + 1, _, by omega, by go_num, ⟨by simp [HL.out], by simpa using HF.out⟩, hR3, hbel.trans hb3⟩
      case measure => simp [intOf]; omega
    · obtain rfl : k = ps.length := by omega
      have HQ := hide hqs.out.2
      clear hqs
      go_wp2_with fail
      go_ret
      first | exact ⟨_, qs, rfl, by rw [HQ.out, List.take_of_length_le (by simp)], hR, hbel⟩ | exact ⟨_, rfl, qs, by rw [HQ.out, List.take_of_length_le (by simp)], hR, hbel⟩

theorem blkTwo {w : World} {g : Nat} {T : TypeId} {a b : Value} (h : Blk w g T #[a, b]) : w.cell? ⟨g, 0, none⟩ = some a ∧ w.cell? ⟨g, 1, none⟩ = some b ∧ w.frozen? ⟨g, 0, none⟩ = false ∧ w.frozen? ⟨g, 1, none⟩ = false :=
  ⟨by simpa using h.cell 0, by simpa using h.cell 1, h.frozen 0, h.frozen 1⟩
theorem blkSet {w : World} {g : Nat} {T : TypeId} {a b : Value} (h : Blk w g T #[a, b]) (x y : Value) : Blk ((w.setCell ⟨g, 0, none⟩ x).setCell ⟨g, 1, none⟩ y) g T #[x, y] := by
  simpa using (h.set_ 0 x).set_ 1 y

/-- what is given: the formula, or nothing -/
def giveR : Bool → Value → Value
  | true, x => .tuple #[x, .bool true]
  | false, _ => .tuple #[.agg #[.int .i64 0, .slice none 0 0], .bool false]
theorem giveR_yes (x : Value) : giveR true x = .tuple #[x, .bool true] := rfl
theorem giveR_no (x : Value) : giveR false x = .tuple #[.agg #[.int .i64 0, .slice none 0 0], .bool false] := rfl

set_option maxHeartbeats 800000 in
theorem s_l4Give {hi : Nat} (g : Bool) (vars : Int) (A : Option Addr) (n c : Nat) (t : List (List Int)) (w : World) (ht : Tab hi w (.slice A n c) t) (hg : goodB (vars, t) = g) :
    Calls Try.prog 63 #[.agg #[.int .i64 vars, .slice A n c]] w fun e w' => e = .returned (giveR g (.agg #[.int .i64 vars, .slice A n c])) ∧ Below w.heap.size w w' := by
  obtain ⟨wa, hwa⟩ : ∃ wa, wa = w.alloc (.cells #[.int .i64 vars, .slice A n c] 29) := ⟨_, rfl⟩
  have hala : Below w.heap.size w wa := by rw [hwa]; exact (Below.refl _ _).alloc (Nat.le_refl _) _
  have hsa : wa.heap.size = w.heap.size + 1 := by rw [hwa]; simp
  have xa0 : wa.cell? ⟨w.heap.size, 0, none⟩ = some (.int .i64 vars) := by rw [hwa]; simp
  have xa1 : wa.cell? ⟨w.heap.size, 1, none⟩ = some (.slice A n c) := by rw [hwa]; simp
  obtain ⟨wb, hwb⟩ : ∃ wb, wb = wa.alloc (.cells #[.int .i64 0, .slice none 0 0] 29) := ⟨_, rfl⟩
  have halb : Below wa.heap.size wa wb := by rw [hwb]; exact (Below.refl _ _).alloc (Nat.le_refl _) _
  have hBx : Blk wb (w.heap.size + 1) 29 #[.int .i64 0, .slice none 0 0] := by rw [hwb, ← hsa]; exact Blk.new _ _ _
  have x00 := below_old halb _ _ xa0
  have x01 := below_old halb _ _ xa1
  have hal := hala.trans (halb.mono (by omega))
  have htb := ht.top.below hal
  have HWB := hide (show wb = (w.alloc (.cells #[.int .i64 vars, .slice A n c] 29)).alloc (.cells #[.int .i64 0, .slice none 0 0] 29) by rw [hwb, hwa])
  clear hwb hwa hala halb xa0 xa1 hsa
  go_enter Try.func63, Try.ntmps63
  go_wp2_with fail
  rw [← HWB.out]
  refine (s_l2Good _ (vars, t) _ ⟨_, rfl, htb⟩).mono ?_
  rintro e w1 ⟨rfl, hb1⟩
  replace x00 := below_old hb1 _ _ x00
  replace x01 := below_old hb1 _ _ x01
  replace hal := hal.trans (hb1.mono hal.size)
  have hy := hBx.below hb1 hBx.lt
  obtain ⟨y0, y1, f0, f1⟩ := blkTwo hy
  have hset : ∀ x y, Below w.heap.size w ((w1.setCell ⟨w.heap.size + 1, 0, none⟩ x).setCell ⟨w.heap.size + 1, 1, none⟩ y) := fun x y => (hal.setCell (p := ⟨w.heap.size + 1, 0, none⟩) (by simp) x).setCell (p := ⟨w.heap.size + 1, 1, none⟩) (by simp) y
  rw [hg]
  cases g with
  | true =>
    have HS := hide (hset (.int .i64 vars) (.slice A n c))
    obtain ⟨z0, z1, -, -⟩ := blkTwo (blkSet hy (.int .i64 vars) (.slice A n c))
    clear hset hy
    go_wp2_with fail
    refine bodyPost_ret (v := .tuple #[.agg #[.int .i64 vars, .slice A n c], .bool true]) (by simp [results, Try.results63, go_sem, z0, z1]) rfl ⟨rfl, HS.out⟩
  | false =>
    have HS := hide (hset (.int .i64 0) (.slice none 0 0))
    obtain ⟨z0, z1, -, -⟩ := blkTwo (blkSet hy (.int .i64 0) (.slice none 0 0))
    clear hset hy
    go_wp2_with fail
    refine bodyPost_ret (v := .tuple #[.agg #[.int .i64 0, .slice none 0 0], .bool false]) (by simp [results, Try.results63, go_sem, z0, z1]) rfl ⟨rfl, HS.out⟩

set_option maxHeartbeats 800000 in
theorem i_famCnf {hi : Nat} (g : Bool) (vars : Int) (A : Option Addr) (n c : Nat) (t : List (List Int)) (w : World) (b : Nat) (hB : Blk w b 60 #[.int .i64 vars, .slice A n c]) (ht : Tab hi w (.slice A n c) t) (hg : goodB (vars, t) = g) :
    Calls Try.prog 66 #[.pointer (some ⟨b, 0, none⟩)] w fun e w' => e = .returned (giveR g (.agg #[.int .i64 vars, .slice A n c])) ∧ Below w.heap.size w w' := by
  obtain ⟨wa, hwa⟩ : ∃ wa, wa = w.alloc (.cells #[.int .i64 0, .slice none 0 0] 29) := ⟨_, rfl⟩
  have hala : Below w.heap.size w wa := by rw [hwa]; exact (Below.refl _ _).alloc (Nat.le_refl _) _
  have hsa : wa.heap.size = w.heap.size + 1 := by rw [hwa]; simp
  have hBx : Blk wa w.heap.size 29 #[.int .i64 0, .slice none 0 0] := by rw [hwa]; exact Blk.new _ _ _
  have hBa := hB.below hala hB.lt
  obtain ⟨b0, b1, g0, g1⟩ := blkTwo hBa
  have hta := ht.top.below hala
  have HWA := hide hwa
  have hbl := hB.lt
  have n0 : ¬ (b = w.heap.size) := by omega
  have n1 : ¬ (b = wa.heap.size) := by omega
  clear hwa
  go_enter Try.func66, Try.ntmps66
  go_wp2_with fail
  rw [← HWA.out]
  go_region
  obtain ⟨wc, hwc⟩ : ∃ wc, wc = (wa.alloc (.cells #[.int .i64 vars, .slice A n c] 29)).drew := ⟨_, rfl⟩
  have halc : Below wa.heap.size wa wc := by rw [hwc]; exact (((Below.refl _ _).alloc (Nat.le_refl _) _).trans ((below_drew _).mono (by simp)))
  have hBc : Blk wc (w.heap.size + 1) 29 #[.int .i64 vars, .slice A n c] := by rw [hwc, ← hsa]; exact Blk.new _ _ _
  have hBy := hBx.below halc hBx.lt
  have htc := hta.below halc
  have hal := hala.trans (halc.mono (by omega))
  have HWC := hide hwc
  clear hwc
  rw [← HWC.out]
  obtain ⟨c0, c1, -, -⟩ := blkTwo hBc
  go_wp2_with fail
  refine (i_IsCnf _ (vars, t) _ ⟨_, rfl, htc⟩).mono ?_
  rintro e w1 ⟨rfl, hb1⟩
  replace c0 := below_old hb1 _ _ c0
  replace c1 := below_old hb1 _ _ c1
  replace hal := hal.trans (hb1.mono hal.size)
  have hy := hBy.below hb1 hBy.lt
  obtain ⟨y0, y1, f0, f1⟩ := blkTwo hy
  have hset : ∀ x y, Below w.heap.size w ((w1.setCell ⟨w.heap.size, 0, none⟩ x).setCell ⟨w.heap.size, 1, none⟩ y) := fun x y => (hal.setCell (p := ⟨w.heap.size, 0, none⟩) (by simp) x).setCell (p := ⟨w.heap.size, 1, none⟩) (by simp) y
  rw [hg]
  cases g with
  | true =>
    have HS := hide (hset (.int .i64 vars) (.slice A n c))
    obtain ⟨z0, z1, -, -⟩ := blkTwo (blkSet hy (.int .i64 vars) (.slice A n c))
    clear hset hy
    go_wp2_with fail
    refine bodyPost_ret (v := .tuple #[.agg #[.int .i64 vars, .slice A n c], .bool true]) (by simp [results, Try.results66, go_sem, z0, z1]) rfl ⟨rfl, HS.out⟩
  | false =>
    have HS := hide (hset (.int .i64 0) (.slice none 0 0))
    obtain ⟨z0, z1, -, -⟩ := blkTwo (blkSet hy (.int .i64 0) (.slice none 0 0))
    clear hset hy
    go_wp2_with fail
    refine bodyPost_ret (v := .tuple #[.agg #[.int .i64 0, .slice none 0 0], .bool false]) (by simp [results, Try.results66, go_sem, z0, z1]) rfl ⟨rfl, HS.out⟩

theorem FRT.notAt {base g : Nat} {w : World} {v : Value} {ps : List (Value × List Int)} (h : FRT base w v ps) (hg : g < base) : NotAt g v ps := by
  refine ⟨fun e => ?_, fun p hp h0 e => ?_⟩
  · have := (h.1.block_lt e).1
    omega
  · obtain ⟨b, hb1, hb2, _⟩ := (h.2.1.1 p hp).block h0
    rw [hb1] at e
    have : b = g := by simpa using e
    omega

set_option maxHeartbeats 1600000 in
theorem s_l2Own {hi : Nat} (vars : Int) (A : Option Addr) (n c : Nat) (t : List (List Int)) (w : World) (ht : Tab hi w (.slice A n c) t) (hn : t.length ≤ 16777216) (hz : ∀ z ∈ t, z.length ≤ 16777216) :
    Calls Try.prog 62 #[.agg #[.int .i64 vars, .slice A n c]] w fun e w' => ∃ v' ps, e = .returned (.agg #[.int .i64 vars, v']) ∧ ps.map (·.2) = t ∧ FRT (w.heap.size + 1 + 1) w' v' ps ∧ Below w.heap.size w w' := by
  obtain ⟨wa, hwa⟩ : ∃ wa, wa = w.alloc (.cells #[.int .i64 vars, .slice A n c] 29) := ⟨_, rfl⟩
  have hala : Below w.heap.size w wa := by rw [hwa]; exact (Below.refl _ _).alloc (Nat.le_refl _) _
  have hsa : wa.heap.size = w.heap.size + 1 := by rw [hwa]; simp
  have hBa : Blk wa w.heap.size 29 #[.int .i64 vars, .slice A n c] := by rw [hwa]; exact Blk.new _ _ _
  obtain ⟨wb, hwb⟩ : ∃ wb, wb = wa.alloc (.cells #[.int .i64 0, .slice none 0 0] 29) := ⟨_, rfl⟩
  have halb : Below wa.heap.size wa wb := by rw [hwb]; exact (Below.refl _ _).alloc (Nat.le_refl _) _
  have hsb : wb.heap.size = w.heap.size + 1 + 1 := by rw [hwb]; simp [hsa]
  have hBb : Blk wb (w.heap.size + 1) 29 #[.int .i64 0, .slice none 0 0] := by rw [hwb, ← hsa]; exact Blk.new _ _ _
  obtain ⟨wc, hwc⟩ : ∃ wc, wc = wb.alloc (.cells #[] 25) := ⟨_, rfl⟩
  have halc : Below wb.heap.size wb wc := by rw [hwc]; exact (Below.refl _ _).alloc (Nat.le_refl _) _
  have hsc : wc.heap.size = w.heap.size + 1 + 1 + 1 := by rw [hwc]; simp [hsb]
  have hmade : FRT (w.heap.size + 1 + 1) wc (.slice (some ⟨w.heap.size + 1 + 1, 0, none⟩) 0 0) [] := by rw [hwc, ← hsb]; exact FRT.made _ _ (Nat.le_refl _)
  obtain ⟨wd, hwd⟩ : ∃ wd, wd = wc.alloc (.cells #[.int .i64 vars, .slice (some ⟨w.heap.size + 1 + 1, 0, none⟩) 0 0] 29) := ⟨_, rfl⟩
  have hald : Below wc.heap.size wc wd := by rw [hwd]; exact (Below.refl _ _).alloc (Nat.le_refl _) _
  have hBd : Blk wd (w.heap.size + 1 + 1 + 1) 29 #[.int .i64 vars, .slice (some ⟨w.heap.size + 1 + 1, 0, none⟩) 0 0] := by rw [hwd, ← hsc]; exact Blk.new _ _ _
  have hBa2 := ((hBa.below halb (by omega)).below halc (by omega)).below hald (by omega)
  have hBb2 := (hBb.below halc (by omega)).below hald (by omega)
  have hFd := hmade.below hald
  have hal1 := hala.trans (halb.mono (by omega))
  have hal2 := hal1.trans (halc.mono (by omega))
  have hal := hal2.trans (hald.mono (by omega))
  have htd := ht.top.below hal
  obtain ⟨A', c', ps, e', hc, hm, htt, hrow, hps⟩ := htd.open_
  injection e' with e1 e2 e3
  subst e1 e2 e3
  have HWD := hide (show wd = (((w.alloc (.cells #[.int .i64 vars, .slice A ps.length c] 29)).alloc (.cells #[.int .i64 0, .slice none 0 0] 29)).alloc (.cells #[] 25)).alloc (.cells #[.int .i64 vars, .slice (some ⟨w.heap.size + 1 + 1, 0, none⟩) 0 0] 29) by rw [hwd, hwc, hwb, hwa])
  have HPS := hide hps
  have HTT := hide htt
  have HZ := hide hz
  have HN := hide (show ps.length ≤ 16777216 by rw [htt] at hn; simpa using hn)
  have HFD := hide hFd
  have HBD := hide hBd
  have HSD := hide (show w.heap.size + 4 ≤ wd.heap.size by have := hald.size; rw [hwd]; simp; omega)
  obtain ⟨x00, x01, -, -⟩ := blkTwo hBa2
  unfold maxLen at hm
  clear hwa hwb hwc hwd hala halb halc hald hsa hsb hsc hmade hBa hBb hBd hBa2 hFd hal1 hal2 hps htt hz hn ht
  go_enter Try.func62, Try.ntmps62
  go_wp2_with fail
  rw [← HWD.out]
  go_loopw [4] (fun i wr => ∃ (k : Nat) (q : Value) (qs : List (Value × List Int)), k ≤ ps.length ∧ i = .int .i64 k ∧ Hid (qs.length = k ∧ qs.map (·.2) = (ps.map (·.2)).take k) ∧ Blk wr (w.heap.size + 1 + 1 + 1) 29 #[.int .i64 vars, q] ∧ FRT (w.heap.size + 1 + 1) wr q qs ∧ NotAt (w.heap.size + 1 + 1 + 1) q qs ∧ Below (w.heap.size + 1 + 1) wd wr) (fun i _ => ps.length - (intOf i).toNat)
  case atStart => exact ⟨0, _, [], Nat.zero_le _, rfl, ⟨rfl, rfl⟩, HBD.out, HFD.out, ⟨by simp [Value.ownBlock], by simp⟩, Below.refl _ _⟩
  case round =>
    obtain ⟨k, q, qs, hk, rfl, hqs, hB, hR, hNA, hbel⟩ := hrel
    have q01 := (hbel.cell (p := ⟨w.heap.size, 1, none⟩) (by show w.heap.size < _; omega)).trans x01
    have hwr : w.heap.size + 4 ≤ wr.heap.size := Nat.le_trans HSD.out hbel.size
    obtain ⟨y0, y1, f0, f1⟩ := blkTwo hB
    by_cases hlt : k < ps.length
    · obtain ⟨b, off, u, z, rfl, hx, hcw, hzz⟩ := hrow.tab HPS.out hlt
      have hbb : b < w.heap.size := by obtain ⟨b', off', e', hlt', _⟩ := hrow (by simp; omega); injection e' with e'; injection e' with e1 e2; omega
      replace hcw := (hbel.cell (p := ⟨b, off + k, none⟩) (by simp; omega)).trans hcw
      have hzr := hzz.under hbel (by omega)
      have hzn : z.length ≤ 16777216 := HZ.out z (by
        have := List.mem_of_getElem? (get_of_drop hx)
        rw [HTT.out]
        exact List.mem_map.2 ⟨_, this, rfl⟩)
      have HF : Hid (qs.map (·.2) ++ [z] = (ps.map (·.2)).take (k + 1)) := by
        show _ = _
        rw [hqs.out.2, take_snoc_l (x := z) (by rw [← List.map_drop, hx]; simp)]
      have HL := hide hqs.out.1
      have HLN := hide (show qs.length ≤ 1073741824 by have := hqs.out.1; have := HN.out; omega)
      have HZR := hide (hzr.below (below_drew wr))
      obtain ⟨Au, cu, rfl, -⟩ := id hzz
      obtain ⟨Aq, cq, rfl⟩ := hR.open_
      have k0 : (0 : Int) ≤ ↑k := by omega
      have k1 : (↑k : Int) < ↑ps.length := by omega
      have HWR := hide (show w.heap.size + 1 + 1 ≤ wr.heap.size by omega)
      have HWX := hide (show w.heap.size + 1 + 1 + 1 < wr.heap.size by omega)
      have HGE := hide (show w.heap.size + 1 + 1 ≤ w.heap.size + 1 + 1 + 1 by omega)
      have HNN := hide (show ∀ W, Below wr.heap.size wr W → ¬ (w.heap.size + 1 + 1 + 1 = W.heap.size) from fun W hW => by have := hW.size; omega)
      have HBK := hide (show ∀ W, Below wr.heap.size wr W → W.cell? ⟨w.heap.size + 1 + 1 + 1, 0, none⟩ = some (.int .i64 vars) ∧ W.cell? ⟨w.heap.size + 1 + 1 + 1, 1, none⟩ = some (.slice Aq qs.length cq) from fun W hW => ⟨below_old hW _ _ y0, below_old hW _ _ y1⟩)
      have HBG := hide (show ∀ W, wr.grownBy W (Value.slice Aq qs.length cq).ownBlock → Blk W (w.heap.size + 1 + 1 + 1) 29 #[.int .i64 vars, .slice Aq qs.length cq] from fun W hW => (hW.block (w.heap.size + 1 + 1 + 1) hB.lt (fun e => hNA.1 e.symm)).trans hB)
      clear hx hqs
      go_wp2_with fail
      go_region_law (first | (go_simp; go_at_call 95; refine (s_l1Own _ z _ HZR.out hzn).mono ?_; rintro e w2 ⟨v2, rfl, hown2, hb2⟩; have hb2' := (below_drew wr).trans hb2; have hu := hown2.fints; obtain ⟨A2, c2, rfl, -⟩ := id hu; obtain ⟨p0, p1⟩ := HBK.out w2 hb2'; have hnn := HNN.out w2 hb2'; have p2 := (HBK.out _ (below_alloc_of hb2' (.cells #[.slice A2 z.length c2] 25))).2) | ((refine step_frow (H := w2.heap.size) rfl _ _ rfl (w.heap.size + 1 + 1) ?_ wr hR w2 hb2' hu ?_ ?_ HLN.out ?_ ?_ ?_); (· rfl); (· (repeat (first | exact Below.refl _ _ | apply below_drew_of | apply below_alloc_of))); (· exact HWR.out); (· rfl); (· simp); (intro v3 w3 hR3 hb3 hg3 hat3; have hB3 := HBG.out w3 hg3; obtain ⟨A3, c3, rfl⟩ := hR3.open_; simp only [List.length_append, List.length_cons, List.length_nil, Nat.zero_add] at hR3 hat3; obtain ⟨p0, p1, g0, g1⟩ := blkTwo hB3)))
      all_goals (have hN3 := hNA.snoc HWX.out hu hat3; have hB4 := hB3.set_ 1 (Value.slice A3 (qs.length + 1) c3); have hR4 := hR3.set_ hN3 1 (Value.slice A3 (qs.length + 1) c3); have hb4 := (hbel.trans hb3).setCell (p := ⟨w.heap.size + 1 + 1 + 1, 1, none⟩) HGE.out (Value.slice A3 (qs.length + 1) c3))
      all_goals go_wp2_with fail
      all_goals go_roundw
      all_goals first | (exact ⟨k + 1, _, _, by omega, by go_num, ⟨by simp [HL.out], by rw [List.map_append]; exact HF.out⟩, by simpa using hB4, hR4, hN3, hb4⟩) | (simp [intOf]; omega)
    · obtain rfl : k = ps.length := by omega
      have HQ := hide hqs.out.2
      have hyr := hBb2.below hbel (by omega)
      obtain ⟨z0, z1, g0, g1⟩ := blkTwo hyr
      obtain ⟨Aq, cq, rfl⟩ := hR.open_
      obtain ⟨u0, u1, -, -⟩ := blkTwo (blkSet hyr (.int .i64 vars) (.slice Aq qs.length cq))
      have hNr := hR.notAt (g := w.heap.size + 1) (by omega)
      have hR2 := hide ((hR.set_ hNr 0 (.int .i64 vars)).set_ hNr 1 (.slice Aq qs.length cq))
      have hb2 := hide (((hal.trans (hbel.mono (by omega))).setCell (p := ⟨w.heap.size + 1, 0, none⟩) (by simp) (.int .i64 vars)).setCell (p := ⟨w.heap.size + 1, 1, none⟩) (by simp) (.slice Aq qs.length cq))
      clear hqs
      go_wp2_with fail
      refine bodyPost_ret (v := .agg #[.int .i64 vars, .slice Aq qs.length cq]) (by simp [results, Try.results62, go_sem, u0, u1]) rfl ⟨_, rfl, qs, by rw [HQ.out, HTT.out, List.take_of_length_le (by simp)], hR2.out, hb2.out⟩

end Go.Proofs.Ytkmkdfogpdndoaa
