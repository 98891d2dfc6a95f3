/- The laws ApartCnfs: each returns true for every input, and the arguments read as before. The walks go by the functions' contracts; the rows' steps lie behind them. -/
import Derived.Test.YtkmkdfogpdndoaaCnf
import Derived.Test.YtkmkdfogpdndoaaTopC
import Derived.Test.YtkmkdfogpdndoaaApart
import Derived.ProofKit
import Derived.OpenShut
import Derived.ShutString
import Derived.ChangeOld
import Derived.Below
import Derived.Deep.RegionHeld3
import Derived.Test.YtkmkdfogpdndoaaReg
namespace Go.Proofs.Ytkmkdfogpdndoaa
open Go.ChangeShapes Go.WideShapes Go.ChangeAt Go.RowKit
open Go.ChangeMaps (open_string shut_string)
set_option linter.unusedVariables false

set_option maxRecDepth 100000 in
set_option maxHeartbeats 1600000 in
theorem fnExactApartCnfs_walk (W : World) (v0 : Value) (a0 : CnfL) (in0 : InCnf W v0 a0) (v1 : Value) (a1 : CnfL) (in1 : InCnf W v1 a1) :
    Calls Try.prog 5 #[v0, v1] W fun e w' => e = .returned (.bool true) ∧ Below W.heap.size W w' := by
  obtain ⟨hA0, wf0⟩ := in0
  obtain ⟨hA1, wf1⟩ := in1
  obtain ⟨A0, n0, c0, rfl, -⟩ := hA0.open2
  obtain ⟨A1, n1, c1, rfl, -⟩ := hA1.open2
  obtain ⟨wb, hwb⟩ : ∃ wb, wb = ((W.alloc (.cells #[.int .i64 a0.1, .slice A0 n0 c0] 24)).alloc (.cells #[.int .i64 a1.1, .slice A1 n1 c1] 24)) := ⟨_, rfl⟩
  have bt : Below W.heap.size W wb := by rw [hwb]; exact ((Below.refl _ _).alloc (by simp) _).alloc (by simp) _
  have szb : W.heap.size + 2 = wb.heap.size := by rw [hwb]; simp
  have x00 : wb.cell? ⟨W.heap.size, 0, none⟩ = some (.int .i64 a0.1) := by rw [hwb]; simp
  have x01 : wb.cell? ⟨W.heap.size, 1, none⟩ = some (.slice A0 n0 c0) := by rw [hwb]; simp
  have x10 : wb.cell? ⟨W.heap.size + 1, 0, none⟩ = some (.int .i64 a1.1) := by rw [hwb]; simp
  have x11 : wb.cell? ⟨W.heap.size + 1, 1, none⟩ = some (.slice A1 n1 c1) := by rw [hwb]; simp
  replace hA0 := hA0.below bt
  replace hA1 := hA1.below bt
  have HWB := hide hwb
  clear hwb
  by_cases hn0 : szC a0 ≤ 1048576
  case neg =>
    go_enter Try.func5, Try.ntmps5
    go_wp2_with fail
    rw [← HWB.out]
    refine (szCnf_any _ _ ((1048576 : Int)) _ hA0 (by omega) (by omega)).mono ?_
    rintro e w1 ⟨rfl, b1⟩
    replace hA0 := hA0.below b1
    replace hA1 := hA1.below b1
    replace x00 := below_old b1 _ _ x00
    replace x01 := below_old b1 _ _ x01
    replace x10 := below_old b1 _ _ x10
    replace x11 := below_old b1 _ _ x11
    have sz1 := b1.size
    replace bt := bt.trans (b1.mono bt.size)
    clear b1
    rw [show leftB ((1048576 : Int)) (szC a0) = -1 from by unfold leftB; rw [if_neg (by omega)]]
    go_wp2_with fail
    go_ret
    exact ⟨rfl, bt⟩
  by_cases hn1 : szC a0 + szC a1 ≤ 1048576
  case neg =>
    go_enter Try.func5, Try.ntmps5
    go_wp2_with fail
    rw [← HWB.out]
    refine (szCnf_any _ _ ((1048576 : Int)) _ hA0 (by omega) (by omega)).mono ?_
    rintro e w1 ⟨rfl, b1⟩
    replace hA0 := hA0.below b1
    replace hA1 := hA1.below b1
    replace x00 := below_old b1 _ _ x00
    replace x01 := below_old b1 _ _ x01
    replace x10 := below_old b1 _ _ x10
    replace x11 := below_old b1 _ _ x11
    have sz1 := b1.size
    replace bt := bt.trans (b1.mono bt.size)
    clear b1
    rw [show leftB ((1048576 : Int)) (szC a0) = (1048576 : Int) - (szC a0 : Int) from by unfold leftB; rw [if_pos (by omega)]]
    go_wp2_with fail
    refine (szCnf_any _ _ ((1048576 : Int) - (szC a0 : Int)) _ hA1 (by omega) (by omega)).mono ?_
    rintro e w2 ⟨rfl, b2⟩
    replace hA0 := hA0.below b2
    replace hA1 := hA1.below b2
    replace x00 := below_old b2 _ _ x00
    replace x01 := below_old b2 _ _ x01
    replace x10 := below_old b2 _ _ x10
    replace x11 := below_old b2 _ _ x11
    have sz2 := b2.size
    replace bt := bt.trans (b2.mono bt.size)
    clear b2
    rw [show leftB ((1048576 : Int) - (szC a0 : Int)) (szC a1) = -1 from by unfold leftB; rw [if_neg (by omega)]]
    go_wp2_with fail
    go_ret
    exact ⟨rfl, bt⟩
  have hcc0 := cntC_le a0
  have hcc1 := cntC_le a1
  obtain ⟨r0, r1, hR⟩ : ∃ r0 r1, fApartCnfs a0 a1 = (r0, r1) := ⟨_, _, rfl⟩
  have hl0 := fApartCnfs_len (by omega) (by omega) hR
  have hcr0 := cntC_le r0
  have HR := hide hR
  clear hR
  go_enter Try.func5, Try.ntmps5
  go_wp2_with fail
  rw [← HWB.out]
  refine (szCnf_any _ _ ((1048576 : Int)) _ hA0 (by omega) (by omega)).mono ?_
  rintro e w1 ⟨rfl, b1⟩
  replace hA0 := hA0.below b1
  replace hA1 := hA1.below b1
  replace x00 := below_old b1 _ _ x00
  replace x01 := below_old b1 _ _ x01
  replace x10 := below_old b1 _ _ x10
  replace x11 := below_old b1 _ _ x11
  have sz1 := b1.size
  replace bt := bt.trans (b1.mono bt.size)
  clear b1
  rw [show leftB ((1048576 : Int)) (szC a0) = (1048576 : Int) - (szC a0 : Int) from by unfold leftB; rw [if_pos (by omega)]]
  go_wp2_with fail
  refine (szCnf_any _ _ ((1048576 : Int) - (szC a0 : Int)) _ hA1 (by omega) (by omega)).mono ?_
  rintro e w2 ⟨rfl, b2⟩
  replace hA0 := hA0.below b2
  replace hA1 := hA1.below b2
  replace x00 := below_old b2 _ _ x00
  replace x01 := below_old b2 _ _ x01
  replace x10 := below_old b2 _ _ x10
  replace x11 := below_old b2 _ _ x11
  have sz2 := b2.size
  replace bt := bt.trans (b2.mono bt.size)
  clear b2
  rw [show leftB ((1048576 : Int) - (szC a0 : Int)) (szC a1) = (1048576 : Int) - (szC a0 : Int) - (szC a1 : Int) from by unfold leftB; rw [if_pos (by omega)]]
  go_wp2_with fail
  refine region_via (R := fun a a' w' => ∃ (b : Nat) (u1 u2 : Value) (B : Option Addr) (N D : Nat), a' = { tmps := ((((((((((a.tmps.setIfInBounds 28 (.agg #[.int .i64 a0.1, .slice A0 n0 c0])).setIfInBounds 29 (u1)).setIfInBounds 30 (.agg #[.int .i64 a1.1, .slice A1 n1 c1])).setIfInBounds 31 (u2)).setIfInBounds 32 (.tuple #[.agg #[.int .i64 r0.1, .slice B N D], .bool r1])).setIfInBounds 27 (.tuple #[.agg #[.int .i64 r0.1, .slice B N D], .bool r1])).setIfInBounds 33 (.agg #[.int .i64 r0.1, .slice B N D])).setIfInBounds 34 (.bool r1)).setIfInBounds 6 (.pointer (some ⟨b, 0, none⟩))).setIfInBounds 7 (.bool r1)), defers := a.defers } ∧ Below w2.heap.size w2 w' ∧ w2.heap.size ≤ b ∧ b < w'.heap.size ∧ w'.cell? ⟨b, 0, none⟩ = some (.int .i64 r0.1) ∧ w'.cell? ⟨b, 1, none⟩ = some (.slice B N D) ∧ FCnf w2.heap.size w'.heap.size w' (.agg #[.int .i64 r0.1, .slice B N D]) r0) ?_ ?_
  · go_region_held3 (fun w' => w'.cell? ⟨W.heap.size, 0, none⟩ = some (.int .i64 a0.1) ∧ w'.cell? ⟨W.heap.size, 1, none⟩ = some (.slice A0 n0 c0) ∧ w'.cell? ⟨W.heap.size + 1, 0, none⟩ = some (.int .i64 a1.1) ∧ w'.cell? ⟨W.heap.size + 1, 1, none⟩ = some (.slice A1 n1 c1)) (refine ⟨below_old (w := w2) ?_ _ _ x00, below_old (w := w2) ?_ _ _ x01, below_old (w := w2) ?_ _ _ x10, below_old (w := w2) ?_ _ _ x11⟩ <;> (repeat (first | exact hBc | exact hBd | exact hBa | exact Below.refl _ _ | apply below_drew_of | apply below_alloc_of | refine below_set_of ?_ (by first | exact Nat.le_refl _ | exact hBa.size | exact hBd.size | exact hBc.size) _)))
      ((first | (go_at_call 17; have hgd2 := hBa.size; go_loud(refine (toCnf_any _ _ _ (hA1.below (by (repeat (first | exact hBa | exact Below.refl _ _ | apply below_drew_of | apply below_alloc_of)))) (by omega)).mono ?_; rintro e wd ⟨ud, rfl, hsd, hbd⟩; have hBd := below_stp (w := w2) (by (repeat (first | exact hBa | exact Below.refl _ _ | apply below_drew_of | apply below_alloc_of))) hbd; have had := below_stp (w := wa) (by (repeat (first | exact Below.refl _ _ | apply below_drew_of | apply below_alloc_of))) hbd; (try (have hy := hy.below had hy.lt)); (try with_reducible (have hy := boxF hbd)))) | (go_at_call 17; go_loud(refine (toCnf_any _ _ _ (hA0.below (by (repeat (first | exact Below.refl _ _ | apply below_drew_of | apply below_alloc_of)))) (by omega)).mono ?_; rintro e wa ⟨ua, rfl, hsa, hba⟩; have hBa := below_stp (w := w2) (by (repeat (first | exact Below.refl _ _ | apply below_drew_of | apply below_alloc_of))) hba; (try with_reducible (have hy := boxF hba)); (try with_reducible (have hy := boxG hba)); (try with_reducible (have hy := boxH hba)))) | (go_at_call 27; go_loud(refine (S_ApartCnfs _ _ _ _ _ _ _ (hsa.below (by (repeat (first | exact had | exact Below.refl _ _ | apply below_drew_of | apply below_alloc_of)))).read (hsd.below (by (repeat (first | exact Below.refl _ _ | apply below_drew_of | apply below_alloc_of)))).read (by omega) (by omega) HR.out).mono ?_; rintro e wc ⟨uw, rfl, hw, hbc⟩; have hBc := below_stp (w := w2) (by (repeat (first | exact hBd | exact Below.refl _ _ | apply below_drew_of | apply below_alloc_of))) hbc; have hdc := below_stp (w := wd) (by (repeat (first | exact Below.refl _ _ | apply below_drew_of | apply below_alloc_of))) hbc; (try (have hy := hy.below hdc hy.lt)); (try with_reducible (have hy := boxF hbc)); obtain ⟨B, N, D, rfl, -⟩ := hw.open2; (try (have hyt := hy.duo; obtain ⟨y0, y1, f0, f1⟩ := hyt))))))
    all_goals first | (refine ⟨_, _, _, B, N, D, rfl, below_set_of (below_set_of hBc (by first | exact Nat.le_refl _ | exact hBa.size | exact hBd.size | exact hBc.size) _) (by first | exact Nat.le_refl _ | exact hBa.size | exact hBd.size | exact hBc.size) _, ?_, ?_, (blkTwo (blkSet hy _ _)).1, (blkTwo (blkSet hy _ _)).2.1, (hw.boxed hy ?_).mono ?_ ?_⟩) | (refine ⟨_, _, _, B, N, D, rfl, below_alloc_of hBc _, hBc.size, by simp, (blkTwo (Blk.new _ _ _)).1, (blkTwo (Blk.new _ _ _)).2.1, (hw.below ((Below.refl _ _).alloc (Nat.le_refl _) _)).mono ?_ ?_⟩)
    all_goals (have sa := hBa.size; have sd := hBd.size; have sc := hBc.size; have se := hbc.size; have sg := hbd.size; have sh := hba.size; simp at sa sd sc se sg sh; simp [World.setCell]; (try omega))
  rintro a' w3 ⟨dw, u1w, u2w, Brw, Nrw, Drw, rfl, b3, low, ltw, pw0, pw1, hw0⟩
  simp only [List.setIfInBounds_toArray, List.set_cons_zero, List.set_cons_succ]
  replace hA0 := hA0.below b3
  replace hA1 := hA1.below b3
  replace x00 := below_old b3 _ _ x00
  replace x01 := below_old b3 _ _ x01
  replace x10 := below_old b3 _ _ x10
  replace x11 := below_old b3 _ _ x11
  have sz3 := b3.size
  replace bt := bt.trans (b3.mono bt.size)
  clear b3
  go_wp2_with fail
  refine (toCnf_any _ _ _ hA0 (by omega)).mono ?_
  rintro e w4 ⟨ux0, rfl, hx0, b4⟩
  replace hA0 := hA0.below b4
  replace hA1 := hA1.below b4
  replace hw0 := hw0.below b4
  replace x00 := below_old b4 _ _ x00
  replace x01 := below_old b4 _ _ x01
  replace x10 := below_old b4 _ _ x10
  replace x11 := below_old b4 _ _ x11
  replace pw0 := below_old b4 _ _ pw0
  replace pw1 := below_old b4 _ _ pw1
  have sz4 := b4.size
  replace bt := bt.trans (b4.mono bt.size)
  clear b4
  obtain ⟨B0, N0, D0, rfl, -⟩ := hx0.open2
  have hlit : Below w4.heap.size w4 (w4.alloc (.cells #[.int .i64 a0.1, .slice B0 N0 D0] 29)) := (Below.refl _ _).alloc (Nat.le_refl _) _
  have Lx00 := below_old hlit _ _ x00
  have Ex00 : ¬(W.heap.size = w4.heap.size) := by omega
  have Lx01 := below_old hlit _ _ x01
  have Lx10 := below_old hlit _ _ x10
  have Ex10 : ¬(W.heap.size + 1 = w4.heap.size) := by omega
  have Lx11 := below_old hlit _ _ x11
  have Lpw0 := below_old hlit _ _ pw0
  have Epw0 : ¬(dw = w4.heap.size) := by omega
  have Lpw1 := below_old hlit _ _ pw1
  obtain ⟨w5, hw5⟩ : ∃ w', w' = w4.alloc (.cells #[.int .i64 a0.1, .slice B0 N0 D0] 29) := ⟨_, rfl⟩
  have b5 : Below w4.heap.size w4 w5 := by rw [hw5]; exact (Below.refl _ _).alloc (Nat.le_refl _) _
  have szx0 : w4.heap.size + 1 = w5.heap.size := by rw [hw5]; simp
  replace hA0 := hA0.below b5
  replace hA1 := hA1.below b5
  replace hw0 := hw0.below b5
  replace hx0 := hx0.below b5
  replace x00 := below_old b5 _ _ x00
  replace x01 := below_old b5 _ _ x01
  replace x10 := below_old b5 _ _ x10
  replace x11 := below_old b5 _ _ x11
  replace pw0 := below_old b5 _ _ pw0
  replace pw1 := below_old b5 _ _ pw1
  have sz5 := b5.size
  replace bt := bt.trans (b5.mono bt.size)
  clear b5
  have z00 : w5.cell? ⟨w4.heap.size, 0, none⟩ = some (.int .i64 a0.1) := by rw [hw5]; simp
  have z01 : w5.cell? ⟨w4.heap.size, 1, none⟩ = some (.slice B0 N0 D0) := by rw [hw5]; simp
  have HW5 := hide hw5
  clear hw5
  go_wp2_with fail
  rw [← HW5.out]
  clear hlit Lx00 Ex00 Lx01 Lx10 Ex10 Lx11 Lpw0 Epw0 Lpw1
  refine (toCnf_any _ _ _ hA1 (by omega)).mono ?_
  rintro e w6 ⟨ux1, rfl, hx1, b6⟩
  replace hA0 := hA0.below b6
  replace hA1 := hA1.below b6
  replace hw0 := hw0.below b6
  replace hx0 := hx0.below b6
  replace x00 := below_old b6 _ _ x00
  replace x01 := below_old b6 _ _ x01
  replace x10 := below_old b6 _ _ x10
  replace x11 := below_old b6 _ _ x11
  replace pw0 := below_old b6 _ _ pw0
  replace pw1 := below_old b6 _ _ pw1
  replace z00 := below_old b6 _ _ z00
  replace z01 := below_old b6 _ _ z01
  have sz6 := b6.size
  replace bt := bt.trans (b6.mono bt.size)
  clear b6
  obtain ⟨B1, N1, D1, rfl, -⟩ := hx1.open2
  have hlit : Below w6.heap.size w6 (w6.alloc (.cells #[.int .i64 a1.1, .slice B1 N1 D1] 29)) := (Below.refl _ _).alloc (Nat.le_refl _) _
  have Lx00 := below_old hlit _ _ x00
  have Ex00 : ¬(W.heap.size = w6.heap.size) := by omega
  have Lx01 := below_old hlit _ _ x01
  have Lx10 := below_old hlit _ _ x10
  have Ex10 : ¬(W.heap.size + 1 = w6.heap.size) := by omega
  have Lx11 := below_old hlit _ _ x11
  have Lpw0 := below_old hlit _ _ pw0
  have Epw0 : ¬(dw = w6.heap.size) := by omega
  have Lpw1 := below_old hlit _ _ pw1
  have Lz00 := below_old hlit _ _ z00
  have Ez00 : ¬(w4.heap.size = w6.heap.size) := by omega
  have Lz01 := below_old hlit _ _ z01
  obtain ⟨w7, hw7⟩ : ∃ w', w' = w6.alloc (.cells #[.int .i64 a1.1, .slice B1 N1 D1] 29) := ⟨_, rfl⟩
  have b7 : Below w6.heap.size w6 w7 := by rw [hw7]; exact (Below.refl _ _).alloc (Nat.le_refl _) _
  have szx1 : w6.heap.size + 1 = w7.heap.size := by rw [hw7]; simp
  replace hA0 := hA0.below b7
  replace hA1 := hA1.below b7
  replace hw0 := hw0.below b7
  replace hx0 := hx0.below b7
  replace hx1 := hx1.below b7
  replace x00 := below_old b7 _ _ x00
  replace x01 := below_old b7 _ _ x01
  replace x10 := below_old b7 _ _ x10
  replace x11 := below_old b7 _ _ x11
  replace pw0 := below_old b7 _ _ pw0
  replace pw1 := below_old b7 _ _ pw1
  replace z00 := below_old b7 _ _ z00
  replace z01 := below_old b7 _ _ z01
  have sz7 := b7.size
  replace bt := bt.trans (b7.mono bt.size)
  clear b7
  have z10 : w7.cell? ⟨w6.heap.size, 0, none⟩ = some (.int .i64 a1.1) := by rw [hw7]; simp
  have z11 : w7.cell? ⟨w6.heap.size, 1, none⟩ = some (.slice B1 N1 D1) := by rw [hw7]; simp
  have HW7 := hide hw7
  clear hw7
  go_wp2_with fail
  rw [← HW7.out]
  clear hlit Lx00 Ex00 Lx01 Lx10 Ex10 Lx11 Lpw0 Epw0 Lpw1 Lz00 Ez00 Lz01
  refine (I_ApartCnfs _ _ _ _ _ _ _ hx0.read hx1.read (by omega) (by omega) HR.out).mono ?_
  rintro e w8 ⟨ug0, rfl, hg0, b8⟩
  replace hA0 := hA0.below b8
  replace hA1 := hA1.below b8
  replace hw0 := hw0.below b8
  replace hx0 := hx0.below b8
  replace hx1 := hx1.below b8
  replace x00 := below_old b8 _ _ x00
  replace x01 := below_old b8 _ _ x01
  replace x10 := below_old b8 _ _ x10
  replace x11 := below_old b8 _ _ x11
  replace pw0 := below_old b8 _ _ pw0
  replace pw1 := below_old b8 _ _ pw1
  replace z00 := below_old b8 _ _ z00
  replace z01 := below_old b8 _ _ z01
  replace z10 := below_old b8 _ _ z10
  replace z11 := below_old b8 _ _ z11
  have sz8 := b8.size
  replace bt := bt.trans (b8.mono bt.size)
  clear b8
  obtain ⟨Brg, Nrg, Drg, rfl, -⟩ := hg0.open2
  have hlit : Below w8.heap.size w8 (w8.alloc (.cells #[.int .i64 r0.1, .slice Brg Nrg Drg] 29)) := (Below.refl _ _).alloc (Nat.le_refl _) _
  have Lx00 := below_old hlit _ _ x00
  have Ex00 : ¬(W.heap.size = w8.heap.size) := by omega
  have Lx01 := below_old hlit _ _ x01
  have Lx10 := below_old hlit _ _ x10
  have Ex10 : ¬(W.heap.size + 1 = w8.heap.size) := by omega
  have Lx11 := below_old hlit _ _ x11
  have Lpw0 := below_old hlit _ _ pw0
  have Epw0 : ¬(dw = w8.heap.size) := by omega
  have Lpw1 := below_old hlit _ _ pw1
  have Lz00 := below_old hlit _ _ z00
  have Ez00 : ¬(w4.heap.size = w8.heap.size) := by omega
  have Lz01 := below_old hlit _ _ z01
  have Lz10 := below_old hlit _ _ z10
  have Ez10 : ¬(w6.heap.size = w8.heap.size) := by omega
  have Lz11 := below_old hlit _ _ z11
  obtain ⟨w9, hw9⟩ : ∃ w', w' = w8.alloc (.cells #[.int .i64 r0.1, .slice Brg Nrg Drg] 29) := ⟨_, rfl⟩
  have b9 : Below w8.heap.size w8 w9 := by rw [hw9]; exact (Below.refl _ _).alloc (Nat.le_refl _) _
  have szxrg : w8.heap.size + 1 = w9.heap.size := by rw [hw9]; simp
  replace hA0 := hA0.below b9
  replace hA1 := hA1.below b9
  replace hw0 := hw0.below b9
  replace hx0 := hx0.below b9
  replace hx1 := hx1.below b9
  replace hg0 := hg0.below b9
  replace x00 := below_old b9 _ _ x00
  replace x01 := below_old b9 _ _ x01
  replace x10 := below_old b9 _ _ x10
  replace x11 := below_old b9 _ _ x11
  replace pw0 := below_old b9 _ _ pw0
  replace pw1 := below_old b9 _ _ pw1
  replace z00 := below_old b9 _ _ z00
  replace z01 := below_old b9 _ _ z01
  replace z10 := below_old b9 _ _ z10
  replace z11 := below_old b9 _ _ z11
  have sz9 := b9.size
  replace bt := bt.trans (b9.mono bt.size)
  clear b9
  have pg0 : w9.cell? ⟨w8.heap.size, 0, none⟩ = some (.int .i64 r0.1) := by rw [hw9]; simp
  have pg1 : w9.cell? ⟨w8.heap.size, 1, none⟩ = some (.slice Brg Nrg Drg) := by rw [hw9]; simp
  have HW9 := hide hw9
  clear hw9
  go_wp2_with fail
  rw [← HW9.out]
  clear hlit Lx00 Ex00 Lx01 Lx10 Ex10 Lx11 Lpw0 Epw0 Lpw1 Lz00 Ez00 Lz01 Lz10 Ez10 Lz11
  refine (eqCnf_yes _ _ _ _ hg0.read hw0.read (by omega)).mono ?_
  rintro e w10 ⟨rfl, b10⟩
  replace hA0 := hA0.below b10
  replace hA1 := hA1.below b10
  replace hw0 := hw0.below b10
  replace hx0 := hx0.below b10
  replace hx1 := hx1.below b10
  replace hg0 := hg0.below b10
  replace x00 := below_old b10 _ _ x00
  replace x01 := below_old b10 _ _ x01
  replace x10 := below_old b10 _ _ x10
  replace x11 := below_old b10 _ _ x11
  replace pw0 := below_old b10 _ _ pw0
  replace pw1 := below_old b10 _ _ pw1
  replace z00 := below_old b10 _ _ z00
  replace z01 := below_old b10 _ _ z01
  replace z10 := below_old b10 _ _ z10
  replace z11 := below_old b10 _ _ z11
  replace pg0 := below_old b10 _ _ pg0
  replace pg1 := below_old b10 _ _ pg1
  have sz10 := b10.size
  replace bt := bt.trans (b10.mono bt.size)
  clear b10
  go_wp2_with fail
  go_region_held3 (fun w' => w'.cell? ⟨W.heap.size, 0, none⟩ = some (.int .i64 a0.1) ∧ w'.cell? ⟨W.heap.size, 1, none⟩ = some (.slice A0 n0 c0) ∧ w'.cell? ⟨W.heap.size + 1, 0, none⟩ = some (.int .i64 a1.1) ∧ w'.cell? ⟨W.heap.size + 1, 1, none⟩ = some (.slice A1 n1 c1) ∧ w'.cell? ⟨dw, 0, none⟩ = some (.int .i64 r0.1) ∧ w'.cell? ⟨dw, 1, none⟩ = some (.slice Brw Nrw Drw) ∧ w'.cell? ⟨w4.heap.size, 0, none⟩ = some (.int .i64 a0.1) ∧ w'.cell? ⟨w4.heap.size, 1, none⟩ = some (.slice B0 N0 D0) ∧ w'.cell? ⟨w6.heap.size, 0, none⟩ = some (.int .i64 a1.1) ∧ w'.cell? ⟨w6.heap.size, 1, none⟩ = some (.slice B1 N1 D1) ∧ w'.cell? ⟨w8.heap.size, 0, none⟩ = some (.int .i64 r0.1) ∧ w'.cell? ⟨w8.heap.size, 1, none⟩ = some (.slice Brg Nrg Drg)) (exact ⟨x00, x01, x10, x11, pw0, pw1, z00, z01, z10, z11, pg0, pg1⟩)
    ((first | (go_at_call 17; replace hA0 := hA0.below (below_drew w10); replace hA1 := hA1.below (below_drew w10); replace hw0 := hw0.below (below_drew w10); replace hx0 := hx0.below (below_drew w10); replace hx1 := hx1.below (below_drew w10); replace hg0 := hg0.below (below_drew w10); replace x00 := below_old (below_drew w10) _ _ x00; replace x01 := below_old (below_drew w10) _ _ x01; replace x10 := below_old (below_drew w10) _ _ x10; replace x11 := below_old (below_drew w10) _ _ x11; replace pw0 := below_old (below_drew w10) _ _ pw0; replace pw1 := below_old (below_drew w10) _ _ pw1; replace z00 := below_old (below_drew w10) _ _ z00; replace z01 := below_old (below_drew w10) _ _ z01; replace z10 := below_old (below_drew w10) _ _ z10; replace z11 := below_old (below_drew w10) _ _ z11; replace pg0 := below_old (below_drew w10) _ _ pg0; replace pg1 := below_old (below_drew w10) _ _ pg1; replace bt := bt.trans ((below_drew w10).mono bt.size); have szd10 : w10.heap.size ≤ w10.drew.heap.size := Nat.le_refl _; refine (toCnf_any _ _ _ hA0 (by omega)).mono ?_; rintro e w11 ⟨uy0, rfl, hy0, b11⟩; replace hA0 := hA0.below b11; replace hA1 := hA1.below b11; replace hw0 := hw0.below b11; replace hx0 := hx0.below b11; replace hx1 := hx1.below b11; replace hg0 := hg0.below b11; replace x00 := below_old b11 _ _ x00; replace x01 := below_old b11 _ _ x01; replace x10 := below_old b11 _ _ x10; replace x11 := below_old b11 _ _ x11; replace pw0 := below_old b11 _ _ pw0; replace pw1 := below_old b11 _ _ pw1; replace z00 := below_old b11 _ _ z00; replace z01 := below_old b11 _ _ z01; replace z10 := below_old b11 _ _ z10; replace z11 := below_old b11 _ _ z11; replace pg0 := below_old b11 _ _ pg0; replace pg1 := below_old b11 _ _ pg1; have sz11 := b11.size; replace bt := bt.trans (b11.mono bt.size); clear b11) | (go_at_call 21; refine (eqCnf_yes _ _ _ _ hx0.read hy0.read (by omega)).mono ?_; rintro e w12 ⟨rfl, b12⟩; replace hA0 := hA0.below b12; replace hA1 := hA1.below b12; replace hw0 := hw0.below b12; replace hx0 := hx0.below b12; replace hx1 := hx1.below b12; replace hg0 := hg0.below b12; replace hy0 := hy0.below b12; replace x00 := below_old b12 _ _ x00; replace x01 := below_old b12 _ _ x01; replace x10 := below_old b12 _ _ x10; replace x11 := below_old b12 _ _ x11; replace pw0 := below_old b12 _ _ pw0; replace pw1 := below_old b12 _ _ pw1; replace z00 := below_old b12 _ _ z00; replace z01 := below_old b12 _ _ z01; replace z10 := below_old b12 _ _ z10; replace z11 := below_old b12 _ _ z11; replace pg0 := below_old b12 _ _ pg0; replace pg1 := below_old b12 _ _ pg1; have sz12 := b12.size; replace bt := bt.trans (b12.mono bt.size); clear b12)))
  clear hy0
  go_wp2_with fail
  go_region_held3 (fun w' => w'.cell? ⟨W.heap.size, 0, none⟩ = some (.int .i64 a0.1) ∧ w'.cell? ⟨W.heap.size, 1, none⟩ = some (.slice A0 n0 c0) ∧ w'.cell? ⟨W.heap.size + 1, 0, none⟩ = some (.int .i64 a1.1) ∧ w'.cell? ⟨W.heap.size + 1, 1, none⟩ = some (.slice A1 n1 c1) ∧ w'.cell? ⟨dw, 0, none⟩ = some (.int .i64 r0.1) ∧ w'.cell? ⟨dw, 1, none⟩ = some (.slice Brw Nrw Drw) ∧ w'.cell? ⟨w4.heap.size, 0, none⟩ = some (.int .i64 a0.1) ∧ w'.cell? ⟨w4.heap.size, 1, none⟩ = some (.slice B0 N0 D0) ∧ w'.cell? ⟨w6.heap.size, 0, none⟩ = some (.int .i64 a1.1) ∧ w'.cell? ⟨w6.heap.size, 1, none⟩ = some (.slice B1 N1 D1) ∧ w'.cell? ⟨w8.heap.size, 0, none⟩ = some (.int .i64 r0.1) ∧ w'.cell? ⟨w8.heap.size, 1, none⟩ = some (.slice Brg Nrg Drg)) (exact ⟨x00, x01, x10, x11, pw0, pw1, z00, z01, z10, z11, pg0, pg1⟩)
    ((first | (go_at_call 17; replace hA0 := hA0.below (below_drew w12); replace hA1 := hA1.below (below_drew w12); replace hw0 := hw0.below (below_drew w12); replace hx0 := hx0.below (below_drew w12); replace hx1 := hx1.below (below_drew w12); replace hg0 := hg0.below (below_drew w12); replace x00 := below_old (below_drew w12) _ _ x00; replace x01 := below_old (below_drew w12) _ _ x01; replace x10 := below_old (below_drew w12) _ _ x10; replace x11 := below_old (below_drew w12) _ _ x11; replace pw0 := below_old (below_drew w12) _ _ pw0; replace pw1 := below_old (below_drew w12) _ _ pw1; replace z00 := below_old (below_drew w12) _ _ z00; replace z01 := below_old (below_drew w12) _ _ z01; replace z10 := below_old (below_drew w12) _ _ z10; replace z11 := below_old (below_drew w12) _ _ z11; replace pg0 := below_old (below_drew w12) _ _ pg0; replace pg1 := below_old (below_drew w12) _ _ pg1; replace bt := bt.trans ((below_drew w12).mono bt.size); have szd12 : w12.heap.size ≤ w12.drew.heap.size := Nat.le_refl _; refine (toCnf_any _ _ _ hA1 (by omega)).mono ?_; rintro e w13 ⟨uy1, rfl, hy1, b13⟩; replace hA0 := hA0.below b13; replace hA1 := hA1.below b13; replace hw0 := hw0.below b13; replace hx0 := hx0.below b13; replace hx1 := hx1.below b13; replace hg0 := hg0.below b13; replace x00 := below_old b13 _ _ x00; replace x01 := below_old b13 _ _ x01; replace x10 := below_old b13 _ _ x10; replace x11 := below_old b13 _ _ x11; replace pw0 := below_old b13 _ _ pw0; replace pw1 := below_old b13 _ _ pw1; replace z00 := below_old b13 _ _ z00; replace z01 := below_old b13 _ _ z01; replace z10 := below_old b13 _ _ z10; replace z11 := below_old b13 _ _ z11; replace pg0 := below_old b13 _ _ pg0; replace pg1 := below_old b13 _ _ pg1; have sz13 := b13.size; replace bt := bt.trans (b13.mono bt.size); clear b13) | (go_at_call 21; refine (eqCnf_yes _ _ _ _ hx1.read hy1.read (by omega)).mono ?_; rintro e w14 ⟨rfl, b14⟩; replace hA0 := hA0.below b14; replace hA1 := hA1.below b14; replace hw0 := hw0.below b14; replace hx0 := hx0.below b14; replace hx1 := hx1.below b14; replace hg0 := hg0.below b14; replace hy1 := hy1.below b14; replace x00 := below_old b14 _ _ x00; replace x01 := below_old b14 _ _ x01; replace x10 := below_old b14 _ _ x10; replace x11 := below_old b14 _ _ x11; replace pw0 := below_old b14 _ _ pw0; replace pw1 := below_old b14 _ _ pw1; replace z00 := below_old b14 _ _ z00; replace z01 := below_old b14 _ _ z01; replace z10 := below_old b14 _ _ z10; replace z11 := below_old b14 _ _ z11; replace pg0 := below_old b14 _ _ pg0; replace pg1 := below_old b14 _ _ pg1; have sz14 := b14.size; replace bt := bt.trans (b14.mono bt.size); clear b14)))
  clear hy1
  go_wp2_with fail
  refine (markCnf_any _ _ _ _ hx0 (by omega) (by omega) (by omega)).mono ?_
  rintro e w15 ⟨rfl, m15, c15, -⟩
  clear hx0
  replace hA0 := hA0.chg c15 (by omega)
  replace hA1 := hA1.chg c15 (by omega)
  replace hw0 := hw0.chg c15 (by omega)
  replace hx1 := hx1.chg c15 (by omega)
  replace hg0 := hg0.chg c15 (by omega)
  replace x00 := chg_old c15 x00 (by first | (simp; omega) | simp)
  replace x01 := chg_old c15 x01 (by first | (simp; omega) | simp)
  replace x10 := chg_old c15 x10 (by first | (simp; omega) | simp)
  replace x11 := chg_old c15 x11 (by first | (simp; omega) | simp)
  replace pw0 := chg_old c15 pw0 (by first | (simp; omega) | simp)
  replace pw1 := chg_old c15 pw1 (by first | (simp; omega) | simp)
  replace z00 := chg_old c15 z00 (by first | (simp; omega) | simp)
  replace z01 := chg_old c15 z01 (by first | (simp; omega) | simp)
  replace z10 := chg_old c15 z10 (by first | (simp; omega) | simp)
  replace z11 := chg_old c15 z11 (by first | (simp; omega) | simp)
  replace pg0 := chg_old c15 pg0 (by first | (simp; omega) | simp)
  replace pg1 := chg_old c15 pg1 (by first | (simp; omega) | simp)
  have sz15 := c15.size
  replace bt := below_chg bt c15 (by omega) (Nat.le_refl _)
  clear c15
  clear m15
  go_wp2_with fail
  refine (markCnf_any _ _ _ _ hx1 (by omega) (by omega) (by omega)).mono ?_
  rintro e w16 ⟨rfl, m16, c16, -⟩
  clear hx1
  replace hA0 := hA0.chg c16 (by omega)
  replace hA1 := hA1.chg c16 (by omega)
  replace hw0 := hw0.chg c16 (by omega)
  replace hg0 := hg0.chg c16 (by omega)
  replace x00 := chg_old c16 x00 (by first | (simp; omega) | simp)
  replace x01 := chg_old c16 x01 (by first | (simp; omega) | simp)
  replace x10 := chg_old c16 x10 (by first | (simp; omega) | simp)
  replace x11 := chg_old c16 x11 (by first | (simp; omega) | simp)
  replace pw0 := chg_old c16 pw0 (by first | (simp; omega) | simp)
  replace pw1 := chg_old c16 pw1 (by first | (simp; omega) | simp)
  replace z00 := chg_old c16 z00 (by first | (simp; omega) | simp)
  replace z01 := chg_old c16 z01 (by first | (simp; omega) | simp)
  replace z10 := chg_old c16 z10 (by first | (simp; omega) | simp)
  replace z11 := chg_old c16 z11 (by first | (simp; omega) | simp)
  replace pg0 := chg_old c16 pg0 (by first | (simp; omega) | simp)
  replace pg1 := chg_old c16 pg1 (by first | (simp; omega) | simp)
  have sz16 := c16.size
  replace bt := below_chg bt c16 (by omega) (Nat.le_refl _)
  clear c16
  clear m16
  go_wp2_with fail
  refine (eqCnf_yes _ _ _ _ hg0.read hw0.read (by omega)).mono ?_
  rintro e w17 ⟨rfl, b17⟩
  replace hA0 := hA0.below b17
  replace hA1 := hA1.below b17
  replace hw0 := hw0.below b17
  replace hg0 := hg0.below b17
  replace x00 := below_old b17 _ _ x00
  replace x01 := below_old b17 _ _ x01
  replace x10 := below_old b17 _ _ x10
  replace x11 := below_old b17 _ _ x11
  replace pw0 := below_old b17 _ _ pw0
  replace pw1 := below_old b17 _ _ pw1
  replace z00 := below_old b17 _ _ z00
  replace z01 := below_old b17 _ _ z01
  replace z10 := below_old b17 _ _ z10
  replace z11 := below_old b17 _ _ z11
  replace pg0 := below_old b17 _ _ pg0
  replace pg1 := below_old b17 _ _ pg1
  have sz17 := b17.size
  replace bt := bt.trans (b17.mono bt.size)
  clear b17
  go_wp2_with fail
  refine (markCnf_any _ _ _ _ hg0 (by omega) (by omega) (by omega)).mono ?_
  rintro e w18 ⟨rfl, m18, c18, -⟩
  clear hg0
  replace hA0 := hA0.chg c18 (by omega)
  replace hA1 := hA1.chg c18 (by omega)
  replace hw0 := hw0.chg c18 (by omega)
  replace x00 := chg_old c18 x00 (by first | (simp; omega) | simp)
  replace x01 := chg_old c18 x01 (by first | (simp; omega) | simp)
  replace x10 := chg_old c18 x10 (by first | (simp; omega) | simp)
  replace x11 := chg_old c18 x11 (by first | (simp; omega) | simp)
  replace pw0 := chg_old c18 pw0 (by first | (simp; omega) | simp)
  replace pw1 := chg_old c18 pw1 (by first | (simp; omega) | simp)
  replace z00 := chg_old c18 z00 (by first | (simp; omega) | simp)
  replace z01 := chg_old c18 z01 (by first | (simp; omega) | simp)
  replace z10 := chg_old c18 z10 (by first | (simp; omega) | simp)
  replace z11 := chg_old c18 z11 (by first | (simp; omega) | simp)
  replace pg0 := chg_old c18 pg0 (by first | (simp; omega) | simp)
  replace pg1 := chg_old c18 pg1 (by first | (simp; omega) | simp)
  have sz18 := c18.size
  replace bt := below_chg bt c18 (by omega) (Nat.le_refl _)
  clear c18
  go_wp2_with fail
  refine (heldCnf_yes _ _ _ _ m18.read (by omega) (by omega) (by omega)).mono ?_
  rintro e w19 ⟨rfl, b19⟩
  replace hA0 := hA0.below b19
  replace hA1 := hA1.below b19
  replace hw0 := hw0.below b19
  replace m18 := m18.below b19
  replace x00 := below_old b19 _ _ x00
  replace x01 := below_old b19 _ _ x01
  replace x10 := below_old b19 _ _ x10
  replace x11 := below_old b19 _ _ x11
  replace pw0 := below_old b19 _ _ pw0
  replace pw1 := below_old b19 _ _ pw1
  replace z00 := below_old b19 _ _ z00
  replace z01 := below_old b19 _ _ z01
  replace z10 := below_old b19 _ _ z10
  replace z11 := below_old b19 _ _ z11
  replace pg0 := below_old b19 _ _ pg0
  replace pg1 := below_old b19 _ _ pg1
  have sz19 := b19.size
  replace bt := bt.trans (b19.mono bt.size)
  clear b19
  go_wp2_with fail
  refine region_via (R := fun a a' w' => ∃ (b : Nat) (u1 u2 : Value) (B : Option Addr) (N D : Nat), a' = { tmps := ((((((((((a.tmps.setIfInBounds 95 (.agg #[.int .i64 a0.1, .slice A0 n0 c0])).setIfInBounds 96 (u1)).setIfInBounds 97 (.agg #[.int .i64 a1.1, .slice A1 n1 c1])).setIfInBounds 98 (u2)).setIfInBounds 99 (.tuple #[.agg #[.int .i64 r0.1, .slice B N D], .bool r1])).setIfInBounds 94 (.tuple #[.agg #[.int .i64 r0.1, .slice B N D], .bool r1])).setIfInBounds 100 (.agg #[.int .i64 r0.1, .slice B N D])).setIfInBounds 101 (.bool r1)).setIfInBounds 15 (.pointer (some ⟨b, 0, none⟩))).setIfInBounds 16 (.bool r1)), defers := a.defers } ∧ Below w19.heap.size w19 w' ∧ w19.heap.size ≤ b ∧ b < w'.heap.size ∧ w'.cell? ⟨b, 0, none⟩ = some (.int .i64 r0.1) ∧ w'.cell? ⟨b, 1, none⟩ = some (.slice B N D) ∧ FCnf w19.heap.size w'.heap.size w' (.agg #[.int .i64 r0.1, .slice B N D]) r0) ?_ ?_
  · go_region_held3 (fun w' => w'.cell? ⟨W.heap.size, 0, none⟩ = some (.int .i64 a0.1) ∧ w'.cell? ⟨W.heap.size, 1, none⟩ = some (.slice A0 n0 c0) ∧ w'.cell? ⟨W.heap.size + 1, 0, none⟩ = some (.int .i64 a1.1) ∧ w'.cell? ⟨W.heap.size + 1, 1, none⟩ = some (.slice A1 n1 c1)) (refine ⟨below_old (w := w19) ?_ _ _ x00, below_old (w := w19) ?_ _ _ x01, below_old (w := w19) ?_ _ _ x10, below_old (w := w19) ?_ _ _ x11⟩ <;> (repeat (first | exact hBc | exact hBd | exact hBa | exact Below.refl _ _ | apply below_drew_of | apply below_alloc_of | refine below_set_of ?_ (by first | exact Nat.le_refl _ | exact hBa.size | exact hBd.size | exact hBc.size) _)))
      ((first | (go_at_call 17; have hgd2 := hBa.size; go_loud(refine (toCnf_any _ _ _ (hA1.below (by (repeat (first | exact hBa | exact Below.refl _ _ | apply below_drew_of | apply below_alloc_of)))) (by omega)).mono ?_; rintro e wd ⟨ud, rfl, hsd, hbd⟩; have hBd := below_stp (w := w19) (by (repeat (first | exact hBa | exact Below.refl _ _ | apply below_drew_of | apply below_alloc_of))) hbd; have had := below_stp (w := wa) (by (repeat (first | exact Below.refl _ _ | apply below_drew_of | apply below_alloc_of))) hbd; (try (have hy := hy.below had hy.lt)); (try with_reducible (have hy := boxF hbd)))) | (go_at_call 17; go_loud(refine (toCnf_any _ _ _ (hA0.below (by (repeat (first | exact Below.refl _ _ | apply below_drew_of | apply below_alloc_of)))) (by omega)).mono ?_; rintro e wa ⟨ua, rfl, hsa, hba⟩; have hBa := below_stp (w := w19) (by (repeat (first | exact Below.refl _ _ | apply below_drew_of | apply below_alloc_of))) hba; (try with_reducible (have hy := boxF hba)); (try with_reducible (have hy := boxG hba)); (try with_reducible (have hy := boxH hba)))) | (go_at_call 28; go_loud(refine (I_ApartCnfs _ _ _ _ _ _ _ (hsa.below (by (repeat (first | exact had | exact Below.refl _ _ | apply below_drew_of | apply below_alloc_of)))).read (hsd.below (by (repeat (first | exact Below.refl _ _ | apply below_drew_of | apply below_alloc_of)))).read (by omega) (by omega) HR.out).mono ?_; rintro e wc ⟨uw, rfl, hw, hbc⟩; have hBc := below_stp (w := w19) (by (repeat (first | exact hBd | exact Below.refl _ _ | apply below_drew_of | apply below_alloc_of))) hbc; have hdc := below_stp (w := wd) (by (repeat (first | exact Below.refl _ _ | apply below_drew_of | apply below_alloc_of))) hbc; (try (have hy := hy.below hdc hy.lt)); (try with_reducible (have hy := boxF hbc)); obtain ⟨B, N, D, rfl, -⟩ := hw.open2; (try (have hyt := hy.duo; obtain ⟨y0, y1, f0, f1⟩ := hyt))))))
    all_goals first | (refine ⟨_, _, _, B, N, D, rfl, below_set_of (below_set_of hBc (by first | exact Nat.le_refl _ | exact hBa.size | exact hBd.size | exact hBc.size) _) (by first | exact Nat.le_refl _ | exact hBa.size | exact hBd.size | exact hBc.size) _, ?_, ?_, (blkTwo (blkSet hy _ _)).1, (blkTwo (blkSet hy _ _)).2.1, (hw.boxed hy ?_).mono ?_ ?_⟩) | (refine ⟨_, _, _, B, N, D, rfl, below_alloc_of hBc _, hBc.size, by simp, (blkTwo (Blk.new _ _ _)).1, (blkTwo (Blk.new _ _ _)).2.1, (hw.below ((Below.refl _ _).alloc (Nat.le_refl _) _)).mono ?_ ?_⟩)
    all_goals (have sa := hBa.size; have sd := hBd.size; have sc := hBc.size; have se := hbc.size; have sg := hbd.size; have sh := hba.size; simp at sa sd sc se sg sh; simp [World.setCell]; (try omega))
  rintro a' w20 ⟨dh, u1h, u2h, Brh, Nrh, Drh, rfl, b20, loh, lth, ph0, ph1, hh0⟩
  simp only [List.setIfInBounds_toArray, List.set_cons_zero, List.set_cons_succ]
  replace hA0 := hA0.below b20
  replace hA1 := hA1.below b20
  replace hw0 := hw0.below b20
  replace m18 := m18.below b20
  replace x00 := below_old b20 _ _ x00
  replace x01 := below_old b20 _ _ x01
  replace x10 := below_old b20 _ _ x10
  replace x11 := below_old b20 _ _ x11
  replace pw0 := below_old b20 _ _ pw0
  replace pw1 := below_old b20 _ _ pw1
  replace z00 := below_old b20 _ _ z00
  replace z01 := below_old b20 _ _ z01
  replace z10 := below_old b20 _ _ z10
  replace z11 := below_old b20 _ _ z11
  replace pg0 := below_old b20 _ _ pg0
  replace pg1 := below_old b20 _ _ pg1
  have sz20 := b20.size
  replace bt := bt.trans (b20.mono bt.size)
  clear b20
  go_wp2_with fail
  refine (eqCnf_yes _ _ _ _ hh0.read hw0.read (by omega)).mono ?_
  rintro e w21 ⟨rfl, b21⟩
  replace hA0 := hA0.below b21
  replace hA1 := hA1.below b21
  replace hw0 := hw0.below b21
  replace m18 := m18.below b21
  replace hh0 := hh0.below b21
  replace x00 := below_old b21 _ _ x00
  replace x01 := below_old b21 _ _ x01
  replace x10 := below_old b21 _ _ x10
  replace x11 := below_old b21 _ _ x11
  replace pw0 := below_old b21 _ _ pw0
  replace pw1 := below_old b21 _ _ pw1
  replace z00 := below_old b21 _ _ z00
  replace z01 := below_old b21 _ _ z01
  replace z10 := below_old b21 _ _ z10
  replace z11 := below_old b21 _ _ z11
  replace pg0 := below_old b21 _ _ pg0
  replace pg1 := below_old b21 _ _ pg1
  replace ph0 := below_old b21 _ _ ph0
  replace ph1 := below_old b21 _ _ ph1
  have sz21 := b21.size
  replace bt := bt.trans (b21.mono bt.size)
  clear b21
  go_wp2_with fail
  refine (heldCnf_yes _ _ _ _ m18.read (by omega) (by omega) (by omega)).mono ?_
  rintro e w22 ⟨rfl, b22⟩
  replace hA0 := hA0.below b22
  replace hA1 := hA1.below b22
  replace hw0 := hw0.below b22
  replace m18 := m18.below b22
  replace hh0 := hh0.below b22
  replace x00 := below_old b22 _ _ x00
  replace x01 := below_old b22 _ _ x01
  replace x10 := below_old b22 _ _ x10
  replace x11 := below_old b22 _ _ x11
  replace pw0 := below_old b22 _ _ pw0
  replace pw1 := below_old b22 _ _ pw1
  replace z00 := below_old b22 _ _ z00
  replace z01 := below_old b22 _ _ z01
  replace z10 := below_old b22 _ _ z10
  replace z11 := below_old b22 _ _ z11
  replace pg0 := below_old b22 _ _ pg0
  replace pg1 := below_old b22 _ _ pg1
  replace ph0 := below_old b22 _ _ ph0
  replace ph1 := below_old b22 _ _ ph1
  have sz22 := b22.size
  replace bt := bt.trans (b22.mono bt.size)
  clear b22
  go_wp2_with fail
  go_ret
  exact ⟨rfl, bt⟩

set_option maxRecDepth 100000 in
theorem fnExactApartCnfs_lifted (os : Os) (started : os.Started) (H : Type) (enc : TypeId × Value → H) :
    ReturnsInHanded {} Try.checked os 5 .any (Rows.fnExactApartCnfsSpec.pre6 enc Try.prog Try.f5 Rows.fnExactApartCnfsRow.domain false) (Rows.fnExactApartCnfsSpec.post enc Try.prog Try.f5 false true false false) := by
  refine returnsInHanded_of_change (C := Try.checked) own started (by kernel_rfl) Try.func5
    (ChangeSpec.witness6 (enc := enc) (C := Try.checked) false ⟨#[], #[.agg #[.int .i64 0, .slice none 0 0], .agg #[.int .i64 0, .slice none 0 0]], []⟩ 8 (by kernel_rfl) (by kernel_rfl) (by kernel_rfl) (by kernel_rfl)) ?_
  intro W base args ds gs before hval0 hW hcnd _
  have hval : ∀ (j : Nat) t v, Try.f5.params[j]? = some t → args[j]? = some v → Value.okWide Try.prog W .any base t v := hval0
  have hW' := hW
  obtain ⟨p, q, hA0, hV, rfl, hfz, hnd⟩ := hW
  have hA : DataW.TrodAll enc Try.prog W 0 (fun _ => true) true Try.f5.params.toList args.toList ds p := hA0
  rw [Try.params5] at hA hval
  obtain ⟨v0, vs0, d0, ds0, p0, q0, hargs, rfl, rfl, h0, r0⟩ := trodAll_cons hA
  obtain ⟨v1, vs1, d1, ds1, p1, q1, rfl, rfl, rfl, h1, r1⟩ := trodAll_cons r0
  obtain ⟨rfl, rfl, rfl⟩ := trodAll_nil r1
  obtain rfl : args = #[v0, v1] := by cases args; simp_all
  obtain ⟨rfl, rfl⟩ := trodVars_none hV
  have k0 := h0
  have lt0 : ∀ x ∈ p0, x.block < W.heap.size := by obtain ⟨m, hm⟩ := k0; exact DataW.trod_lt m _ _ _ hm
  obtain ⟨a0, w0⟩ := in_cnf (hval 0 24 v0 rfl rfl) h0 lt0
  have k1 := h1
  have lt1 : ∀ x ∈ p1, x.block < W.heap.size := by obtain ⟨m, hm⟩ := k1; exact DataW.trod_lt m _ _ _ hm
  obtain ⟨a1, w1⟩ := in_cnf (hval 1 24 v1 rfl rfl) h1 lt1
  clear hA0 hval0
  refine (fnExactApartCnfs_walk W v0 a0 w0 v1 a1 w1).mono fun e W' ⟨he, bel⟩ => ?_
  subst he
  exact ⟨_, rfl, _, _, _, [], _, [], hW', trodAll_mk1 (shut_bool Try.underlying4 _), (trodAll_cons_mk (Below.trod laidOut (by kernel_rfl) (of_decide_eq_true (by kernel_rfl)) k0 bel lt0) (trodAll_cons_mk (Below.trod laidOut (by kernel_rfl) (of_decide_eq_true (by kernel_rfl)) k1 bel lt1) trodAll_mk0)), rfl, bel.frame _, fun h => by cases h⟩

theorem fnExactApartCnfs_over : Rows.fnExactApartCnfsRow.holds Try.pinned (OpenSpec.ofChange Rows.fnExactApartCnfsSpec) :=
  OpenClaim.holds_of_wide 5 Try.f5 rfl rfl rfl rfl rfl rfl rfl ⟨rfl, rfl, rfl, rfl, rfl⟩ rfl rfl rfl rfl rfl (by kernel_rfl) Try.func5 (by kernel_rfl)
    (of_decide_eq_true (by kernel_rfl)) (by unfold Func.isWrapper; first | (rw [if_pos (by decide +kernel)]; kernel_rfl) | (rw [if_neg (by decide +kernel)]; exact ⟨rfl, rfl⟩))
    (fun os started H enc _ => fnExactApartCnfs_lifted os started H enc)

theorem fnExactApartCnfs_proved : Rows.FnExactApartCnfsSaid := fnExactApartCnfs_over

end Go.Proofs.Ytkmkdfogpdndoaa
