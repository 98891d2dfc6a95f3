/- The walks of the laws CnfText. -/
import Derived.Test.YtmepficbmgjpoaaDoorCnfI
import Derived.ProofKit
import Derived.OpenShut
import Derived.ShutString
import Derived.ChangeOld
import Derived.Below
import Derived.Deep.RegionHeld3
namespace Go.Proofs.YtmepficbmgjpoaaDoor
open Go.ChangeShapes Go.WideShapes Go.ChangeAt Go.RowKit
open Go.ChangeMaps (open_string shut_string)
set_option linter.unusedVariables false

set_option maxRecDepth 100000 in
set_option maxHeartbeats 1600000 in
theorem law_CnfText (W : World) (v0 : Value) (a0 : CnfL) (in0 : InCnf W v0 a0) (hP : Pow W) :
    Calls Tryd.prog 10 #[v0] W fun e w' => e = .returned (.bool true) ∧ Below W.heap.size W w' := by
  obtain ⟨hA0, wf0⟩ := in0
  obtain ⟨A0, n0, c0, rfl, -⟩ := hA0.openN
  obtain ⟨wb, hwb⟩ : ∃ wb, wb = (W.alloc (.cells #[.int .i64 a0.1, .slice A0 n0 c0] 46)) := ⟨_, rfl⟩
  have bt : Below W.heap.size W wb := by rw [hwb]; exact (Below.refl _ _).alloc (by simp) _
  have szb : W.heap.size + 1 = wb.heap.size := by rw [hwb]; simp
  have x00 : wb.cell? ⟨W.heap.size, 0, none⟩ = some (.int .i64 a0.1) := by rw [hwb]; simp
  have x01 : wb.cell? ⟨W.heap.size, 1, none⟩ = some (.slice A0 n0 c0) := by rw [hwb]; simp
  replace hA0 := hA0.below bt
  replace hP := hP.below bt
  have HWB := hide hwb
  clear hwb
  by_cases hn0 : szC a0 ≤ 1048576
  case neg =>
    go_enter Tryd.func10, Tryd.ntmps10
    go_wp2_with fail
    rw [← HWB.out]
    refine (szCnf_any _ _ ((1048576 : Int)) _ hA0 (by omega) (by omega)).mono ?_
    rintro e w1 ⟨rfl, b1⟩
    replace hA0 := hA0.below b1
    replace x00 := below_old b1 _ _ x00
    replace x01 := below_old b1 _ _ x01
    have sz1 := b1.size
    replace hP := hP.below b1
    replace bt := bt.trans (b1.mono bt.size)
    clear b1
    rw [show leftB ((1048576 : Int)) (szC a0) = -1 from by unfold leftB; rw [if_neg (by omega)]]
    go_wp2_with fail
    go_ret
    exact ⟨rfl, bt⟩
  have hcc0 := cntC_leN a0
  obtain ⟨r0, r1, hR⟩ : ∃ r0 r1, fCnfText a0 = (r0, r1) := ⟨_, _, rfl⟩
  have HR := hide hR
  clear hR
  go_enter Tryd.func10, Tryd.ntmps10
  go_wp2_with fail
  rw [← HWB.out]
  refine (szCnf_any _ _ ((1048576 : Int)) _ hA0 (by omega) (by omega)).mono ?_
  rintro e w1 ⟨rfl, b1⟩
  replace hA0 := hA0.below b1
  replace x00 := below_old b1 _ _ x00
  replace x01 := below_old b1 _ _ x01
  have sz1 := b1.size
  replace hP := hP.below b1
  replace bt := bt.trans (b1.mono bt.size)
  clear b1
  rw [show leftB ((1048576 : Int)) (szC a0) = (1048576 : Int) - (szC a0 : Int) from by unfold leftB; rw [if_pos (by omega)]]
  go_wp2_with fail
  refine (toCnf_any _ _ _ hA0 (by omega)).mono ?_
  rintro e w2 ⟨us0, rfl, hs0, b2⟩
  replace hA0 := hA0.below b2
  replace x00 := below_old b2 _ _ x00
  replace x01 := below_old b2 _ _ x01
  have sz2 := b2.size
  replace hP := hP.below b2
  replace bt := bt.trans (b2.mono bt.size)
  clear b2
  go_wp2_with fail
  refine (S_CnfText _ _ _ _ _ hs0.read (by omega) HR.out).mono ?_
  rintro e w3 ⟨rfl, b3⟩
  replace hA0 := hA0.below b3
  replace hs0 := hs0.below b3
  replace x00 := below_old b3 _ _ x00
  replace x01 := below_old b3 _ _ x01
  have sz3 := b3.size
  replace hP := hP.below b3
  replace bt := bt.trans (b3.mono bt.size)
  clear b3
  clear hs0
  go_wp2_with fail
  refine (toCnf_any _ _ _ hA0 (by omega)).mono ?_
  rintro e w4 ⟨ux0, rfl, hx0, b4⟩
  replace hA0 := hA0.below b4
  replace x00 := below_old b4 _ _ x00
  replace x01 := below_old b4 _ _ x01
  have sz4 := b4.size
  replace hP := hP.below b4
  replace bt := bt.trans (b4.mono bt.size)
  clear b4
  obtain ⟨B0, N0, D0, rfl, -⟩ := hx0.openN
  have hlit : Below w4.heap.size w4 (w4.alloc (.cells #[.int .i64 a0.1, .slice B0 N0 D0] 49)) := (Below.refl _ _).alloc (Nat.le_refl _) _
  have Lx00 := below_old hlit _ _ x00
  have Ex00 : ¬(W.heap.size = w4.heap.size) := by omega
  have Lx01 := below_old hlit _ _ x01
  obtain ⟨w5, hw5⟩ : ∃ w', w' = w4.alloc (.cells #[.int .i64 a0.1, .slice B0 N0 D0] 49) := ⟨_, rfl⟩
  have b5 : Below w4.heap.size w4 w5 := by rw [hw5]; exact (Below.refl _ _).alloc (Nat.le_refl _) _
  have szx0 : w4.heap.size + 1 = w5.heap.size := by rw [hw5]; simp
  replace hA0 := hA0.below b5
  replace hx0 := hx0.below b5
  replace x00 := below_old b5 _ _ x00
  replace x01 := below_old b5 _ _ x01
  have sz5 := b5.size
  replace hP := hP.below b5
  replace bt := bt.trans (b5.mono bt.size)
  clear b5
  have z00 : w5.cell? ⟨w4.heap.size, 0, none⟩ = some (.int .i64 a0.1) := by rw [hw5]; simp
  have z01 : w5.cell? ⟨w4.heap.size, 1, none⟩ = some (.slice B0 N0 D0) := by rw [hw5]; simp
  have HW5 := hide hw5
  clear hw5
  go_wp2_with fail
  rw [← HW5.out]
  clear hlit Lx00 Ex00 Lx01
  refine (I_CnfText _ _ _ _ _ hP hx0.read (by omega) HR.out).mono ?_
  rintro e w6 ⟨rfl, b6⟩
  replace hA0 := hA0.below b6
  replace hx0 := hx0.below b6
  replace x00 := below_old b6 _ _ x00
  replace x01 := below_old b6 _ _ x01
  replace z00 := below_old b6 _ _ z00
  replace z01 := below_old b6 _ _ z01
  have sz6 := b6.size
  replace hP := hP.below b6
  replace bt := bt.trans (b6.mono bt.size)
  clear b6
  go_wp2_with fail
  go_region_held3 (fun w' => w'.cell? ⟨W.heap.size, 0, none⟩ = some (.int .i64 a0.1) ∧ w'.cell? ⟨W.heap.size, 1, none⟩ = some (.slice A0 n0 c0) ∧ w'.cell? ⟨w4.heap.size, 0, none⟩ = some (.int .i64 a0.1) ∧ w'.cell? ⟨w4.heap.size, 1, none⟩ = some (.slice B0 N0 D0)) (exact ⟨x00, x01, z00, z01⟩)
    ((first | (go_at_call 35; replace hA0 := hA0.below (below_drewA w6); replace hx0 := hx0.below (below_drewA w6); replace x00 := below_old (below_drewA w6) _ _ x00; replace x01 := below_old (below_drewA w6) _ _ x01; replace z00 := below_old (below_drewA w6) _ _ z00; replace z01 := below_old (below_drewA w6) _ _ z01; replace bt := bt.trans ((below_drewA w6).mono bt.size); have szd6 : w6.heap.size ≤ w6.drew.heap.size := Nat.le_refl _; refine (toCnf_any _ _ _ hA0 (by omega)).mono ?_; rintro e w7 ⟨uy0, rfl, hy0, b7⟩; replace hA0 := hA0.below b7; replace hx0 := hx0.below b7; replace x00 := below_old b7 _ _ x00; replace x01 := below_old b7 _ _ x01; replace z00 := below_old b7 _ _ z00; replace z01 := below_old b7 _ _ z01; have sz7 := b7.size; replace bt := bt.trans (b7.mono bt.size); clear b7) | (go_at_call 37; refine (eqCnf_yes _ _ _ _ hx0.read hy0.read (by omega)).mono ?_; rintro e w8 ⟨rfl, b8⟩; replace hA0 := hA0.below b8; replace hx0 := hx0.below b8; replace hy0 := hy0.below b8; replace x00 := below_old b8 _ _ x00; replace x01 := below_old b8 _ _ x01; replace z00 := below_old b8 _ _ z00; replace z01 := below_old b8 _ _ z01; have sz8 := b8.size; replace bt := bt.trans (b8.mono bt.size); clear b8)))
  clear hy0
  go_wp2_with fail
  go_ret
  exact ⟨rfl, bt⟩

end Go.Proofs.YtmepficbmgjpoaaDoor
