/- The walks of the laws ParseCnf. -/
import Derived.Test.YtmepficbmgjpoaaDoorLaidC
import Derived.Test.YtmepficbmgjpoaaDoorPcI
import Derived.ProofKit
import Derived.OpenShut
import Derived.ShutString
import Derived.ChangeOld
import Derived.Below
import Derived.Deep.RegionHeld3
namespace Go.Proofs.YtmepficbmgjpoaaDoor
open Go.ChangeShapes Go.WideShapes Go.ChangeAt Go.RowKit
open Go.ChangeMaps (open_string shut_string)
set_option linter.unusedVariables false

set_option maxRecDepth 100000 in
set_option maxHeartbeats 1600000 in
theorem law_ParseCnf (W : World) (a0 : ByteArray) (b0 : a0.size ≤ maxLen) (hP : PowM W) :
    Calls Tryd.prog 11 #[.string a0] W fun e w' => e = .returned (.bool true) ∧ Below W.heap.size W w' := by
  have hPn := hP.room
  unfold maxLen at b0
  have bt := Below.refl W.heap.size W
  by_cases hn0 : a0.size ≤ 1048576
  case neg =>
    go_enter Tryd.func11, Tryd.ntmps11
    go_wp2_with fail
    go_ret
    exact ⟨rfl, bt⟩
  obtain ⟨r0, r1, hR⟩ : ∃ r0 r1, fParseCnf a0 = (r0, r1) := ⟨_, _, rfl⟩
  have hl0 := fParseCnf_len hR
  have hcr0 := cntC_leN r0
  have HR := hide hR
  clear hR
  go_enter Tryd.func11, Tryd.ntmps11
  go_wp2_with fail
  refine (S_ParseCnf _ _ _ _  hn0 HR.out).mono ?_
  rintro e w1 ⟨uw0, rfl, hw0, b1⟩
  have sz1 := b1.size
  replace hP := hP.below b1
  replace bt := bt.trans (b1.mono bt.size)
  clear b1
  obtain ⟨Brw, Nrw, Drw, rfl, -⟩ := hw0.openN
  have hlit : Below w1.heap.size w1 (w1.alloc (.cells #[.int .i64 r0.1, .slice Brw Nrw Drw] 49)) := (Below.refl _ _).alloc (Nat.le_refl _) _
  obtain ⟨w2, hw2⟩ : ∃ w', w' = w1.alloc (.cells #[.int .i64 r0.1, .slice Brw Nrw Drw] 49) := ⟨_, rfl⟩
  have b2 : Below w1.heap.size w1 w2 := by rw [hw2]; exact (Below.refl _ _).alloc (Nat.le_refl _) _
  have szxrw : w1.heap.size + 1 = w2.heap.size := by rw [hw2]; simp
  replace hw0 := hw0.below b2
  have sz2 := b2.size
  replace hP := hP.below b2
  replace bt := bt.trans (b2.mono bt.size)
  clear b2
  have pw0 : w2.cell? ⟨w1.heap.size, 0, none⟩ = some (.int .i64 r0.1) := by rw [hw2]; simp
  have pw1 : w2.cell? ⟨w1.heap.size, 1, none⟩ = some (.slice Brw Nrw Drw) := by rw [hw2]; simp
  have HW2 := hide hw2
  clear hw2
  go_wp2_with fail
  rw [← HW2.out]
  clear hlit 
  refine (I_ParseCnf _ _ _ _ hP  hn0 HR.out).mono ?_
  rintro e w3 ⟨ug0, rfl, hg0, b3⟩
  replace hw0 := hw0.below b3
  replace pw0 := below_old b3 _ _ pw0
  replace pw1 := below_old b3 _ _ pw1
  have sz3 := b3.size
  replace hP := hP.below b3
  replace bt := bt.trans (b3.mono bt.size)
  clear b3
  obtain ⟨Brg, Nrg, Drg, rfl, -⟩ := hg0.openN
  have hlit : Below w3.heap.size w3 (w3.alloc (.cells #[.int .i64 r0.1, .slice Brg Nrg Drg] 49)) := (Below.refl _ _).alloc (Nat.le_refl _) _
  have Lpw0 := below_old hlit _ _ pw0
  have Epw0 : ¬(w1.heap.size = w3.heap.size) := by omega
  have Lpw1 := below_old hlit _ _ pw1
  obtain ⟨w4, hw4⟩ : ∃ w', w' = w3.alloc (.cells #[.int .i64 r0.1, .slice Brg Nrg Drg] 49) := ⟨_, rfl⟩
  have b4 : Below w3.heap.size w3 w4 := by rw [hw4]; exact (Below.refl _ _).alloc (Nat.le_refl _) _
  have szxrg : w3.heap.size + 1 = w4.heap.size := by rw [hw4]; simp
  replace hw0 := hw0.below b4
  replace hg0 := hg0.below b4
  replace pw0 := below_old b4 _ _ pw0
  replace pw1 := below_old b4 _ _ pw1
  have sz4 := b4.size
  replace hP := hP.below b4
  replace bt := bt.trans (b4.mono bt.size)
  clear b4
  have pg0 : w4.cell? ⟨w3.heap.size, 0, none⟩ = some (.int .i64 r0.1) := by rw [hw4]; simp
  have pg1 : w4.cell? ⟨w3.heap.size, 1, none⟩ = some (.slice Brg Nrg Drg) := by rw [hw4]; simp
  have HW4 := hide hw4
  clear hw4
  go_wp2_with fail
  rw [← HW4.out]
  clear hlit Lpw0 Epw0 Lpw1
  refine (eqCnf_yes _ _ _ _ hg0.read hw0.read (by omega)).mono ?_
  rintro e w5 ⟨rfl, b5⟩
  replace hw0 := hw0.below b5
  replace hg0 := hg0.below b5
  replace pw0 := below_old b5 _ _ pw0
  replace pw1 := below_old b5 _ _ pw1
  replace pg0 := below_old b5 _ _ pg0
  replace pg1 := below_old b5 _ _ pg1
  have sz5 := b5.size
  replace hP := hP.below b5
  replace bt := bt.trans (b5.mono bt.size)
  clear b5
  go_wp2_with fail
  refine (markCnf_any _ _ _ _ hg0 (by omega) (by omega) (by omega)).mono ?_
  rintro e w6 ⟨rfl, m6, c6, -⟩
  clear hg0
  replace hw0 := hw0.chg c6 (by omega)
  replace pw0 := chg_oldP c6 pw0 (by first | (simp; omega) | simp)
  replace pw1 := chg_oldP c6 pw1 (by first | (simp; omega) | simp)
  replace pg0 := chg_oldP c6 pg0 (by first | (simp; omega) | simp)
  replace pg1 := chg_oldP c6 pg1 (by first | (simp; omega) | simp)
  have sz6 := c6.size
  replace hP := hP.chg c6 (by omega)
  replace bt := below_chg bt c6 (by omega) (Nat.le_refl _)
  clear c6
  go_wp2_with fail
  refine (heldCnf_yes _ _ _ _ m6.read (by omega) (by omega) (by omega)).mono ?_
  rintro e w7 ⟨rfl, b7⟩
  replace hw0 := hw0.below b7
  replace m6 := m6.below b7
  replace pw0 := below_old b7 _ _ pw0
  replace pw1 := below_old b7 _ _ pw1
  replace pg0 := below_old b7 _ _ pg0
  replace pg1 := below_old b7 _ _ pg1
  have sz7 := b7.size
  replace hP := hP.below b7
  replace bt := bt.trans (b7.mono bt.size)
  clear b7
  go_wp2_with fail
  refine (I_ParseCnf _ _ _ _ hP  hn0 HR.out).mono ?_
  rintro e w8 ⟨uh0, rfl, hh0, b8⟩
  replace hw0 := hw0.below b8
  replace m6 := m6.below b8
  replace pw0 := below_old b8 _ _ pw0
  replace pw1 := below_old b8 _ _ pw1
  replace pg0 := below_old b8 _ _ pg0
  replace pg1 := below_old b8 _ _ pg1
  have sz8 := b8.size
  replace hP := hP.below b8
  replace bt := bt.trans (b8.mono bt.size)
  clear b8
  obtain ⟨Brh, Nrh, Drh, rfl, -⟩ := hh0.openN
  have hlit : Below w8.heap.size w8 (w8.alloc (.cells #[.int .i64 r0.1, .slice Brh Nrh Drh] 49)) := (Below.refl _ _).alloc (Nat.le_refl _) _
  have Lpw0 := below_old hlit _ _ pw0
  have Epw0 : ¬(w1.heap.size = w8.heap.size) := by omega
  have Lpw1 := below_old hlit _ _ pw1
  have Lpg0 := below_old hlit _ _ pg0
  have Epg0 : ¬(w3.heap.size = w8.heap.size) := by omega
  have Lpg1 := below_old hlit _ _ pg1
  obtain ⟨w9, hw9⟩ : ∃ w', w' = w8.alloc (.cells #[.int .i64 r0.1, .slice Brh Nrh Drh] 49) := ⟨_, rfl⟩
  have b9 : Below w8.heap.size w8 w9 := by rw [hw9]; exact (Below.refl _ _).alloc (Nat.le_refl _) _
  have szxrh : w8.heap.size + 1 = w9.heap.size := by rw [hw9]; simp
  replace hw0 := hw0.below b9
  replace m6 := m6.below b9
  replace hh0 := hh0.below b9
  replace pw0 := below_old b9 _ _ pw0
  replace pw1 := below_old b9 _ _ pw1
  replace pg0 := below_old b9 _ _ pg0
  replace pg1 := below_old b9 _ _ pg1
  have sz9 := b9.size
  replace hP := hP.below b9
  replace bt := bt.trans (b9.mono bt.size)
  clear b9
  have ph0 : w9.cell? ⟨w8.heap.size, 0, none⟩ = some (.int .i64 r0.1) := by rw [hw9]; simp
  have ph1 : w9.cell? ⟨w8.heap.size, 1, none⟩ = some (.slice Brh Nrh Drh) := by rw [hw9]; simp
  have HW9 := hide hw9
  clear hw9
  go_wp2_with fail
  rw [← HW9.out]
  clear hlit Lpw0 Epw0 Lpw1 Lpg0 Epg0 Lpg1
  refine (eqCnf_yes _ _ _ _ hh0.read hw0.read (by omega)).mono ?_
  rintro e w10 ⟨rfl, b10⟩
  replace hw0 := hw0.below b10
  replace m6 := m6.below b10
  replace hh0 := hh0.below b10
  replace pw0 := below_old b10 _ _ pw0
  replace pw1 := below_old b10 _ _ pw1
  replace pg0 := below_old b10 _ _ pg0
  replace pg1 := below_old b10 _ _ pg1
  replace ph0 := below_old b10 _ _ ph0
  replace ph1 := below_old b10 _ _ ph1
  have sz10 := b10.size
  replace hP := hP.below b10
  replace bt := bt.trans (b10.mono bt.size)
  clear b10
  go_wp2_with fail
  refine (heldCnf_yes _ _ _ _ m6.read (by omega) (by omega) (by omega)).mono ?_
  rintro e w11 ⟨rfl, b11⟩
  replace hw0 := hw0.below b11
  replace m6 := m6.below b11
  replace hh0 := hh0.below b11
  replace pw0 := below_old b11 _ _ pw0
  replace pw1 := below_old b11 _ _ pw1
  replace pg0 := below_old b11 _ _ pg0
  replace pg1 := below_old b11 _ _ pg1
  replace ph0 := below_old b11 _ _ ph0
  replace ph1 := below_old b11 _ _ ph1
  have sz11 := b11.size
  replace hP := hP.below b11
  replace bt := bt.trans (b11.mono bt.size)
  clear b11
  go_wp2_with fail
  go_ret
  exact ⟨rfl, bt⟩

end Go.Proofs.YtmepficbmgjpoaaDoor
