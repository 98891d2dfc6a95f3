/- The laws PrimeClauses: each returns true for every input, and the arguments read as before. The walks go by the functions' contracts; the rows' steps lie behind them. -/
import Derived.Test.YtlipmbcjpmbjnaaCnf
import Derived.Test.YtlipmbcjpmbjnaaTopC
import Derived.Test.YtlipmbcjpmbjnaaPrimeU
import Derived.Test.YtlipmbcjpmbjnaaPrimeT
import Derived.ProofKit
import Derived.OpenShut
import Derived.ShutString
import Derived.ChangeOld
import Derived.Below
import Derived.Deep.RegionHeld3
import Derived.Test.YtlipmbcjpmbjnaaReg
namespace Go.Proofs.Ytlipmbcjpmbjnaa
open Go.ChangeShapes Go.WideShapes Go.ChangeAt Go.RowKit
open Go.ChangeMaps (open_string shut_string)
set_option linter.unusedVariables false

set_option maxRecDepth 100000 in
set_option maxHeartbeats 1600000 in
theorem fnExactPrimeClauses_walk (W : World) (v0 : Value) (a0 : CnfL) (in0 : InCnf W v0 a0) :
    Calls Try.prog 8 #[v0] W fun e w' => e = .returned (.bool true) ∧ Below W.heap.size W w' := by
  obtain ⟨hA0, wf0⟩ := in0
  obtain ⟨A0, n0, c0, rfl, -⟩ := hA0.open2
  obtain ⟨wb, hwb⟩ : ∃ wb, wb = (W.alloc (.cells #[.int .i64 a0.1, .slice A0 n0 c0] 24)) := ⟨_, rfl⟩
  have bt : Below W.heap.size W wb := by rw [hwb]; exact (Below.refl _ _).alloc (by simp) _
  have szb : W.heap.size + 1 = wb.heap.size := by rw [hwb]; simp
  have x00 : wb.cell? ⟨W.heap.size, 0, none⟩ = some (.int .i64 a0.1) := by rw [hwb]; simp
  have x01 : wb.cell? ⟨W.heap.size, 1, none⟩ = some (.slice A0 n0 c0) := by rw [hwb]; simp
  replace hA0 := hA0.below bt
  have HWB := hide hwb
  clear hwb
  by_cases hn0 : szC a0 ≤ 1048576
  case neg =>
    go_enter Try.func8, Try.ntmps8
    go_wp2_with fail
    rw [← HWB.out]
    refine (szCnf_any _ _ ((1048576 : Int)) _ hA0 (by omega) (by omega)).mono ?_
    rintro e w1 ⟨rfl, b1⟩
    replace hA0 := hA0.below b1
    replace x00 := below_old b1 _ _ x00
    replace x01 := below_old b1 _ _ x01
    have sz1 := b1.size
    replace bt := bt.trans (b1.mono bt.size)
    clear b1
    rw [show leftB ((1048576 : Int)) (szC a0) = -1 from by unfold leftB; rw [if_neg (by omega)]]
    go_wp2_with fail
    go_ret
    exact ⟨rfl, bt⟩
  have hcc0 := cntC_le a0
  obtain ⟨r0, r1, hR⟩ : ∃ r0 r1, fPrimeClauses a0 = (r0, r1) := ⟨_, _, rfl⟩
  have hl0 := fPrimeClauses_len (by omega) hR
  have hcr0 := cntC_le r0
  have HR := hide hR
  clear hR
  go_enter Try.func8, Try.ntmps8
  go_wp2_with fail
  rw [← HWB.out]
  refine (szCnf_any _ _ ((1048576 : Int)) _ hA0 (by omega) (by omega)).mono ?_
  rintro e w1 ⟨rfl, b1⟩
  replace hA0 := hA0.below b1
  replace x00 := below_old b1 _ _ x00
  replace x01 := below_old b1 _ _ x01
  have sz1 := b1.size
  replace bt := bt.trans (b1.mono bt.size)
  clear b1
  rw [show leftB ((1048576 : Int)) (szC a0) = (1048576 : Int) - (szC a0 : Int) from by unfold leftB; rw [if_pos (by omega)]]
  go_wp2_with fail
  refine (toCnf_any _ _ _ hA0 (by omega)).mono ?_
  rintro e w2 ⟨us0, rfl, hs0, b2⟩
  replace hA0 := hA0.below b2
  replace x00 := below_old b2 _ _ x00
  replace x01 := below_old b2 _ _ x01
  have sz2 := b2.size
  replace bt := bt.trans (b2.mono bt.size)
  clear b2
  go_wp2_with fail
  refine (S_PrimeClauses _ _ _ _ _ hs0.read (by omega) HR.out).mono ?_
  rintro e w3 ⟨uw0, rfl, hw0, b3⟩
  replace hA0 := hA0.below b3
  replace hs0 := hs0.below b3
  replace x00 := below_old b3 _ _ x00
  replace x01 := below_old b3 _ _ x01
  have sz3 := b3.size
  replace bt := bt.trans (b3.mono bt.size)
  clear b3
  obtain ⟨Brw, Nrw, Drw, rfl, -⟩ := hw0.open2
  have hlit : Below w3.heap.size w3 (w3.alloc (.cells #[.int .i64 r0.1, .slice Brw Nrw Drw] 29)) := (Below.refl _ _).alloc (Nat.le_refl _) _
  have Lx00 := below_old hlit _ _ x00
  have Ex00 : ¬(W.heap.size = w3.heap.size) := by omega
  have Lx01 := below_old hlit _ _ x01
  obtain ⟨w4, hw4⟩ : ∃ w', w' = w3.alloc (.cells #[.int .i64 r0.1, .slice Brw Nrw Drw] 29) := ⟨_, rfl⟩
  have b4 : Below w3.heap.size w3 w4 := by rw [hw4]; exact (Below.refl _ _).alloc (Nat.le_refl _) _
  have szxrw : w3.heap.size + 1 = w4.heap.size := by rw [hw4]; simp
  replace hA0 := hA0.below b4
  replace hs0 := hs0.below b4
  replace hw0 := hw0.below b4
  replace x00 := below_old b4 _ _ x00
  replace x01 := below_old b4 _ _ x01
  have sz4 := b4.size
  replace bt := bt.trans (b4.mono bt.size)
  clear b4
  have pw0 : w4.cell? ⟨w3.heap.size, 0, none⟩ = some (.int .i64 r0.1) := by rw [hw4]; simp
  have pw1 : w4.cell? ⟨w3.heap.size, 1, none⟩ = some (.slice Brw Nrw Drw) := by rw [hw4]; simp
  have HW4 := hide hw4
  clear hw4
  clear hs0
  go_wp2_with fail
  rw [← HW4.out]
  clear hlit Lx00 Ex00 Lx01
  refine (toCnf_any _ _ _ hA0 (by omega)).mono ?_
  rintro e w5 ⟨ux0, rfl, hx0, b5⟩
  replace hA0 := hA0.below b5
  replace hw0 := hw0.below b5
  replace x00 := below_old b5 _ _ x00
  replace x01 := below_old b5 _ _ x01
  replace pw0 := below_old b5 _ _ pw0
  replace pw1 := below_old b5 _ _ pw1
  have sz5 := b5.size
  replace bt := bt.trans (b5.mono bt.size)
  clear b5
  obtain ⟨B0, N0, D0, rfl, -⟩ := hx0.open2
  have hlit : Below w5.heap.size w5 (w5.alloc (.cells #[.int .i64 a0.1, .slice B0 N0 D0] 29)) := (Below.refl _ _).alloc (Nat.le_refl _) _
  have Lx00 := below_old hlit _ _ x00
  have Ex00 : ¬(W.heap.size = w5.heap.size) := by omega
  have Lx01 := below_old hlit _ _ x01
  have Lpw0 := below_old hlit _ _ pw0
  have Epw0 : ¬(w3.heap.size = w5.heap.size) := by omega
  have Lpw1 := below_old hlit _ _ pw1
  obtain ⟨w6, hw6⟩ : ∃ w', w' = w5.alloc (.cells #[.int .i64 a0.1, .slice B0 N0 D0] 29) := ⟨_, rfl⟩
  have b6 : Below w5.heap.size w5 w6 := by rw [hw6]; exact (Below.refl _ _).alloc (Nat.le_refl _) _
  have szx0 : w5.heap.size + 1 = w6.heap.size := by rw [hw6]; simp
  replace hA0 := hA0.below b6
  replace hw0 := hw0.below b6
  replace hx0 := hx0.below b6
  replace x00 := below_old b6 _ _ x00
  replace x01 := below_old b6 _ _ x01
  replace pw0 := below_old b6 _ _ pw0
  replace pw1 := below_old b6 _ _ pw1
  have sz6 := b6.size
  replace bt := bt.trans (b6.mono bt.size)
  clear b6
  have z00 : w6.cell? ⟨w5.heap.size, 0, none⟩ = some (.int .i64 a0.1) := by rw [hw6]; simp
  have z01 : w6.cell? ⟨w5.heap.size, 1, none⟩ = some (.slice B0 N0 D0) := by rw [hw6]; simp
  have HW6 := hide hw6
  clear hw6
  go_wp2_with fail
  rw [← HW6.out]
  clear hlit Lx00 Ex00 Lx01 Lpw0 Epw0 Lpw1
  refine (I_PrimeClauses _ _ _ _ _ hx0.read (by omega) HR.out).mono ?_
  rintro e w7 ⟨ug0, rfl, hg0, b7⟩
  replace hA0 := hA0.below b7
  replace hw0 := hw0.below b7
  replace hx0 := hx0.below b7
  replace x00 := below_old b7 _ _ x00
  replace x01 := below_old b7 _ _ x01
  replace pw0 := below_old b7 _ _ pw0
  replace pw1 := below_old b7 _ _ pw1
  replace z00 := below_old b7 _ _ z00
  replace z01 := below_old b7 _ _ z01
  have sz7 := b7.size
  replace bt := bt.trans (b7.mono bt.size)
  clear b7
  obtain ⟨Brg, Nrg, Drg, rfl, -⟩ := hg0.open2
  have hlit : Below w7.heap.size w7 (w7.alloc (.cells #[.int .i64 r0.1, .slice Brg Nrg Drg] 29)) := (Below.refl _ _).alloc (Nat.le_refl _) _
  have Lx00 := below_old hlit _ _ x00
  have Ex00 : ¬(W.heap.size = w7.heap.size) := by omega
  have Lx01 := below_old hlit _ _ x01
  have Lpw0 := below_old hlit _ _ pw0
  have Epw0 : ¬(w3.heap.size = w7.heap.size) := by omega
  have Lpw1 := below_old hlit _ _ pw1
  have Lz00 := below_old hlit _ _ z00
  have Ez00 : ¬(w5.heap.size = w7.heap.size) := by omega
  have Lz01 := below_old hlit _ _ z01
  obtain ⟨w8, hw8⟩ : ∃ w', w' = w7.alloc (.cells #[.int .i64 r0.1, .slice Brg Nrg Drg] 29) := ⟨_, rfl⟩
  have b8 : Below w7.heap.size w7 w8 := by rw [hw8]; exact (Below.refl _ _).alloc (Nat.le_refl _) _
  have szxrg : w7.heap.size + 1 = w8.heap.size := by rw [hw8]; simp
  replace hA0 := hA0.below b8
  replace hw0 := hw0.below b8
  replace hx0 := hx0.below b8
  replace hg0 := hg0.below b8
  replace x00 := below_old b8 _ _ x00
  replace x01 := below_old b8 _ _ x01
  replace pw0 := below_old b8 _ _ pw0
  replace pw1 := below_old b8 _ _ pw1
  replace z00 := below_old b8 _ _ z00
  replace z01 := below_old b8 _ _ z01
  have sz8 := b8.size
  replace bt := bt.trans (b8.mono bt.size)
  clear b8
  have pg0 : w8.cell? ⟨w7.heap.size, 0, none⟩ = some (.int .i64 r0.1) := by rw [hw8]; simp
  have pg1 : w8.cell? ⟨w7.heap.size, 1, none⟩ = some (.slice Brg Nrg Drg) := by rw [hw8]; simp
  have HW8 := hide hw8
  clear hw8
  go_wp2_with fail
  rw [← HW8.out]
  clear hlit Lx00 Ex00 Lx01 Lpw0 Epw0 Lpw1 Lz00 Ez00 Lz01
  refine (eqCnf_yes _ _ _ _ hg0.read hw0.read (by omega)).mono ?_
  rintro e w9 ⟨rfl, b9⟩
  replace hA0 := hA0.below b9
  replace hw0 := hw0.below b9
  replace hx0 := hx0.below b9
  replace hg0 := hg0.below b9
  replace x00 := below_old b9 _ _ x00
  replace x01 := below_old b9 _ _ x01
  replace pw0 := below_old b9 _ _ pw0
  replace pw1 := below_old b9 _ _ pw1
  replace z00 := below_old b9 _ _ z00
  replace z01 := below_old b9 _ _ z01
  replace pg0 := below_old b9 _ _ pg0
  replace pg1 := below_old b9 _ _ pg1
  have sz9 := b9.size
  replace bt := bt.trans (b9.mono bt.size)
  clear b9
  go_wp2_with fail
  go_region_held3 (fun w' => w'.cell? ⟨W.heap.size, 0, none⟩ = some (.int .i64 a0.1) ∧ w'.cell? ⟨W.heap.size, 1, none⟩ = some (.slice A0 n0 c0) ∧ w'.cell? ⟨w3.heap.size, 0, none⟩ = some (.int .i64 r0.1) ∧ w'.cell? ⟨w3.heap.size, 1, none⟩ = some (.slice Brw Nrw Drw) ∧ w'.cell? ⟨w5.heap.size, 0, none⟩ = some (.int .i64 a0.1) ∧ w'.cell? ⟨w5.heap.size, 1, none⟩ = some (.slice B0 N0 D0) ∧ w'.cell? ⟨w7.heap.size, 0, none⟩ = some (.int .i64 r0.1) ∧ w'.cell? ⟨w7.heap.size, 1, none⟩ = some (.slice Brg Nrg Drg)) (exact ⟨x00, x01, pw0, pw1, z00, z01, pg0, pg1⟩)
    ((first | (go_at_call 11; replace hA0 := hA0.below (below_drew w9); replace hw0 := hw0.below (below_drew w9); replace hx0 := hx0.below (below_drew w9); replace hg0 := hg0.below (below_drew w9); replace x00 := below_old (below_drew w9) _ _ x00; replace x01 := below_old (below_drew w9) _ _ x01; replace pw0 := below_old (below_drew w9) _ _ pw0; replace pw1 := below_old (below_drew w9) _ _ pw1; replace z00 := below_old (below_drew w9) _ _ z00; replace z01 := below_old (below_drew w9) _ _ z01; replace pg0 := below_old (below_drew w9) _ _ pg0; replace pg1 := below_old (below_drew w9) _ _ pg1; replace bt := bt.trans ((below_drew w9).mono bt.size); have szd9 : w9.heap.size ≤ w9.drew.heap.size := Nat.le_refl _; refine (toCnf_any _ _ _ hA0 (by omega)).mono ?_; rintro e w10 ⟨uy0, rfl, hy0, b10⟩; replace hA0 := hA0.below b10; replace hw0 := hw0.below b10; replace hx0 := hx0.below b10; replace hg0 := hg0.below b10; replace x00 := below_old b10 _ _ x00; replace x01 := below_old b10 _ _ x01; replace pw0 := below_old b10 _ _ pw0; replace pw1 := below_old b10 _ _ pw1; replace z00 := below_old b10 _ _ z00; replace z01 := below_old b10 _ _ z01; replace pg0 := below_old b10 _ _ pg0; replace pg1 := below_old b10 _ _ pg1; have sz10 := b10.size; replace bt := bt.trans (b10.mono bt.size); clear b10) | (go_at_call 14; refine (eqCnf_yes _ _ _ _ hx0.read hy0.read (by omega)).mono ?_; rintro e w11 ⟨rfl, b11⟩; replace hA0 := hA0.below b11; replace hw0 := hw0.below b11; replace hx0 := hx0.below b11; replace hg0 := hg0.below b11; replace hy0 := hy0.below b11; replace x00 := below_old b11 _ _ x00; replace x01 := below_old b11 _ _ x01; replace pw0 := below_old b11 _ _ pw0; replace pw1 := below_old b11 _ _ pw1; replace z00 := below_old b11 _ _ z00; replace z01 := below_old b11 _ _ z01; replace pg0 := below_old b11 _ _ pg0; replace pg1 := below_old b11 _ _ pg1; have sz11 := b11.size; replace bt := bt.trans (b11.mono bt.size); clear b11)))
  clear hy0
  go_wp2_with fail
  refine (markCnf_any _ _ _ _ hx0 (by omega) (by omega) (by omega)).mono ?_
  rintro e w12 ⟨rfl, m12, c12, -⟩
  clear hx0
  replace hA0 := hA0.chg c12 (by omega)
  replace hw0 := hw0.chg c12 (by omega)
  replace hg0 := hg0.chg c12 (by omega)
  replace x00 := chg_old c12 x00 (by first | (simp; omega) | simp)
  replace x01 := chg_old c12 x01 (by first | (simp; omega) | simp)
  replace pw0 := chg_old c12 pw0 (by first | (simp; omega) | simp)
  replace pw1 := chg_old c12 pw1 (by first | (simp; omega) | simp)
  replace z00 := chg_old c12 z00 (by first | (simp; omega) | simp)
  replace z01 := chg_old c12 z01 (by first | (simp; omega) | simp)
  replace pg0 := chg_old c12 pg0 (by first | (simp; omega) | simp)
  replace pg1 := chg_old c12 pg1 (by first | (simp; omega) | simp)
  have sz12 := c12.size
  replace bt := below_chg bt c12 (by omega) (Nat.le_refl _)
  clear c12
  clear m12
  go_wp2_with fail
  refine (eqCnf_yes _ _ _ _ hg0.read hw0.read (by omega)).mono ?_
  rintro e w13 ⟨rfl, b13⟩
  replace hA0 := hA0.below b13
  replace hw0 := hw0.below b13
  replace hg0 := hg0.below b13
  replace x00 := below_old b13 _ _ x00
  replace x01 := below_old b13 _ _ x01
  replace pw0 := below_old b13 _ _ pw0
  replace pw1 := below_old b13 _ _ pw1
  replace z00 := below_old b13 _ _ z00
  replace z01 := below_old b13 _ _ z01
  replace pg0 := below_old b13 _ _ pg0
  replace pg1 := below_old b13 _ _ pg1
  have sz13 := b13.size
  replace bt := bt.trans (b13.mono bt.size)
  clear b13
  go_wp2_with fail
  refine (markCnf_any _ _ _ _ hg0 (by omega) (by omega) (by omega)).mono ?_
  rintro e w14 ⟨rfl, m14, c14, -⟩
  clear hg0
  replace hA0 := hA0.chg c14 (by omega)
  replace hw0 := hw0.chg c14 (by omega)
  replace x00 := chg_old c14 x00 (by first | (simp; omega) | simp)
  replace x01 := chg_old c14 x01 (by first | (simp; omega) | simp)
  replace pw0 := chg_old c14 pw0 (by first | (simp; omega) | simp)
  replace pw1 := chg_old c14 pw1 (by first | (simp; omega) | simp)
  replace z00 := chg_old c14 z00 (by first | (simp; omega) | simp)
  replace z01 := chg_old c14 z01 (by first | (simp; omega) | simp)
  replace pg0 := chg_old c14 pg0 (by first | (simp; omega) | simp)
  replace pg1 := chg_old c14 pg1 (by first | (simp; omega) | simp)
  have sz14 := c14.size
  replace bt := below_chg bt c14 (by omega) (Nat.le_refl _)
  clear c14
  go_wp2_with fail
  refine (heldCnf_yes _ _ _ _ m14.read (by omega) (by omega) (by omega)).mono ?_
  rintro e w15 ⟨rfl, b15⟩
  replace hA0 := hA0.below b15
  replace hw0 := hw0.below b15
  replace m14 := m14.below b15
  replace x00 := below_old b15 _ _ x00
  replace x01 := below_old b15 _ _ x01
  replace pw0 := below_old b15 _ _ pw0
  replace pw1 := below_old b15 _ _ pw1
  replace z00 := below_old b15 _ _ z00
  replace z01 := below_old b15 _ _ z01
  replace pg0 := below_old b15 _ _ pg0
  replace pg1 := below_old b15 _ _ pg1
  have sz15 := b15.size
  replace bt := bt.trans (b15.mono bt.size)
  clear b15
  go_wp2_with fail
  refine (toCnf_any _ _ _ hA0 (by omega)).mono ?_
  rintro e w16 ⟨uz0, rfl, hz0, b16⟩
  replace hA0 := hA0.below b16
  replace hw0 := hw0.below b16
  replace m14 := m14.below b16
  replace x00 := below_old b16 _ _ x00
  replace x01 := below_old b16 _ _ x01
  replace pw0 := below_old b16 _ _ pw0
  replace pw1 := below_old b16 _ _ pw1
  replace z00 := below_old b16 _ _ z00
  replace z01 := below_old b16 _ _ z01
  replace pg0 := below_old b16 _ _ pg0
  replace pg1 := below_old b16 _ _ pg1
  have sz16 := b16.size
  replace bt := bt.trans (b16.mono bt.size)
  clear b16
  go_wp2_with fail
  refine (I_PrimeClauses _ _ _ _ _ hz0.read (by omega) HR.out).mono ?_
  rintro e w17 ⟨uh0, rfl, hh0, b17⟩
  replace hA0 := hA0.below b17
  replace hw0 := hw0.below b17
  replace m14 := m14.below b17
  replace hz0 := hz0.below b17
  replace x00 := below_old b17 _ _ x00
  replace x01 := below_old b17 _ _ x01
  replace pw0 := below_old b17 _ _ pw0
  replace pw1 := below_old b17 _ _ pw1
  replace z00 := below_old b17 _ _ z00
  replace z01 := below_old b17 _ _ z01
  replace pg0 := below_old b17 _ _ pg0
  replace pg1 := below_old b17 _ _ pg1
  have sz17 := b17.size
  replace bt := bt.trans (b17.mono bt.size)
  clear b17
  obtain ⟨Brh, Nrh, Drh, rfl, -⟩ := hh0.open2
  have hlit : Below w17.heap.size w17 (w17.alloc (.cells #[.int .i64 r0.1, .slice Brh Nrh Drh] 29)) := (Below.refl _ _).alloc (Nat.le_refl _) _
  have Lx00 := below_old hlit _ _ x00
  have Ex00 : ¬(W.heap.size = w17.heap.size) := by omega
  have Lx01 := below_old hlit _ _ x01
  have Lpw0 := below_old hlit _ _ pw0
  have Epw0 : ¬(w3.heap.size = w17.heap.size) := by omega
  have Lpw1 := below_old hlit _ _ pw1
  have Lz00 := below_old hlit _ _ z00
  have Ez00 : ¬(w5.heap.size = w17.heap.size) := by omega
  have Lz01 := below_old hlit _ _ z01
  have Lpg0 := below_old hlit _ _ pg0
  have Epg0 : ¬(w7.heap.size = w17.heap.size) := by omega
  have Lpg1 := below_old hlit _ _ pg1
  obtain ⟨w18, hw18⟩ : ∃ w', w' = w17.alloc (.cells #[.int .i64 r0.1, .slice Brh Nrh Drh] 29) := ⟨_, rfl⟩
  have b18 : Below w17.heap.size w17 w18 := by rw [hw18]; exact (Below.refl _ _).alloc (Nat.le_refl _) _
  have szxrh : w17.heap.size + 1 = w18.heap.size := by rw [hw18]; simp
  replace hA0 := hA0.below b18
  replace hw0 := hw0.below b18
  replace m14 := m14.below b18
  replace hz0 := hz0.below b18
  replace hh0 := hh0.below b18
  replace x00 := below_old b18 _ _ x00
  replace x01 := below_old b18 _ _ x01
  replace pw0 := below_old b18 _ _ pw0
  replace pw1 := below_old b18 _ _ pw1
  replace z00 := below_old b18 _ _ z00
  replace z01 := below_old b18 _ _ z01
  replace pg0 := below_old b18 _ _ pg0
  replace pg1 := below_old b18 _ _ pg1
  have sz18 := b18.size
  replace bt := bt.trans (b18.mono bt.size)
  clear b18
  have ph0 : w18.cell? ⟨w17.heap.size, 0, none⟩ = some (.int .i64 r0.1) := by rw [hw18]; simp
  have ph1 : w18.cell? ⟨w17.heap.size, 1, none⟩ = some (.slice Brh Nrh Drh) := by rw [hw18]; simp
  have HW18 := hide hw18
  clear hw18
  clear hz0
  go_wp2_with fail
  rw [← HW18.out]
  clear hlit Lx00 Ex00 Lx01 Lpw0 Epw0 Lpw1 Lz00 Ez00 Lz01 Lpg0 Epg0 Lpg1
  refine (eqCnf_yes _ _ _ _ hh0.read hw0.read (by omega)).mono ?_
  rintro e w19 ⟨rfl, b19⟩
  replace hA0 := hA0.below b19
  replace hw0 := hw0.below b19
  replace m14 := m14.below b19
  replace hh0 := hh0.below b19
  replace x00 := below_old b19 _ _ x00
  replace x01 := below_old b19 _ _ x01
  replace pw0 := below_old b19 _ _ pw0
  replace pw1 := below_old b19 _ _ pw1
  replace z00 := below_old b19 _ _ z00
  replace z01 := below_old b19 _ _ z01
  replace pg0 := below_old b19 _ _ pg0
  replace pg1 := below_old b19 _ _ pg1
  replace ph0 := below_old b19 _ _ ph0
  replace ph1 := below_old b19 _ _ ph1
  have sz19 := b19.size
  replace bt := bt.trans (b19.mono bt.size)
  clear b19
  go_wp2_with fail
  refine (heldCnf_yes _ _ _ _ m14.read (by omega) (by omega) (by omega)).mono ?_
  rintro e w20 ⟨rfl, b20⟩
  replace hA0 := hA0.below b20
  replace hw0 := hw0.below b20
  replace m14 := m14.below b20
  replace hh0 := hh0.below b20
  replace x00 := below_old b20 _ _ x00
  replace x01 := below_old b20 _ _ x01
  replace pw0 := below_old b20 _ _ pw0
  replace pw1 := below_old b20 _ _ pw1
  replace z00 := below_old b20 _ _ z00
  replace z01 := below_old b20 _ _ z01
  replace pg0 := below_old b20 _ _ pg0
  replace pg1 := below_old b20 _ _ pg1
  replace ph0 := below_old b20 _ _ ph0
  replace ph1 := below_old b20 _ _ ph1
  have sz20 := b20.size
  replace bt := bt.trans (b20.mono bt.size)
  clear b20
  go_wp2_with fail
  go_ret
  exact ⟨rfl, bt⟩

set_option maxRecDepth 100000 in
theorem fnExactPrimeClauses_lifted (os : Os) (started : os.Started) (H : Type) (enc : TypeId × Value → H) :
    ReturnsInHanded {} Try.checked os 8 .any (Rows.fnExactPrimeClausesSpec.pre6 enc Try.prog Try.f8 Rows.fnExactPrimeClausesRow.domain false) (Rows.fnExactPrimeClausesSpec.post enc Try.prog Try.f8 false true false false) := by
  refine returnsInHanded_of_change (C := Try.checked) own started (by kernel_rfl) Try.func8
    (ChangeSpec.witness6 (enc := enc) (C := Try.checked) false ⟨#[], #[.agg #[.int .i64 0, .slice none 0 0]], []⟩ 8 (by kernel_rfl) (by kernel_rfl) (by kernel_rfl) (by kernel_rfl)) ?_
  intro W base args ds gs before hval0 hW hcnd _
  have hval : ∀ (j : Nat) t v, Try.f8.params[j]? = some t → args[j]? = some v → Value.okWide Try.prog W .any base t v := hval0
  have hW' := hW
  obtain ⟨p, q, hA0, hV, rfl, hfz, hnd⟩ := hW
  have hA : DataW.TrodAll enc Try.prog W 0 (fun _ => true) true Try.f8.params.toList args.toList ds p := hA0
  rw [Try.params8] at hA hval
  obtain ⟨v0, vs0, d0, ds0, p0, q0, hargs, rfl, rfl, h0, r0⟩ := trodAll_cons hA
  obtain ⟨rfl, rfl, rfl⟩ := trodAll_nil r0
  obtain rfl : args = #[v0] := by cases args; simp_all
  obtain ⟨rfl, rfl⟩ := trodVars_none hV
  have k0 := h0
  have lt0 : ∀ x ∈ p0, x.block < W.heap.size := by obtain ⟨m, hm⟩ := k0; exact DataW.trod_lt m _ _ _ hm
  obtain ⟨a0, w0⟩ := in_cnf (hval 0 24 v0 rfl rfl) h0 lt0
  clear hA0 hval0
  refine (fnExactPrimeClauses_walk W v0 a0 w0).mono fun e W' ⟨he, bel⟩ => ?_
  subst he
  exact ⟨_, rfl, _, _, _, [], _, [], hW', trodAll_mk1 (shut_bool Try.underlying4 _), (trodAll_cons_mk (Below.trod laidOut (by kernel_rfl) (of_decide_eq_true (by kernel_rfl)) k0 bel lt0) trodAll_mk0), rfl, bel.frame _, fun h => by cases h⟩

theorem fnExactPrimeClauses_over : Rows.fnExactPrimeClausesRow.holds Try.pinned (OpenSpec.ofChange Rows.fnExactPrimeClausesSpec) :=
  OpenClaim.holds_of_wide 8 Try.f8 rfl rfl rfl rfl rfl rfl rfl ⟨rfl, rfl, rfl, rfl, rfl⟩ rfl rfl rfl rfl rfl (by kernel_rfl) Try.func8 (by kernel_rfl)
    (of_decide_eq_true (by kernel_rfl)) (by unfold Func.isWrapper; first | (rw [if_pos (by decide +kernel)]; kernel_rfl) | (rw [if_neg (by decide +kernel)]; exact ⟨rfl, rfl⟩))
    (fun os started H enc _ => fnExactPrimeClauses_lifted os started H enc)

theorem fnExactPrimeClauses_proved : Rows.FnExactPrimeClausesSaid := fnExactPrimeClauses_over

end Go.Proofs.Ytlipmbcjpmbjnaa
