/- The laws UnitLiterals: each returns true for every input, and the arguments read as before. The walks go by the functions' contracts; the rows' steps lie behind them. -/
import Derived.Test.YtlipmbcjpmbjnaaCnf
import Derived.Test.YtlipmbcjpmbjnaaTopC
import Derived.Test.YtlipmbcjpmbjnaaUnitS
import Derived.ProofKit
import Derived.OpenShut
import Derived.ShutString
import Derived.ChangeOld
import Derived.Below
import Derived.Deep.RegionHeld3
namespace Go.Proofs.Ytlipmbcjpmbjnaa
open Go.ChangeShapes Go.WideShapes Go.ChangeAt Go.RowKit
open Go.ChangeMaps (open_string shut_string)
set_option linter.unusedVariables false

set_option maxRecDepth 100000 in
set_option maxHeartbeats 1600000 in
theorem fnExactUnitLiterals_walk (W : World) (v0 : Value) (a0 : CnfL) (in0 : InCnf W v0 a0) (v1 : Value) (a1 : List Int) (in1 : InInts W v1 a1) :
    Calls Try.prog 7 #[v0, v1] W fun e w' => e = .returned (.bool true) ∧ Below W.heap.size W w' := by
  obtain ⟨hA0, wf0⟩ := in0
  obtain ⟨hA1, wf1⟩ := in1
  obtain ⟨A1, c1, rfl, hc1, hm1, hrow1⟩ := id hA1
  unfold maxLen at hm1
  clear hrow1
  obtain ⟨A0, n0, c0, rfl, -⟩ := hA0.open2
  obtain ⟨wb, hwb⟩ : ∃ wb, wb = (W.alloc (.cells #[.int .i64 a0.1, .slice A0 n0 c0] 24)) := ⟨_, rfl⟩
  have bt : Below W.heap.size W wb := by rw [hwb]; exact (Below.refl _ _).alloc (by simp) _
  have szb : W.heap.size + 1 = wb.heap.size := by rw [hwb]; simp
  have x00 : wb.cell? ⟨W.heap.size, 0, none⟩ = some (.int .i64 a0.1) := by rw [hwb]; simp
  have x01 : wb.cell? ⟨W.heap.size, 1, none⟩ = some (.slice A0 n0 c0) := by rw [hwb]; simp
  replace hA0 := hA0.below bt
  replace hA1 := hA1.below bt
  have HWB := hide hwb
  clear hwb
  by_cases hn1 : a1.length ≤ 1048576
  case neg =>
    go_enter Try.func7, Try.ntmps7
    go_wp2_with fail
    go_ret
    exact ⟨rfl, by rw [← HWB.out]; exact bt⟩
  by_cases hn0 : szC a0 ≤ 1048576
  case neg =>
    go_enter Try.func7, Try.ntmps7
    go_wp2_with fail
    rw [← HWB.out]
    refine (szCnf_any _ _ ((1048576 : Int)) _ hA0 (by omega) (by omega)).mono ?_
    rintro e w1 ⟨rfl, b1⟩
    replace hA0 := hA0.below b1
    replace hA1 := hA1.below b1
    replace x00 := below_old b1 _ _ x00
    replace x01 := below_old b1 _ _ x01
    have sz1 := b1.size
    replace bt := bt.trans (b1.mono bt.size)
    clear b1
    rw [show leftB ((1048576 : Int)) (szC a0) = -1 from by unfold leftB; rw [if_neg (by omega)]]
    go_wp2_with fail
    go_ret
    exact ⟨rfl, bt⟩
  have hcc0 := cntC_le a0
  obtain ⟨r0, r1, hR⟩ : ∃ r0 r1, fUnitLiterals a0 a1 = (r0, r1) := ⟨_, _, rfl⟩
  have hl0 := fUnitLiterals_len (by omega) hn1 hR
  have HR := hide hR
  clear hR
  go_enter Try.func7, Try.ntmps7
  go_wp2_with fail
  rw [← HWB.out]
  refine (szCnf_any _ _ ((1048576 : Int)) _ hA0 (by omega) (by omega)).mono ?_
  rintro e w1 ⟨rfl, b1⟩
  replace hA0 := hA0.below b1
  replace hA1 := hA1.below b1
  replace x00 := below_old b1 _ _ x00
  replace x01 := below_old b1 _ _ x01
  have sz1 := b1.size
  replace bt := bt.trans (b1.mono bt.size)
  clear b1
  rw [show leftB ((1048576 : Int)) (szC a0) = (1048576 : Int) - (szC a0 : Int) from by unfold leftB; rw [if_pos (by omega)]]
  go_wp2_with fail
  refine (toCnf_any _ _ _ hA0 (by omega)).mono ?_
  rintro e w2 ⟨us0, rfl, hs0, b2⟩
  replace hA0 := hA0.below b2
  replace hA1 := hA1.below b2
  replace x00 := below_old b2 _ _ x00
  replace x01 := below_old b2 _ _ x01
  have sz2 := b2.size
  replace bt := bt.trans (b2.mono bt.size)
  clear b2
  go_wp2_with fail
  refine (toIntS_any _ _ _ hA1 (by omega)).mono ?_
  rintro e w3 ⟨us1, rfl, hs1, b3⟩
  replace hA0 := hA0.below b3
  replace hA1 := hA1.below b3
  replace hs0 := hs0.below b3
  replace x00 := below_old b3 _ _ x00
  replace x01 := below_old b3 _ _ x01
  have sz3 := b3.size
  replace bt := bt.trans (b3.mono bt.size)
  clear b3
  go_wp2_with fail
  refine (S_UnitLiterals _ _ _ _ _ _ _ hs0.read hs1.ints (by omega) hn1 HR.out).mono ?_
  rintro e w4 ⟨uw0, rfl, hw0, b4⟩
  replace hA0 := hA0.below b4
  replace hA1 := hA1.below b4
  replace hs0 := hs0.below b4
  replace hs1 := hs1.below b4
  replace x00 := below_old b4 _ _ x00
  replace x01 := below_old b4 _ _ x01
  have sz4 := b4.size
  replace bt := bt.trans (b4.mono bt.size)
  clear b4
  clear hs0
  clear hs1
  go_wp2_with fail
  refine (toCnf_any _ _ _ hA0 (by omega)).mono ?_
  rintro e w5 ⟨ux0, rfl, hx0, b5⟩
  replace hA0 := hA0.below b5
  replace hA1 := hA1.below b5
  replace hw0 := hw0.below b5
  replace x00 := below_old b5 _ _ x00
  replace x01 := below_old b5 _ _ x01
  have sz5 := b5.size
  replace bt := bt.trans (b5.mono bt.size)
  clear b5
  obtain ⟨B0, N0, D0, rfl, -⟩ := hx0.open2
  have hlit : Below w5.heap.size w5 (w5.alloc (.cells #[.int .i64 a0.1, .slice B0 N0 D0] 29)) := (Below.refl _ _).alloc (Nat.le_refl _) _
  have Lx00 := below_old hlit _ _ x00
  have Ex00 : ¬(W.heap.size = w5.heap.size) := by omega
  have Lx01 := below_old hlit _ _ x01
  obtain ⟨w6, hw6⟩ : ∃ w', w' = w5.alloc (.cells #[.int .i64 a0.1, .slice B0 N0 D0] 29) := ⟨_, rfl⟩
  have b6 : Below w5.heap.size w5 w6 := by rw [hw6]; exact (Below.refl _ _).alloc (Nat.le_refl _) _
  have szx0 : w5.heap.size + 1 = w6.heap.size := by rw [hw6]; simp
  replace hA0 := hA0.below b6
  replace hA1 := hA1.below b6
  replace hw0 := hw0.below b6
  replace hx0 := hx0.below b6
  replace x00 := below_old b6 _ _ x00
  replace x01 := below_old b6 _ _ x01
  have sz6 := b6.size
  replace bt := bt.trans (b6.mono bt.size)
  clear b6
  have z00 : w6.cell? ⟨w5.heap.size, 0, none⟩ = some (.int .i64 a0.1) := by rw [hw6]; simp
  have z01 : w6.cell? ⟨w5.heap.size, 1, none⟩ = some (.slice B0 N0 D0) := by rw [hw6]; simp
  have HW6 := hide hw6
  clear hw6
  go_wp2_with fail
  rw [← HW6.out]
  clear hlit Lx00 Ex00 Lx01
  refine (toIntS_any _ _ _ hA1 (by omega)).mono ?_
  rintro e w7 ⟨ux1, rfl, hx1, b7⟩
  replace hA0 := hA0.below b7
  replace hA1 := hA1.below b7
  replace hw0 := hw0.below b7
  replace hx0 := hx0.below b7
  replace x00 := below_old b7 _ _ x00
  replace x01 := below_old b7 _ _ x01
  replace z00 := below_old b7 _ _ z00
  replace z01 := below_old b7 _ _ z01
  have sz7 := b7.size
  replace bt := bt.trans (b7.mono bt.size)
  clear b7
  go_wp2_with fail
  refine (I_UnitLiterals _ _ _ _ _ _ _ hx0.read hx1.ints (by omega) hn1 HR.out).mono ?_
  rintro e w8 ⟨ug0, rfl, hg0, b8⟩
  replace hA0 := hA0.below b8
  replace hA1 := hA1.below b8
  replace hw0 := hw0.below b8
  replace hx0 := hx0.below b8
  replace hx1 := hx1.below b8
  replace x00 := below_old b8 _ _ x00
  replace x01 := below_old b8 _ _ x01
  replace z00 := below_old b8 _ _ z00
  replace z01 := below_old b8 _ _ z01
  have sz8 := b8.size
  replace bt := bt.trans (b8.mono bt.size)
  clear b8
  go_wp2_with fail
  refine (eqIntS_yes _ _ _ _ hg0.ints hw0.ints (by omega)).mono ?_
  rintro e w9 ⟨rfl, q9⟩
  have b9 := q9.below w8.heap.size
  clear q9
  replace hA0 := hA0.below b9
  replace hA1 := hA1.below b9
  replace hw0 := hw0.below b9
  replace hx0 := hx0.below b9
  replace hx1 := hx1.below b9
  replace hg0 := hg0.below b9
  replace x00 := below_old b9 _ _ x00
  replace x01 := below_old b9 _ _ x01
  replace z00 := below_old b9 _ _ z00
  replace z01 := below_old b9 _ _ z01
  have sz9 := b9.size
  replace bt := bt.trans (b9.mono bt.size)
  clear b9
  go_wp2_with fail
  go_region_held3 (fun w' => w'.cell? ⟨W.heap.size, 0, none⟩ = some (.int .i64 a0.1) ∧ w'.cell? ⟨W.heap.size, 1, none⟩ = some (.slice A0 n0 c0) ∧ w'.cell? ⟨w5.heap.size, 0, none⟩ = some (.int .i64 a0.1) ∧ w'.cell? ⟨w5.heap.size, 1, none⟩ = some (.slice B0 N0 D0)) (exact ⟨x00, x01, z00, z01⟩)
    ((first | (go_at_call 11; replace hA0 := hA0.below (below_drew w9); replace hA1 := hA1.below (below_drew w9); replace hw0 := hw0.below (below_drew w9); replace hx0 := hx0.below (below_drew w9); replace hx1 := hx1.below (below_drew w9); replace hg0 := hg0.below (below_drew w9); replace x00 := below_old (below_drew w9) _ _ x00; replace x01 := below_old (below_drew w9) _ _ x01; replace z00 := below_old (below_drew w9) _ _ z00; replace z01 := below_old (below_drew w9) _ _ z01; replace bt := bt.trans ((below_drew w9).mono bt.size); have szd9 : w9.heap.size ≤ w9.drew.heap.size := Nat.le_refl _; refine (toCnf_any _ _ _ hA0 (by omega)).mono ?_; rintro e w10 ⟨uy0, rfl, hy0, b10⟩; replace hA0 := hA0.below b10; replace hA1 := hA1.below b10; replace hw0 := hw0.below b10; replace hx0 := hx0.below b10; replace hx1 := hx1.below b10; replace hg0 := hg0.below b10; replace x00 := below_old b10 _ _ x00; replace x01 := below_old b10 _ _ x01; replace z00 := below_old b10 _ _ z00; replace z01 := below_old b10 _ _ z01; have sz10 := b10.size; replace bt := bt.trans (b10.mono bt.size); clear b10) | (go_at_call 14; refine (eqCnf_yes _ _ _ _ hx0.read hy0.read (by omega)).mono ?_; rintro e w11 ⟨rfl, b11⟩; replace hA0 := hA0.below b11; replace hA1 := hA1.below b11; replace hw0 := hw0.below b11; replace hx0 := hx0.below b11; replace hx1 := hx1.below b11; replace hg0 := hg0.below b11; replace hy0 := hy0.below b11; replace x00 := below_old b11 _ _ x00; replace x01 := below_old b11 _ _ x01; replace z00 := below_old b11 _ _ z00; replace z01 := below_old b11 _ _ z01; have sz11 := b11.size; replace bt := bt.trans (b11.mono bt.size); clear b11)))
  clear hy0
  go_wp2_with fail
  refine (toIntS_any _ _ _ hA1 (by omega)).mono ?_
  rintro e w12 ⟨uy1, rfl, hy1, b12⟩
  replace hA0 := hA0.below b12
  replace hA1 := hA1.below b12
  replace hw0 := hw0.below b12
  replace hx0 := hx0.below b12
  replace hx1 := hx1.below b12
  replace hg0 := hg0.below b12
  replace x00 := below_old b12 _ _ x00
  replace x01 := below_old b12 _ _ x01
  replace z00 := below_old b12 _ _ z00
  replace z01 := below_old b12 _ _ z01
  have sz12 := b12.size
  replace bt := bt.trans (b12.mono bt.size)
  clear b12
  go_wp2_with fail
  refine (eqIntS_yes _ _ _ _ hx1.ints hy1.ints (by omega)).mono ?_
  rintro e w13 ⟨rfl, q13⟩
  have b13 := q13.below w12.heap.size
  clear q13
  replace hA0 := hA0.below b13
  replace hA1 := hA1.below b13
  replace hw0 := hw0.below b13
  replace hx0 := hx0.below b13
  replace hx1 := hx1.below b13
  replace hg0 := hg0.below b13
  replace hy1 := hy1.below b13
  replace x00 := below_old b13 _ _ x00
  replace x01 := below_old b13 _ _ x01
  replace z00 := below_old b13 _ _ z00
  replace z01 := below_old b13 _ _ z01
  have sz13 := b13.size
  replace bt := bt.trans (b13.mono bt.size)
  clear b13
  clear hy1
  go_wp2_with fail
  refine (markCnf_any _ _ _ _ hx0 (by omega) (by omega) (by omega)).mono ?_
  rintro e w14 ⟨rfl, m14, c14, -⟩
  clear hx0
  replace hA0 := hA0.chg c14 (by omega)
  replace hA1 := hA1.chg c14 (by omega)
  replace hw0 := hw0.chg c14 (by omega)
  replace hx1 := hx1.chg c14 (by omega)
  replace hg0 := hg0.chg c14 (by omega)
  replace x00 := chg_old c14 x00 (by first | (simp; omega) | simp)
  replace x01 := chg_old c14 x01 (by first | (simp; omega) | simp)
  replace z00 := chg_old c14 z00 (by first | (simp; omega) | simp)
  replace z01 := chg_old c14 z01 (by first | (simp; omega) | simp)
  have sz14 := c14.size
  replace bt := below_chg bt c14 (by omega) (Nat.le_refl _)
  clear c14
  clear m14
  go_wp2_with fail
  refine (markIntS_any _ _ _ _ hx1 (by omega) (by omega) (by omega)).mono ?_
  rintro e w15 ⟨rfl, m15, c15, -⟩
  clear hx1
  replace hA0 := hA0.chg c15 (by omega)
  replace hA1 := hA1.chg c15 (by omega)
  replace hw0 := hw0.chg c15 (by omega)
  replace hg0 := hg0.chg c15 (by omega)
  replace x00 := chg_old c15 x00 (by first | (simp; omega) | simp)
  replace x01 := chg_old c15 x01 (by first | (simp; omega) | simp)
  replace z00 := chg_old c15 z00 (by first | (simp; omega) | simp)
  replace z01 := chg_old c15 z01 (by first | (simp; omega) | simp)
  have sz15 := c15.size
  replace bt := below_chg bt c15 (by omega) (Nat.le_refl _)
  clear c15
  clear m15
  go_wp2_with fail
  refine (eqIntS_yes _ _ _ _ hg0.ints hw0.ints (by omega)).mono ?_
  rintro e w16 ⟨rfl, q16⟩
  have b16 := q16.below w15.heap.size
  clear q16
  replace hA0 := hA0.below b16
  replace hA1 := hA1.below b16
  replace hw0 := hw0.below b16
  replace hg0 := hg0.below b16
  replace x00 := below_old b16 _ _ x00
  replace x01 := below_old b16 _ _ x01
  replace z00 := below_old b16 _ _ z00
  replace z01 := below_old b16 _ _ z01
  have sz16 := b16.size
  replace bt := bt.trans (b16.mono bt.size)
  clear b16
  go_wp2_with fail
  refine (markIntS_any _ _ _ _ hg0 (by omega) (by omega) (by omega)).mono ?_
  rintro e w17 ⟨rfl, m17, c17, -⟩
  clear hg0
  replace hA0 := hA0.chg c17 (by omega)
  replace hA1 := hA1.chg c17 (by omega)
  replace hw0 := hw0.chg c17 (by omega)
  replace x00 := chg_old c17 x00 (by first | (simp; omega) | simp)
  replace x01 := chg_old c17 x01 (by first | (simp; omega) | simp)
  replace z00 := chg_old c17 z00 (by first | (simp; omega) | simp)
  replace z01 := chg_old c17 z01 (by first | (simp; omega) | simp)
  have sz17 := c17.size
  replace bt := below_chg bt c17 (by omega) (Nat.le_refl _)
  clear c17
  go_wp2_with fail
  refine (heldIntS_yes _ _ _ _ m17.ints (by omega) (by omega) (by omega)).mono ?_
  rintro e w18 ⟨rfl, q18⟩
  have b18 := q18.below w17.heap.size
  clear q18
  replace hA0 := hA0.below b18
  replace hA1 := hA1.below b18
  replace hw0 := hw0.below b18
  replace m17 := m17.below b18
  replace x00 := below_old b18 _ _ x00
  replace x01 := below_old b18 _ _ x01
  replace z00 := below_old b18 _ _ z00
  replace z01 := below_old b18 _ _ z01
  have sz18 := b18.size
  replace bt := bt.trans (b18.mono bt.size)
  clear b18
  go_wp2_with fail
  refine (toCnf_any _ _ _ hA0 (by omega)).mono ?_
  rintro e w19 ⟨uz0, rfl, hz0, b19⟩
  replace hA0 := hA0.below b19
  replace hA1 := hA1.below b19
  replace hw0 := hw0.below b19
  replace m17 := m17.below b19
  replace x00 := below_old b19 _ _ x00
  replace x01 := below_old b19 _ _ x01
  replace z00 := below_old b19 _ _ z00
  replace z01 := below_old b19 _ _ z01
  have sz19 := b19.size
  replace bt := bt.trans (b19.mono bt.size)
  clear b19
  go_wp2_with fail
  refine (toIntS_any _ _ _ hA1 (by omega)).mono ?_
  rintro e w20 ⟨uz1, rfl, hz1, b20⟩
  replace hA0 := hA0.below b20
  replace hA1 := hA1.below b20
  replace hw0 := hw0.below b20
  replace m17 := m17.below b20
  replace hz0 := hz0.below b20
  replace x00 := below_old b20 _ _ x00
  replace x01 := below_old b20 _ _ x01
  replace z00 := below_old b20 _ _ z00
  replace z01 := below_old b20 _ _ z01
  have sz20 := b20.size
  replace bt := bt.trans (b20.mono bt.size)
  clear b20
  go_wp2_with fail
  refine (I_UnitLiterals _ _ _ _ _ _ _ hz0.read hz1.ints (by omega) hn1 HR.out).mono ?_
  rintro e w21 ⟨uh0, rfl, hh0, b21⟩
  replace hA0 := hA0.below b21
  replace hA1 := hA1.below b21
  replace hw0 := hw0.below b21
  replace m17 := m17.below b21
  replace hz0 := hz0.below b21
  replace hz1 := hz1.below b21
  replace x00 := below_old b21 _ _ x00
  replace x01 := below_old b21 _ _ x01
  replace z00 := below_old b21 _ _ z00
  replace z01 := below_old b21 _ _ z01
  have sz21 := b21.size
  replace bt := bt.trans (b21.mono bt.size)
  clear b21
  clear hz0
  clear hz1
  go_wp2_with fail
  refine (eqIntS_yes _ _ _ _ hh0.ints hw0.ints (by omega)).mono ?_
  rintro e w22 ⟨rfl, q22⟩
  have b22 := q22.below w21.heap.size
  clear q22
  replace hA0 := hA0.below b22
  replace hA1 := hA1.below b22
  replace hw0 := hw0.below b22
  replace m17 := m17.below b22
  replace hh0 := hh0.below b22
  replace x00 := below_old b22 _ _ x00
  replace x01 := below_old b22 _ _ x01
  replace z00 := below_old b22 _ _ z00
  replace z01 := below_old b22 _ _ z01
  have sz22 := b22.size
  replace bt := bt.trans (b22.mono bt.size)
  clear b22
  go_wp2_with fail
  refine (heldIntS_yes _ _ _ _ m17.ints (by omega) (by omega) (by omega)).mono ?_
  rintro e w23 ⟨rfl, q23⟩
  have b23 := q23.below w22.heap.size
  clear q23
  replace hA0 := hA0.below b23
  replace hA1 := hA1.below b23
  replace hw0 := hw0.below b23
  replace m17 := m17.below b23
  replace hh0 := hh0.below b23
  replace x00 := below_old b23 _ _ x00
  replace x01 := below_old b23 _ _ x01
  replace z00 := below_old b23 _ _ z00
  replace z01 := below_old b23 _ _ z01
  have sz23 := b23.size
  replace bt := bt.trans (b23.mono bt.size)
  clear b23
  go_wp2_with fail
  go_ret
  exact ⟨rfl, bt⟩

set_option maxRecDepth 100000 in
theorem fnExactUnitLiterals_lifted (os : Os) (started : os.Started) (H : Type) (enc : TypeId × Value → H) :
    ReturnsInHanded {} Try.checked os 7 .any (Rows.fnExactUnitLiteralsSpec.pre6 enc Try.prog Try.f7 Rows.fnExactUnitLiteralsRow.domain false) (Rows.fnExactUnitLiteralsSpec.post enc Try.prog Try.f7 false true false false) := by
  refine returnsInHanded_of_change (C := Try.checked) own started (by kernel_rfl) Try.func7
    (ChangeSpec.witness6 (enc := enc) (C := Try.checked) false ⟨#[], #[.agg #[.int .i64 0, .slice none 0 0], .slice none 0 0], []⟩ 8 (by kernel_rfl) (by kernel_rfl) (by kernel_rfl) (by kernel_rfl)) ?_
  intro W base args ds gs before hval0 hW hcnd _
  have hval : ∀ (j : Nat) t v, Try.f7.params[j]? = some t → args[j]? = some v → Value.okWide Try.prog W .any base t v := hval0
  have hW' := hW
  obtain ⟨p, q, hA0, hV, rfl, hfz, hnd⟩ := hW
  have hA : DataW.TrodAll enc Try.prog W 0 (fun _ => true) true Try.f7.params.toList args.toList ds p := hA0
  rw [Try.params7] at hA hval
  obtain ⟨v0, vs0, d0, ds0, p0, q0, hargs, rfl, rfl, h0, r0⟩ := trodAll_cons hA
  obtain ⟨v1, vs1, d1, ds1, p1, q1, rfl, rfl, rfl, h1, r1⟩ := trodAll_cons r0
  obtain ⟨rfl, rfl, rfl⟩ := trodAll_nil r1
  obtain rfl : args = #[v0, v1] := by cases args; simp_all
  obtain ⟨rfl, rfl⟩ := trodVars_none hV
  have k0 := h0
  have lt0 : ∀ x ∈ p0, x.block < W.heap.size := by obtain ⟨m, hm⟩ := k0; exact DataW.trod_lt m _ _ _ hm
  obtain ⟨a0, w0⟩ := in_cnf (hval 0 24 v0 rfl rfl) h0 lt0
  have k1 := h1
  have lt1 : ∀ x ∈ p1, x.block < W.heap.size := by obtain ⟨m, hm⟩ := k1; exact DataW.trod_lt m _ _ _ hm
  obtain ⟨a1, w1⟩ := in_ints (hval 1 26 v1 rfl rfl) h1 lt1
  clear hA0 hval0
  refine (fnExactUnitLiterals_walk W v0 a0 w0 v1 a1 w1).mono fun e W' ⟨he, bel⟩ => ?_
  subst he
  exact ⟨_, rfl, _, _, _, [], _, [], hW', trodAll_mk1 (shut_bool Try.underlying4 _), (trodAll_cons_mk (Below.trod laidOut (by kernel_rfl) (of_decide_eq_true (by kernel_rfl)) k0 bel lt0) (trodAll_cons_mk (Below.trod laidOut (by kernel_rfl) (of_decide_eq_true (by kernel_rfl)) k1 bel lt1) trodAll_mk0)), rfl, bel.frame _, fun h => by cases h⟩

theorem fnExactUnitLiterals_over : Rows.fnExactUnitLiteralsRow.holds Try.pinned (OpenSpec.ofChange Rows.fnExactUnitLiteralsSpec) :=
  OpenClaim.holds_of_wide 7 Try.f7 rfl rfl rfl rfl rfl rfl rfl ⟨rfl, rfl, rfl, rfl, rfl⟩ rfl rfl rfl rfl rfl (by kernel_rfl) Try.func7 (by kernel_rfl)
    (of_decide_eq_true (by kernel_rfl)) (by unfold Func.isWrapper; first | (rw [if_pos (by decide +kernel)]; kernel_rfl) | (rw [if_neg (by decide +kernel)]; exact ⟨rfl, rfl⟩))
    (fun os started H enc _ => fnExactUnitLiterals_lifted os started H enc)

theorem fnExactUnitLiterals_proved : Rows.FnExactUnitLiteralsSaid := fnExactUnitLiterals_over

end Go.Proofs.Ytlipmbcjpmbjnaa
