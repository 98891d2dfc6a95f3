/- The laws IndependentParts: each returns true for every input, and the arguments read as before. The walks go by the functions' contracts; the rows' steps lie behind them. -/
import Derived.Test.YtlipmbcjpmbjnaaCnf
import Derived.Test.YtlipmbcjpmbjnaaTopC
import Derived.Test.YtlipmbcjpmbjnaaGrpP
import Derived.Test.YtlipmbcjpmbjnaaGrpR
import Derived.ProofKit
import Derived.OpenShut
import Derived.ShutString
import Derived.ChangeOld
import Derived.Below
import Derived.Deep.RegionHeld3
namespace Go.Proofs.Ytlipmbcjpmbjnaa
open Go.ChangeShapes Go.WideShapes Go.ChangeAt Go.RowKit
open Go.ChangeMaps (open_string shut_string)
set_option linter.unusedVariables false

set_option maxRecDepth 100000 in
set_option maxHeartbeats 1600000 in
theorem fnExactIndependentParts_walk (W : World) (v0 : Value) (a0 : CnfL) (in0 : InCnf W v0 a0) :
    Calls Try.prog 5 #[v0] W fun e w' => e = .returned (.bool true) ∧ Below W.heap.size W w' := by
  obtain ⟨hA0, wf0⟩ := in0
  obtain ⟨A0, n0, c0, rfl, -⟩ := hA0.open2
  obtain ⟨wb, hwb⟩ : ∃ wb, wb = (W.alloc (.cells #[.int .i64 a0.1, .slice A0 n0 c0] 24)) := ⟨_, rfl⟩
  have bt : Below W.heap.size W wb := by rw [hwb]; exact (Below.refl _ _).alloc (by simp) _
  have szb : W.heap.size + 1 = wb.heap.size := by rw [hwb]; simp
  have x00 : wb.cell? ⟨W.heap.size, 0, none⟩ = some (.int .i64 a0.1) := by rw [hwb]; simp
  have x01 : wb.cell? ⟨W.heap.size, 1, none⟩ = some (.slice A0 n0 c0) := by rw [hwb]; simp
  replace hA0 := hA0.below bt
  have HWB := hide hwb
  clear hwb
  by_cases hn0 : szC a0 ≤ 1048576
  case neg =>
    go_enter Try.func5, Try.ntmps5
    go_wp2_with fail
    rw [← HWB.out]
    refine (szCnf_any _ _ ((1048576 : Int)) _ hA0 (by omega) (by omega)).mono ?_
    rintro e w1 ⟨rfl, b1⟩
    replace hA0 := hA0.below b1
    replace x00 := below_old b1 _ _ x00
    replace x01 := below_old b1 _ _ x01
    have sz1 := b1.size
    replace bt := bt.trans (b1.mono bt.size)
    clear b1
    rw [show leftB ((1048576 : Int)) (szC a0) = -1 from by unfold leftB; rw [if_neg (by omega)]]
    go_wp2_with fail
    go_ret
    exact ⟨rfl, bt⟩
  have hcc0 := cntC_le a0
  obtain ⟨r0, r1, hR⟩ : ∃ r0 r1, fIndependentParts a0 = (r0, r1) := ⟨_, _, rfl⟩
  have hl0 := fIndependentParts_len (by omega) hR
  have HR := hide hR
  clear hR
  go_enter Try.func5, Try.ntmps5
  go_wp2_with fail
  rw [← HWB.out]
  refine (szCnf_any _ _ ((1048576 : Int)) _ hA0 (by omega) (by omega)).mono ?_
  rintro e w1 ⟨rfl, b1⟩
  replace hA0 := hA0.below b1
  replace x00 := below_old b1 _ _ x00
  replace x01 := below_old b1 _ _ x01
  have sz1 := b1.size
  replace bt := bt.trans (b1.mono bt.size)
  clear b1
  rw [show leftB ((1048576 : Int)) (szC a0) = (1048576 : Int) - (szC a0 : Int) from by unfold leftB; rw [if_pos (by omega)]]
  go_wp2_with fail
  refine (toCnf_any _ _ _ hA0 (by omega)).mono ?_
  rintro e w2 ⟨us0, rfl, hs0, b2⟩
  replace hA0 := hA0.below b2
  replace x00 := below_old b2 _ _ x00
  replace x01 := below_old b2 _ _ x01
  have sz2 := b2.size
  replace bt := bt.trans (b2.mono bt.size)
  clear b2
  go_wp2_with fail
  refine (S_IndependentParts _ _ _ _ _ hs0.read (by omega) HR.out).mono ?_
  rintro e w3 ⟨uw0, rfl, hw0, b3⟩
  replace hA0 := hA0.below b3
  replace hs0 := hs0.below b3
  replace x00 := below_old b3 _ _ x00
  replace x01 := below_old b3 _ _ x01
  have sz3 := b3.size
  replace bt := bt.trans (b3.mono bt.size)
  clear b3
  clear hs0
  go_wp2_with fail
  refine (toCnf_any _ _ _ hA0 (by omega)).mono ?_
  rintro e w4 ⟨ux0, rfl, hx0, b4⟩
  replace hA0 := hA0.below b4
  replace hw0 := hw0.below b4
  replace x00 := below_old b4 _ _ x00
  replace x01 := below_old b4 _ _ x01
  have sz4 := b4.size
  replace bt := bt.trans (b4.mono bt.size)
  clear b4
  obtain ⟨B0, N0, D0, rfl, -⟩ := hx0.open2
  have hlit : Below w4.heap.size w4 (w4.alloc (.cells #[.int .i64 a0.1, .slice B0 N0 D0] 29)) := (Below.refl _ _).alloc (Nat.le_refl _) _
  have Lx00 := below_old hlit _ _ x00
  have Ex00 : ¬(W.heap.size = w4.heap.size) := by omega
  have Lx01 := below_old hlit _ _ x01
  obtain ⟨w5, hw5⟩ : ∃ w', w' = w4.alloc (.cells #[.int .i64 a0.1, .slice B0 N0 D0] 29) := ⟨_, rfl⟩
  have b5 : Below w4.heap.size w4 w5 := by rw [hw5]; exact (Below.refl _ _).alloc (Nat.le_refl _) _
  have szx0 : w4.heap.size + 1 = w5.heap.size := by rw [hw5]; simp
  replace hA0 := hA0.below b5
  replace hw0 := hw0.below b5
  replace hx0 := hx0.below b5
  replace x00 := below_old b5 _ _ x00
  replace x01 := below_old b5 _ _ x01
  have sz5 := b5.size
  replace bt := bt.trans (b5.mono bt.size)
  clear b5
  have z00 : w5.cell? ⟨w4.heap.size, 0, none⟩ = some (.int .i64 a0.1) := by rw [hw5]; simp
  have z01 : w5.cell? ⟨w4.heap.size, 1, none⟩ = some (.slice B0 N0 D0) := by rw [hw5]; simp
  have HW5 := hide hw5
  clear hw5
  go_wp2_with fail
  rw [← HW5.out]
  clear hlit Lx00 Ex00 Lx01
  refine (I_IndependentParts _ _ _ _ _ hx0.read (by omega) HR.out).mono ?_
  rintro e w6 ⟨ug0, rfl, hg0, b6⟩
  replace hA0 := hA0.below b6
  replace hw0 := hw0.below b6
  replace hx0 := hx0.below b6
  replace x00 := below_old b6 _ _ x00
  replace x01 := below_old b6 _ _ x01
  replace z00 := below_old b6 _ _ z00
  replace z01 := below_old b6 _ _ z01
  have sz6 := b6.size
  replace bt := bt.trans (b6.mono bt.size)
  clear b6
  go_wp2_with fail
  refine (eqIntSS_yes _ _ _ _ hg0.read hw0.read (by omega)).mono ?_
  rintro e w7 ⟨rfl, q7⟩
  have b7 := q7.below w6.heap.size
  clear q7
  replace hA0 := hA0.below b7
  replace hw0 := hw0.below b7
  replace hx0 := hx0.below b7
  replace hg0 := hg0.below b7
  replace x00 := below_old b7 _ _ x00
  replace x01 := below_old b7 _ _ x01
  replace z00 := below_old b7 _ _ z00
  replace z01 := below_old b7 _ _ z01
  have sz7 := b7.size
  replace bt := bt.trans (b7.mono bt.size)
  clear b7
  go_wp2_with fail
  go_region_held3 (fun w' => w'.cell? ⟨W.heap.size, 0, none⟩ = some (.int .i64 a0.1) ∧ w'.cell? ⟨W.heap.size, 1, none⟩ = some (.slice A0 n0 c0) ∧ w'.cell? ⟨w4.heap.size, 0, none⟩ = some (.int .i64 a0.1) ∧ w'.cell? ⟨w4.heap.size, 1, none⟩ = some (.slice B0 N0 D0)) (exact ⟨x00, x01, z00, z01⟩)
    ((first | (go_at_call 11; replace hA0 := hA0.below (below_drew w7); replace hw0 := hw0.below (below_drew w7); replace hx0 := hx0.below (below_drew w7); replace hg0 := hg0.below (below_drew w7); replace x00 := below_old (below_drew w7) _ _ x00; replace x01 := below_old (below_drew w7) _ _ x01; replace z00 := below_old (below_drew w7) _ _ z00; replace z01 := below_old (below_drew w7) _ _ z01; replace bt := bt.trans ((below_drew w7).mono bt.size); have szd7 : w7.heap.size ≤ w7.drew.heap.size := Nat.le_refl _; refine (toCnf_any _ _ _ hA0 (by omega)).mono ?_; rintro e w8 ⟨uy0, rfl, hy0, b8⟩; replace hA0 := hA0.below b8; replace hw0 := hw0.below b8; replace hx0 := hx0.below b8; replace hg0 := hg0.below b8; replace x00 := below_old b8 _ _ x00; replace x01 := below_old b8 _ _ x01; replace z00 := below_old b8 _ _ z00; replace z01 := below_old b8 _ _ z01; have sz8 := b8.size; replace bt := bt.trans (b8.mono bt.size); clear b8) | (go_at_call 14; refine (eqCnf_yes _ _ _ _ hx0.read hy0.read (by omega)).mono ?_; rintro e w9 ⟨rfl, b9⟩; replace hA0 := hA0.below b9; replace hw0 := hw0.below b9; replace hx0 := hx0.below b9; replace hg0 := hg0.below b9; replace hy0 := hy0.below b9; replace x00 := below_old b9 _ _ x00; replace x01 := below_old b9 _ _ x01; replace z00 := below_old b9 _ _ z00; replace z01 := below_old b9 _ _ z01; have sz9 := b9.size; replace bt := bt.trans (b9.mono bt.size); clear b9)))
  clear hy0
  go_wp2_with fail
  refine (markCnf_any _ _ _ _ hx0 (by omega) (by omega) (by omega)).mono ?_
  rintro e w10 ⟨rfl, m10, c10, -⟩
  clear hx0
  replace hA0 := hA0.chg c10 (by omega)
  replace hw0 := hw0.chg c10 (by omega)
  replace hg0 := hg0.chg c10 (by omega)
  replace x00 := chg_old c10 x00 (by first | (simp; omega) | simp)
  replace x01 := chg_old c10 x01 (by first | (simp; omega) | simp)
  replace z00 := chg_old c10 z00 (by first | (simp; omega) | simp)
  replace z01 := chg_old c10 z01 (by first | (simp; omega) | simp)
  have sz10 := c10.size
  replace bt := below_chg bt c10 (by omega) (Nat.le_refl _)
  clear c10
  clear m10
  go_wp2_with fail
  refine (eqIntSS_yes _ _ _ _ hg0.read hw0.read (by omega)).mono ?_
  rintro e w11 ⟨rfl, q11⟩
  have b11 := q11.below w10.heap.size
  clear q11
  replace hA0 := hA0.below b11
  replace hw0 := hw0.below b11
  replace hg0 := hg0.below b11
  replace x00 := below_old b11 _ _ x00
  replace x01 := below_old b11 _ _ x01
  replace z00 := below_old b11 _ _ z00
  replace z01 := below_old b11 _ _ z01
  have sz11 := b11.size
  replace bt := bt.trans (b11.mono bt.size)
  clear b11
  go_wp2_with fail
  refine (markIntSS_any _ _ _ _ hg0 (by omega) (by omega) (by omega)).mono ?_
  rintro e w12 ⟨rfl, m12, c12, -⟩
  clear hg0
  replace hA0 := hA0.chg c12 (by omega)
  replace hw0 := hw0.chg c12 (by omega)
  replace x00 := chg_old c12 x00 (by first | (simp; omega) | simp)
  replace x01 := chg_old c12 x01 (by first | (simp; omega) | simp)
  replace z00 := chg_old c12 z00 (by first | (simp; omega) | simp)
  replace z01 := chg_old c12 z01 (by first | (simp; omega) | simp)
  have sz12 := c12.size
  replace bt := below_chg bt c12 (by omega) (Nat.le_refl _)
  clear c12
  go_wp2_with fail
  refine (heldIntSS_yes _ _ _ _ m12.read (by omega) (by omega) (by omega)).mono ?_
  rintro e w13 ⟨rfl, q13⟩
  have b13 := q13.below w12.heap.size
  clear q13
  replace hA0 := hA0.below b13
  replace hw0 := hw0.below b13
  replace m12 := m12.below b13
  replace x00 := below_old b13 _ _ x00
  replace x01 := below_old b13 _ _ x01
  replace z00 := below_old b13 _ _ z00
  replace z01 := below_old b13 _ _ z01
  have sz13 := b13.size
  replace bt := bt.trans (b13.mono bt.size)
  clear b13
  go_wp2_with fail
  refine (toCnf_any _ _ _ hA0 (by omega)).mono ?_
  rintro e w14 ⟨uz0, rfl, hz0, b14⟩
  replace hA0 := hA0.below b14
  replace hw0 := hw0.below b14
  replace m12 := m12.below b14
  replace x00 := below_old b14 _ _ x00
  replace x01 := below_old b14 _ _ x01
  replace z00 := below_old b14 _ _ z00
  replace z01 := below_old b14 _ _ z01
  have sz14 := b14.size
  replace bt := bt.trans (b14.mono bt.size)
  clear b14
  go_wp2_with fail
  refine (I_IndependentParts _ _ _ _ _ hz0.read (by omega) HR.out).mono ?_
  rintro e w15 ⟨uh0, rfl, hh0, b15⟩
  replace hA0 := hA0.below b15
  replace hw0 := hw0.below b15
  replace m12 := m12.below b15
  replace hz0 := hz0.below b15
  replace x00 := below_old b15 _ _ x00
  replace x01 := below_old b15 _ _ x01
  replace z00 := below_old b15 _ _ z00
  replace z01 := below_old b15 _ _ z01
  have sz15 := b15.size
  replace bt := bt.trans (b15.mono bt.size)
  clear b15
  clear hz0
  go_wp2_with fail
  refine (eqIntSS_yes _ _ _ _ hh0.read hw0.read (by omega)).mono ?_
  rintro e w16 ⟨rfl, q16⟩
  have b16 := q16.below w15.heap.size
  clear q16
  replace hA0 := hA0.below b16
  replace hw0 := hw0.below b16
  replace m12 := m12.below b16
  replace hh0 := hh0.below b16
  replace x00 := below_old b16 _ _ x00
  replace x01 := below_old b16 _ _ x01
  replace z00 := below_old b16 _ _ z00
  replace z01 := below_old b16 _ _ z01
  have sz16 := b16.size
  replace bt := bt.trans (b16.mono bt.size)
  clear b16
  go_wp2_with fail
  refine (heldIntSS_yes _ _ _ _ m12.read (by omega) (by omega) (by omega)).mono ?_
  rintro e w17 ⟨rfl, q17⟩
  have b17 := q17.below w16.heap.size
  clear q17
  replace hA0 := hA0.below b17
  replace hw0 := hw0.below b17
  replace m12 := m12.below b17
  replace hh0 := hh0.below b17
  replace x00 := below_old b17 _ _ x00
  replace x01 := below_old b17 _ _ x01
  replace z00 := below_old b17 _ _ z00
  replace z01 := below_old b17 _ _ z01
  have sz17 := b17.size
  replace bt := bt.trans (b17.mono bt.size)
  clear b17
  go_wp2_with fail
  go_ret
  exact ⟨rfl, bt⟩

set_option maxRecDepth 100000 in
theorem fnExactIndependentParts_lifted (os : Os) (started : os.Started) (H : Type) (enc : TypeId × Value → H) :
    ReturnsInHanded {} Try.checked os 5 .any (Rows.fnExactIndependentPartsSpec.pre6 enc Try.prog Try.f5 Rows.fnExactIndependentPartsRow.domain false) (Rows.fnExactIndependentPartsSpec.post enc Try.prog Try.f5 false true false false) := by
  refine returnsInHanded_of_change (C := Try.checked) own started (by kernel_rfl) Try.func5
    (ChangeSpec.witness6 (enc := enc) (C := Try.checked) false ⟨#[], #[.agg #[.int .i64 0, .slice none 0 0]], []⟩ 8 (by kernel_rfl) (by kernel_rfl) (by kernel_rfl) (by kernel_rfl)) ?_
  intro W base args ds gs before hval0 hW hcnd _
  have hval : ∀ (j : Nat) t v, Try.f5.params[j]? = some t → args[j]? = some v → Value.okWide Try.prog W .any base t v := hval0
  have hW' := hW
  obtain ⟨p, q, hA0, hV, rfl, hfz, hnd⟩ := hW
  have hA : DataW.TrodAll enc Try.prog W 0 (fun _ => true) true Try.f5.params.toList args.toList ds p := hA0
  rw [Try.params5] at hA hval
  obtain ⟨v0, vs0, d0, ds0, p0, q0, hargs, rfl, rfl, h0, r0⟩ := trodAll_cons hA
  obtain ⟨rfl, rfl, rfl⟩ := trodAll_nil r0
  obtain rfl : args = #[v0] := by cases args; simp_all
  obtain ⟨rfl, rfl⟩ := trodVars_none hV
  have k0 := h0
  have lt0 : ∀ x ∈ p0, x.block < W.heap.size := by obtain ⟨m, hm⟩ := k0; exact DataW.trod_lt m _ _ _ hm
  obtain ⟨a0, w0⟩ := in_cnf (hval 0 24 v0 rfl rfl) h0 lt0
  clear hA0 hval0
  refine (fnExactIndependentParts_walk W v0 a0 w0).mono fun e W' ⟨he, bel⟩ => ?_
  subst he
  exact ⟨_, rfl, _, _, _, [], _, [], hW', trodAll_mk1 (shut_bool Try.underlying4 _), (trodAll_cons_mk (Below.trod laidOut (by kernel_rfl) (of_decide_eq_true (by kernel_rfl)) k0 bel lt0) trodAll_mk0), rfl, bel.frame _, fun h => by cases h⟩

theorem fnExactIndependentParts_over : Rows.fnExactIndependentPartsRow.holds Try.pinned (OpenSpec.ofChange Rows.fnExactIndependentPartsSpec) :=
  OpenClaim.holds_of_wide 5 Try.f5 rfl rfl rfl rfl rfl rfl rfl ⟨rfl, rfl, rfl, rfl, rfl⟩ rfl rfl rfl rfl rfl (by kernel_rfl) Try.func5 (by kernel_rfl)
    (of_decide_eq_true (by kernel_rfl)) (by unfold Func.isWrapper; first | (rw [if_pos (by decide +kernel)]; kernel_rfl) | (rw [if_neg (by decide +kernel)]; exact ⟨rfl, rfl⟩))
    (fun os started H enc _ => fnExactIndependentParts_lifted os started H enc)

theorem fnExactIndependentParts_proved : Rows.FnExactIndependentPartsSaid := fnExactIndependentParts_over

end Go.Proofs.Ytlipmbcjpmbjnaa
