/- The laws IsSatisfiable, FirstModel, WidthOfCnf: each returns true for every input, and the arguments read as before. The walks go by the functions' contracts; the rows' steps lie behind them. -/
import Derived.Test.YtnkdkdojmloohaaCnf
import Derived.Test.YtnkdkdojmloohaaTopC
import Derived.Test.YtnkdkdojmloohaaWid
import Derived.ProofKit
import Derived.OpenShut
import Derived.ShutString
import Derived.ChangeOld
import Derived.Below
import Derived.Deep.RegionHeld3
namespace Go.Proofs.Ytnkdkdojmloohaa
open Go.ChangeShapes Go.WideShapes Go.ChangeAt Go.RowKit
open Go.ChangeMaps (open_string shut_string)
set_option linter.unusedVariables false

set_option maxRecDepth 100000 in
set_option maxHeartbeats 1600000 in
theorem fnExactIsSatisfiable_walk (W : World) (v0 : Value) (a0 : CnfL) (in0 : InCnf W v0 a0) :
    Calls Try.prog 9 #[v0] W fun e w' => e = .returned (.bool true) ∧ Below W.heap.size W w' := by
  obtain ⟨hA0, wf0⟩ := in0
  obtain ⟨A0, n0, c0, rfl, -⟩ := hA0.open2
  obtain ⟨wb, hwb⟩ : ∃ wb, wb = (W.alloc (.cells #[.int .i64 a0.1, .slice A0 n0 c0] 24)) := ⟨_, rfl⟩
  have bt : Below W.heap.size W wb := by rw [hwb]; exact (Below.refl _ _).alloc (by simp) _
  have szb : W.heap.size + 1 = wb.heap.size := by rw [hwb]; simp
  have x00 : wb.cell? ⟨W.heap.size, 0, none⟩ = some (.int .i64 a0.1) := by rw [hwb]; simp
  have x01 : wb.cell? ⟨W.heap.size, 1, none⟩ = some (.slice A0 n0 c0) := by rw [hwb]; simp
  replace hA0 := hA0.below bt
  have HWB := hide hwb
  clear hwb
  by_cases hn0 : szC a0 ≤ 1048576
  case neg =>
    go_enter Try.func9, Try.ntmps9
    go_wp2_with fail
    rw [← HWB.out]
    refine (szCnf_any _ _ ((1048576 : Int)) _ hA0 (by omega) (by omega)).mono ?_
    rintro e w1 ⟨rfl, b1⟩
    replace hA0 := hA0.below b1
    replace x00 := below_old b1 _ _ x00
    replace x01 := below_old b1 _ _ x01
    have sz1 := b1.size
    replace bt := bt.trans (b1.mono bt.size)
    clear b1
    rw [show leftB ((1048576 : Int)) (szC a0) = -1 from by unfold leftB; rw [if_neg (by omega)]]
    go_wp2_with fail
    go_ret
    exact ⟨rfl, bt⟩
  have hcc0 := cntC_le a0
  obtain ⟨r0, r1, hR⟩ : ∃ r0 r1, fIsSatisfiable a0 = (r0, r1) := ⟨_, _, rfl⟩
  have HR := hide hR
  clear hR
  go_enter Try.func9, Try.ntmps9
  go_wp2_with fail
  rw [← HWB.out]
  refine (szCnf_any _ _ ((1048576 : Int)) _ hA0 (by omega) (by omega)).mono ?_
  rintro e w1 ⟨rfl, b1⟩
  replace hA0 := hA0.below b1
  replace x00 := below_old b1 _ _ x00
  replace x01 := below_old b1 _ _ x01
  have sz1 := b1.size
  replace bt := bt.trans (b1.mono bt.size)
  clear b1
  rw [show leftB ((1048576 : Int)) (szC a0) = (1048576 : Int) - (szC a0 : Int) from by unfold leftB; rw [if_pos (by omega)]]
  go_wp2_with fail
  refine (toCnf_any _ _ _ hA0 (by omega)).mono ?_
  rintro e w2 ⟨us0, rfl, hs0, b2⟩
  replace hA0 := hA0.below b2
  replace x00 := below_old b2 _ _ x00
  replace x01 := below_old b2 _ _ x01
  have sz2 := b2.size
  replace bt := bt.trans (b2.mono bt.size)
  clear b2
  go_wp2_with fail
  refine (S_IsSatisfiable _ _ _ _ _ hs0.read (by omega) HR.out).mono ?_
  rintro e w3 ⟨rfl, b3⟩
  replace hA0 := hA0.below b3
  replace hs0 := hs0.below b3
  replace x00 := below_old b3 _ _ x00
  replace x01 := below_old b3 _ _ x01
  have sz3 := b3.size
  replace bt := bt.trans (b3.mono bt.size)
  clear b3
  clear hs0
  go_wp2_with fail
  refine (toCnf_any _ _ _ hA0 (by omega)).mono ?_
  rintro e w4 ⟨ux0, rfl, hx0, b4⟩
  replace hA0 := hA0.below b4
  replace x00 := below_old b4 _ _ x00
  replace x01 := below_old b4 _ _ x01
  have sz4 := b4.size
  replace bt := bt.trans (b4.mono bt.size)
  clear b4
  obtain ⟨B0, N0, D0, rfl, -⟩ := hx0.open2
  obtain ⟨w5, hw5⟩ : ∃ w', w' = w4.alloc (.cells #[.int .i64 a0.1, .slice B0 N0 D0] 27) := ⟨_, rfl⟩
  have b5 : Below w4.heap.size w4 w5 := by rw [hw5]; exact (Below.refl _ _).alloc (Nat.le_refl _) _
  have szx0 : w4.heap.size + 1 = w5.heap.size := by rw [hw5]; simp
  replace hA0 := hA0.below b5
  replace hx0 := hx0.below b5
  replace x00 := below_old b5 _ _ x00
  replace x01 := below_old b5 _ _ x01
  have sz5 := b5.size
  replace bt := bt.trans (b5.mono bt.size)
  clear b5
  have z00 : w5.cell? ⟨w4.heap.size, 0, none⟩ = some (.int .i64 a0.1) := by rw [hw5]; simp
  have z01 : w5.cell? ⟨w4.heap.size, 1, none⟩ = some (.slice B0 N0 D0) := by rw [hw5]; simp
  have HW5 := hide hw5
  clear hw5
  go_wp2_with fail
  rw [← HW5.out]
  refine (I_IsSatisfiable _ _ _ _ _ hx0.read (by omega) HR.out).mono ?_
  rintro e w6 ⟨rfl, b6⟩
  replace hA0 := hA0.below b6
  replace hx0 := hx0.below b6
  replace x00 := below_old b6 _ _ x00
  replace x01 := below_old b6 _ _ x01
  replace z00 := below_old b6 _ _ z00
  replace z01 := below_old b6 _ _ z01
  have sz6 := b6.size
  replace bt := bt.trans (b6.mono bt.size)
  clear b6
  go_wp2_with fail
  go_region_held3 (fun w' => w'.cell? ⟨W.heap.size, 0, none⟩ = some (.int .i64 a0.1) ∧ w'.cell? ⟨W.heap.size, 1, none⟩ = some (.slice A0 n0 c0) ∧ w'.cell? ⟨w4.heap.size, 0, none⟩ = some (.int .i64 a0.1) ∧ w'.cell? ⟨w4.heap.size, 1, none⟩ = some (.slice B0 N0 D0)) (exact ⟨x00, x01, z00, z01⟩)
    ((first | (go_at_call 17; replace hA0 := hA0.below (below_drew w6); replace hx0 := hx0.below (below_drew w6); replace x00 := below_old (below_drew w6) _ _ x00; replace x01 := below_old (below_drew w6) _ _ x01; replace z00 := below_old (below_drew w6) _ _ z00; replace z01 := below_old (below_drew w6) _ _ z01; replace bt := bt.trans ((below_drew w6).mono bt.size); have szd6 : w6.heap.size ≤ w6.drew.heap.size := Nat.le_refl _; refine (toCnf_any _ _ _ hA0 (by omega)).mono ?_; rintro e w7 ⟨uy0, rfl, hy0, b7⟩; replace hA0 := hA0.below b7; replace hx0 := hx0.below b7; replace x00 := below_old b7 _ _ x00; replace x01 := below_old b7 _ _ x01; replace z00 := below_old b7 _ _ z00; replace z01 := below_old b7 _ _ z01; have sz7 := b7.size; replace bt := bt.trans (b7.mono bt.size); clear b7) | (go_at_call 19; refine (eqCnf_yes _ _ _ _ hx0.read hy0.read (by omega)).mono ?_; rintro e w8 ⟨rfl, b8⟩; replace hA0 := hA0.below b8; replace hx0 := hx0.below b8; replace hy0 := hy0.below b8; replace x00 := below_old b8 _ _ x00; replace x01 := below_old b8 _ _ x01; replace z00 := below_old b8 _ _ z00; replace z01 := below_old b8 _ _ z01; have sz8 := b8.size; replace bt := bt.trans (b8.mono bt.size); clear b8)))
  clear hy0
  go_wp2_with fail
  go_ret
  exact ⟨rfl, bt⟩

set_option maxRecDepth 100000 in
theorem fnExactIsSatisfiable_lifted (os : Os) (started : os.Started) (H : Type) (enc : TypeId × Value → H) :
    ReturnsInHanded {} Try.checked os 9 .any (Rows.fnExactIsSatisfiableSpec.pre6 enc Try.prog Try.f9 Rows.fnExactIsSatisfiableRow.domain false) (Rows.fnExactIsSatisfiableSpec.post enc Try.prog Try.f9 false true false false) := by
  refine returnsInHanded_of_change (C := Try.checked) own started (by kernel_rfl) Try.func9
    (ChangeSpec.witness6 (enc := enc) (C := Try.checked) false ⟨#[], #[.agg #[.int .i64 0, .slice none 0 0]], []⟩ 8 (by kernel_rfl) (by kernel_rfl) (by kernel_rfl) (by kernel_rfl)) ?_
  intro W base args ds gs before hval0 hW hcnd _
  have hval : ∀ (j : Nat) t v, Try.f9.params[j]? = some t → args[j]? = some v → Value.okWide Try.prog W .any base t v := hval0
  have hW' := hW
  obtain ⟨p, q, hA0, hV, rfl, hfz, hnd⟩ := hW
  have hA : DataW.TrodAll enc Try.prog W 0 (fun _ => true) true Try.f9.params.toList args.toList ds p := hA0
  rw [Try.params9] at hA hval
  obtain ⟨v0, vs0, d0, ds0, p0, q0, hargs, rfl, rfl, h0, r0⟩ := trodAll_cons hA
  obtain ⟨rfl, rfl, rfl⟩ := trodAll_nil r0
  obtain rfl : args = #[v0] := by cases args; simp_all
  obtain ⟨rfl, rfl⟩ := trodVars_none hV
  have k0 := h0
  have lt0 : ∀ x ∈ p0, x.block < W.heap.size := by obtain ⟨m, hm⟩ := k0; exact DataW.trod_lt m _ _ _ hm
  obtain ⟨a0, w0⟩ := in_cnf (hval 0 24 v0 rfl rfl) h0 lt0
  clear hA0 hval0
  refine (fnExactIsSatisfiable_walk W v0 a0 w0).mono fun e W' ⟨he, bel⟩ => ?_
  subst he
  exact ⟨_, rfl, _, _, _, [], _, [], hW', trodAll_mk1 (shut_bool Try.underlying4 _), (trodAll_cons_mk (Below.trod laidOut (by kernel_rfl) (of_decide_eq_true (by kernel_rfl)) k0 bel lt0) trodAll_mk0), rfl, bel.frame _, fun h => by cases h⟩

theorem fnExactIsSatisfiable_over : Rows.fnExactIsSatisfiableRow.holds Try.pinned (OpenSpec.ofChange Rows.fnExactIsSatisfiableSpec) :=
  OpenClaim.holds_of_wide 9 Try.f9 rfl rfl rfl rfl rfl rfl rfl ⟨rfl, rfl, rfl, rfl, rfl⟩ rfl rfl rfl rfl rfl (by kernel_rfl) Try.func9 (by kernel_rfl)
    (of_decide_eq_true (by kernel_rfl)) (by unfold Func.isWrapper; first | (rw [if_pos (by decide +kernel)]; kernel_rfl) | (rw [if_neg (by decide +kernel)]; exact ⟨rfl, rfl⟩))
    (fun os started H enc _ => fnExactIsSatisfiable_lifted os started H enc)

theorem fnExactIsSatisfiable_proved : Rows.FnExactIsSatisfiableSaid := fnExactIsSatisfiable_over

set_option maxRecDepth 100000 in
set_option maxHeartbeats 1600000 in
theorem fnExactFirstModel_walk (W : World) (v0 : Value) (a0 : CnfL) (in0 : InCnf W v0 a0) :
    Calls Try.prog 10 #[v0] W fun e w' => e = .returned (.bool true) ∧ Below W.heap.size W w' := by
  obtain ⟨hA0, wf0⟩ := in0
  obtain ⟨A0, n0, c0, rfl, -⟩ := hA0.open2
  obtain ⟨wb, hwb⟩ : ∃ wb, wb = (W.alloc (.cells #[.int .i64 a0.1, .slice A0 n0 c0] 24)) := ⟨_, rfl⟩
  have bt : Below W.heap.size W wb := by rw [hwb]; exact (Below.refl _ _).alloc (by simp) _
  have szb : W.heap.size + 1 = wb.heap.size := by rw [hwb]; simp
  have x00 : wb.cell? ⟨W.heap.size, 0, none⟩ = some (.int .i64 a0.1) := by rw [hwb]; simp
  have x01 : wb.cell? ⟨W.heap.size, 1, none⟩ = some (.slice A0 n0 c0) := by rw [hwb]; simp
  replace hA0 := hA0.below bt
  have HWB := hide hwb
  clear hwb
  by_cases hn0 : szC a0 ≤ 1048576
  case neg =>
    go_enter Try.func10, Try.ntmps10
    go_wp2_with fail
    rw [← HWB.out]
    refine (szCnf_any _ _ ((1048576 : Int)) _ hA0 (by omega) (by omega)).mono ?_
    rintro e w1 ⟨rfl, b1⟩
    replace hA0 := hA0.below b1
    replace x00 := below_old b1 _ _ x00
    replace x01 := below_old b1 _ _ x01
    have sz1 := b1.size
    replace bt := bt.trans (b1.mono bt.size)
    clear b1
    rw [show leftB ((1048576 : Int)) (szC a0) = -1 from by unfold leftB; rw [if_neg (by omega)]]
    go_wp2_with fail
    go_ret
    exact ⟨rfl, bt⟩
  have hcc0 := cntC_le a0
  obtain ⟨r0, r1, hR⟩ : ∃ r0 r1, fFirstModel a0 = (r0, r1) := ⟨_, _, rfl⟩
  have HR := hide hR
  clear hR
  go_enter Try.func10, Try.ntmps10
  go_wp2_with fail
  rw [← HWB.out]
  refine (szCnf_any _ _ ((1048576 : Int)) _ hA0 (by omega) (by omega)).mono ?_
  rintro e w1 ⟨rfl, b1⟩
  replace hA0 := hA0.below b1
  replace x00 := below_old b1 _ _ x00
  replace x01 := below_old b1 _ _ x01
  have sz1 := b1.size
  replace bt := bt.trans (b1.mono bt.size)
  clear b1
  rw [show leftB ((1048576 : Int)) (szC a0) = (1048576 : Int) - (szC a0 : Int) from by unfold leftB; rw [if_pos (by omega)]]
  go_wp2_with fail
  refine (toCnf_any _ _ _ hA0 (by omega)).mono ?_
  rintro e w2 ⟨us0, rfl, hs0, b2⟩
  replace hA0 := hA0.below b2
  replace x00 := below_old b2 _ _ x00
  replace x01 := below_old b2 _ _ x01
  have sz2 := b2.size
  replace bt := bt.trans (b2.mono bt.size)
  clear b2
  go_wp2_with fail
  refine (S_FirstModel _ _ _ _ _ hs0.read (by omega) HR.out).mono ?_
  rintro e w3 ⟨rfl, b3⟩
  replace hA0 := hA0.below b3
  replace hs0 := hs0.below b3
  replace x00 := below_old b3 _ _ x00
  replace x01 := below_old b3 _ _ x01
  have sz3 := b3.size
  replace bt := bt.trans (b3.mono bt.size)
  clear b3
  clear hs0
  go_wp2_with fail
  refine (toCnf_any _ _ _ hA0 (by omega)).mono ?_
  rintro e w4 ⟨ux0, rfl, hx0, b4⟩
  replace hA0 := hA0.below b4
  replace x00 := below_old b4 _ _ x00
  replace x01 := below_old b4 _ _ x01
  have sz4 := b4.size
  replace bt := bt.trans (b4.mono bt.size)
  clear b4
  obtain ⟨B0, N0, D0, rfl, -⟩ := hx0.open2
  obtain ⟨w5, hw5⟩ : ∃ w', w' = w4.alloc (.cells #[.int .i64 a0.1, .slice B0 N0 D0] 27) := ⟨_, rfl⟩
  have b5 : Below w4.heap.size w4 w5 := by rw [hw5]; exact (Below.refl _ _).alloc (Nat.le_refl _) _
  have szx0 : w4.heap.size + 1 = w5.heap.size := by rw [hw5]; simp
  replace hA0 := hA0.below b5
  replace hx0 := hx0.below b5
  replace x00 := below_old b5 _ _ x00
  replace x01 := below_old b5 _ _ x01
  have sz5 := b5.size
  replace bt := bt.trans (b5.mono bt.size)
  clear b5
  have z00 : w5.cell? ⟨w4.heap.size, 0, none⟩ = some (.int .i64 a0.1) := by rw [hw5]; simp
  have z01 : w5.cell? ⟨w4.heap.size, 1, none⟩ = some (.slice B0 N0 D0) := by rw [hw5]; simp
  have HW5 := hide hw5
  clear hw5
  go_wp2_with fail
  rw [← HW5.out]
  refine (I_FirstModel _ _ _ _ _ hx0.read (by omega) HR.out).mono ?_
  rintro e w6 ⟨rfl, b6⟩
  replace hA0 := hA0.below b6
  replace hx0 := hx0.below b6
  replace x00 := below_old b6 _ _ x00
  replace x01 := below_old b6 _ _ x01
  replace z00 := below_old b6 _ _ z00
  replace z01 := below_old b6 _ _ z01
  have sz6 := b6.size
  replace bt := bt.trans (b6.mono bt.size)
  clear b6
  go_wp2_with fail
  go_region_held3 (fun w' => w'.cell? ⟨W.heap.size, 0, none⟩ = some (.int .i64 a0.1) ∧ w'.cell? ⟨W.heap.size, 1, none⟩ = some (.slice A0 n0 c0) ∧ w'.cell? ⟨w4.heap.size, 0, none⟩ = some (.int .i64 a0.1) ∧ w'.cell? ⟨w4.heap.size, 1, none⟩ = some (.slice B0 N0 D0)) (exact ⟨x00, x01, z00, z01⟩)
    ((first | (go_at_call 17; replace hA0 := hA0.below (below_drew w6); replace hx0 := hx0.below (below_drew w6); replace x00 := below_old (below_drew w6) _ _ x00; replace x01 := below_old (below_drew w6) _ _ x01; replace z00 := below_old (below_drew w6) _ _ z00; replace z01 := below_old (below_drew w6) _ _ z01; replace bt := bt.trans ((below_drew w6).mono bt.size); have szd6 : w6.heap.size ≤ w6.drew.heap.size := Nat.le_refl _; refine (toCnf_any _ _ _ hA0 (by omega)).mono ?_; rintro e w7 ⟨uy0, rfl, hy0, b7⟩; replace hA0 := hA0.below b7; replace hx0 := hx0.below b7; replace x00 := below_old b7 _ _ x00; replace x01 := below_old b7 _ _ x01; replace z00 := below_old b7 _ _ z00; replace z01 := below_old b7 _ _ z01; have sz7 := b7.size; replace bt := bt.trans (b7.mono bt.size); clear b7) | (go_at_call 19; refine (eqCnf_yes _ _ _ _ hx0.read hy0.read (by omega)).mono ?_; rintro e w8 ⟨rfl, b8⟩; replace hA0 := hA0.below b8; replace hx0 := hx0.below b8; replace hy0 := hy0.below b8; replace x00 := below_old b8 _ _ x00; replace x01 := below_old b8 _ _ x01; replace z00 := below_old b8 _ _ z00; replace z01 := below_old b8 _ _ z01; have sz8 := b8.size; replace bt := bt.trans (b8.mono bt.size); clear b8)))
  clear hy0
  go_wp2_with fail
  go_ret
  exact ⟨rfl, bt⟩

set_option maxRecDepth 100000 in
theorem fnExactFirstModel_lifted (os : Os) (started : os.Started) (H : Type) (enc : TypeId × Value → H) :
    ReturnsInHanded {} Try.checked os 10 .any (Rows.fnExactFirstModelSpec.pre6 enc Try.prog Try.f10 Rows.fnExactFirstModelRow.domain false) (Rows.fnExactFirstModelSpec.post enc Try.prog Try.f10 false true false false) := by
  refine returnsInHanded_of_change (C := Try.checked) own started (by kernel_rfl) Try.func10
    (ChangeSpec.witness6 (enc := enc) (C := Try.checked) false ⟨#[], #[.agg #[.int .i64 0, .slice none 0 0]], []⟩ 8 (by kernel_rfl) (by kernel_rfl) (by kernel_rfl) (by kernel_rfl)) ?_
  intro W base args ds gs before hval0 hW hcnd _
  have hval : ∀ (j : Nat) t v, Try.f10.params[j]? = some t → args[j]? = some v → Value.okWide Try.prog W .any base t v := hval0
  have hW' := hW
  obtain ⟨p, q, hA0, hV, rfl, hfz, hnd⟩ := hW
  have hA : DataW.TrodAll enc Try.prog W 0 (fun _ => true) true Try.f10.params.toList args.toList ds p := hA0
  rw [Try.params10] at hA hval
  obtain ⟨v0, vs0, d0, ds0, p0, q0, hargs, rfl, rfl, h0, r0⟩ := trodAll_cons hA
  obtain ⟨rfl, rfl, rfl⟩ := trodAll_nil r0
  obtain rfl : args = #[v0] := by cases args; simp_all
  obtain ⟨rfl, rfl⟩ := trodVars_none hV
  have k0 := h0
  have lt0 : ∀ x ∈ p0, x.block < W.heap.size := by obtain ⟨m, hm⟩ := k0; exact DataW.trod_lt m _ _ _ hm
  obtain ⟨a0, w0⟩ := in_cnf (hval 0 24 v0 rfl rfl) h0 lt0
  clear hA0 hval0
  refine (fnExactFirstModel_walk W v0 a0 w0).mono fun e W' ⟨he, bel⟩ => ?_
  subst he
  exact ⟨_, rfl, _, _, _, [], _, [], hW', trodAll_mk1 (shut_bool Try.underlying4 _), (trodAll_cons_mk (Below.trod laidOut (by kernel_rfl) (of_decide_eq_true (by kernel_rfl)) k0 bel lt0) trodAll_mk0), rfl, bel.frame _, fun h => by cases h⟩

theorem fnExactFirstModel_over : Rows.fnExactFirstModelRow.holds Try.pinned (OpenSpec.ofChange Rows.fnExactFirstModelSpec) :=
  OpenClaim.holds_of_wide 10 Try.f10 rfl rfl rfl rfl rfl rfl rfl ⟨rfl, rfl, rfl, rfl, rfl⟩ rfl rfl rfl rfl rfl (by kernel_rfl) Try.func10 (by kernel_rfl)
    (of_decide_eq_true (by kernel_rfl)) (by unfold Func.isWrapper; first | (rw [if_pos (by decide +kernel)]; kernel_rfl) | (rw [if_neg (by decide +kernel)]; exact ⟨rfl, rfl⟩))
    (fun os started H enc _ => fnExactFirstModel_lifted os started H enc)

theorem fnExactFirstModel_proved : Rows.FnExactFirstModelSaid := fnExactFirstModel_over

set_option maxRecDepth 100000 in
set_option maxHeartbeats 1600000 in
theorem fnExactWidthOfCnf_walk (W : World) (v0 : Value) (a0 : CnfL) (in0 : InCnf W v0 a0) :
    Calls Try.prog 5 #[v0] W fun e w' => e = .returned (.bool true) ∧ Below W.heap.size W w' := by
  obtain ⟨hA0, wf0⟩ := in0
  obtain ⟨A0, n0, c0, rfl, -⟩ := hA0.open2
  obtain ⟨wb, hwb⟩ : ∃ wb, wb = (W.alloc (.cells #[.int .i64 a0.1, .slice A0 n0 c0] 24)) := ⟨_, rfl⟩
  have bt : Below W.heap.size W wb := by rw [hwb]; exact (Below.refl _ _).alloc (by simp) _
  have szb : W.heap.size + 1 = wb.heap.size := by rw [hwb]; simp
  have x00 : wb.cell? ⟨W.heap.size, 0, none⟩ = some (.int .i64 a0.1) := by rw [hwb]; simp
  have x01 : wb.cell? ⟨W.heap.size, 1, none⟩ = some (.slice A0 n0 c0) := by rw [hwb]; simp
  replace hA0 := hA0.below bt
  have HWB := hide hwb
  clear hwb
  by_cases hn0 : szC a0 ≤ 1048576
  case neg =>
    go_enter Try.func5, Try.ntmps5
    go_wp2_with fail
    rw [← HWB.out]
    refine (szCnf_any _ _ ((1048576 : Int)) _ hA0 (by omega) (by omega)).mono ?_
    rintro e w1 ⟨rfl, b1⟩
    replace hA0 := hA0.below b1
    replace x00 := below_old b1 _ _ x00
    replace x01 := below_old b1 _ _ x01
    have sz1 := b1.size
    replace bt := bt.trans (b1.mono bt.size)
    clear b1
    rw [show leftB ((1048576 : Int)) (szC a0) = -1 from by unfold leftB; rw [if_neg (by omega)]]
    go_wp2_with fail
    go_ret
    exact ⟨rfl, bt⟩
  have hcc0 := cntC_le a0
  obtain ⟨r0, r1, hR⟩ : ∃ r0 r1, fWidthOfCnf a0 = (r0, r1) := ⟨_, _, rfl⟩
  have HR := hide hR
  clear hR
  go_enter Try.func5, Try.ntmps5
  go_wp2_with fail
  rw [← HWB.out]
  refine (szCnf_any _ _ ((1048576 : Int)) _ hA0 (by omega) (by omega)).mono ?_
  rintro e w1 ⟨rfl, b1⟩
  replace hA0 := hA0.below b1
  replace x00 := below_old b1 _ _ x00
  replace x01 := below_old b1 _ _ x01
  have sz1 := b1.size
  replace bt := bt.trans (b1.mono bt.size)
  clear b1
  rw [show leftB ((1048576 : Int)) (szC a0) = (1048576 : Int) - (szC a0 : Int) from by unfold leftB; rw [if_pos (by omega)]]
  go_wp2_with fail
  refine (toCnf_any _ _ _ hA0 (by omega)).mono ?_
  rintro e w2 ⟨us0, rfl, hs0, b2⟩
  replace hA0 := hA0.below b2
  replace x00 := below_old b2 _ _ x00
  replace x01 := below_old b2 _ _ x01
  have sz2 := b2.size
  replace bt := bt.trans (b2.mono bt.size)
  clear b2
  go_wp2_with fail
  refine (S_WidthOfCnf _ _ _ _ _ hs0.read (by omega) HR.out).mono ?_
  rintro e w3 ⟨rfl, b3⟩
  replace hA0 := hA0.below b3
  replace hs0 := hs0.below b3
  replace x00 := below_old b3 _ _ x00
  replace x01 := below_old b3 _ _ x01
  have sz3 := b3.size
  replace bt := bt.trans (b3.mono bt.size)
  clear b3
  clear hs0
  go_wp2_with fail
  refine (toCnf_any _ _ _ hA0 (by omega)).mono ?_
  rintro e w4 ⟨ux0, rfl, hx0, b4⟩
  replace hA0 := hA0.below b4
  replace x00 := below_old b4 _ _ x00
  replace x01 := below_old b4 _ _ x01
  have sz4 := b4.size
  replace bt := bt.trans (b4.mono bt.size)
  clear b4
  obtain ⟨B0, N0, D0, rfl, -⟩ := hx0.open2
  obtain ⟨w5, hw5⟩ : ∃ w', w' = w4.alloc (.cells #[.int .i64 a0.1, .slice B0 N0 D0] 27) := ⟨_, rfl⟩
  have b5 : Below w4.heap.size w4 w5 := by rw [hw5]; exact (Below.refl _ _).alloc (Nat.le_refl _) _
  have szx0 : w4.heap.size + 1 = w5.heap.size := by rw [hw5]; simp
  replace hA0 := hA0.below b5
  replace hx0 := hx0.below b5
  replace x00 := below_old b5 _ _ x00
  replace x01 := below_old b5 _ _ x01
  have sz5 := b5.size
  replace bt := bt.trans (b5.mono bt.size)
  clear b5
  have z00 : w5.cell? ⟨w4.heap.size, 0, none⟩ = some (.int .i64 a0.1) := by rw [hw5]; simp
  have z01 : w5.cell? ⟨w4.heap.size, 1, none⟩ = some (.slice B0 N0 D0) := by rw [hw5]; simp
  have HW5 := hide hw5
  clear hw5
  go_wp2_with fail
  rw [← HW5.out]
  refine (I_WidthOfCnf _ _ _ _ _ hx0.read (by omega) HR.out).mono ?_
  rintro e w6 ⟨rfl, b6⟩
  replace hA0 := hA0.below b6
  replace hx0 := hx0.below b6
  replace x00 := below_old b6 _ _ x00
  replace x01 := below_old b6 _ _ x01
  replace z00 := below_old b6 _ _ z00
  replace z01 := below_old b6 _ _ z01
  have sz6 := b6.size
  replace bt := bt.trans (b6.mono bt.size)
  clear b6
  go_wp2_with fail
  go_region_held3 (fun w' => w'.cell? ⟨W.heap.size, 0, none⟩ = some (.int .i64 a0.1) ∧ w'.cell? ⟨W.heap.size, 1, none⟩ = some (.slice A0 n0 c0) ∧ w'.cell? ⟨w4.heap.size, 0, none⟩ = some (.int .i64 a0.1) ∧ w'.cell? ⟨w4.heap.size, 1, none⟩ = some (.slice B0 N0 D0)) (exact ⟨x00, x01, z00, z01⟩)
    ((first | (go_at_call 17; replace hA0 := hA0.below (below_drew w6); replace hx0 := hx0.below (below_drew w6); replace x00 := below_old (below_drew w6) _ _ x00; replace x01 := below_old (below_drew w6) _ _ x01; replace z00 := below_old (below_drew w6) _ _ z00; replace z01 := below_old (below_drew w6) _ _ z01; replace bt := bt.trans ((below_drew w6).mono bt.size); have szd6 : w6.heap.size ≤ w6.drew.heap.size := Nat.le_refl _; refine (toCnf_any _ _ _ hA0 (by omega)).mono ?_; rintro e w7 ⟨uy0, rfl, hy0, b7⟩; replace hA0 := hA0.below b7; replace hx0 := hx0.below b7; replace x00 := below_old b7 _ _ x00; replace x01 := below_old b7 _ _ x01; replace z00 := below_old b7 _ _ z00; replace z01 := below_old b7 _ _ z01; have sz7 := b7.size; replace bt := bt.trans (b7.mono bt.size); clear b7) | (go_at_call 19; refine (eqCnf_yes _ _ _ _ hx0.read hy0.read (by omega)).mono ?_; rintro e w8 ⟨rfl, b8⟩; replace hA0 := hA0.below b8; replace hx0 := hx0.below b8; replace hy0 := hy0.below b8; replace x00 := below_old b8 _ _ x00; replace x01 := below_old b8 _ _ x01; replace z00 := below_old b8 _ _ z00; replace z01 := below_old b8 _ _ z01; have sz8 := b8.size; replace bt := bt.trans (b8.mono bt.size); clear b8)))
  clear hy0
  go_wp2_with fail
  go_ret
  exact ⟨rfl, bt⟩

set_option maxRecDepth 100000 in
theorem fnExactWidthOfCnf_lifted (os : Os) (started : os.Started) (H : Type) (enc : TypeId × Value → H) :
    ReturnsInHanded {} Try.checked os 5 .any (Rows.fnExactWidthOfCnfSpec.pre6 enc Try.prog Try.f5 Rows.fnExactWidthOfCnfRow.domain false) (Rows.fnExactWidthOfCnfSpec.post enc Try.prog Try.f5 false true false false) := by
  refine returnsInHanded_of_change (C := Try.checked) own started (by kernel_rfl) Try.func5
    (ChangeSpec.witness6 (enc := enc) (C := Try.checked) false ⟨#[], #[.agg #[.int .i64 0, .slice none 0 0]], []⟩ 8 (by kernel_rfl) (by kernel_rfl) (by kernel_rfl) (by kernel_rfl)) ?_
  intro W base args ds gs before hval0 hW hcnd _
  have hval : ∀ (j : Nat) t v, Try.f5.params[j]? = some t → args[j]? = some v → Value.okWide Try.prog W .any base t v := hval0
  have hW' := hW
  obtain ⟨p, q, hA0, hV, rfl, hfz, hnd⟩ := hW
  have hA : DataW.TrodAll enc Try.prog W 0 (fun _ => true) true Try.f5.params.toList args.toList ds p := hA0
  rw [Try.params5] at hA hval
  obtain ⟨v0, vs0, d0, ds0, p0, q0, hargs, rfl, rfl, h0, r0⟩ := trodAll_cons hA
  obtain ⟨rfl, rfl, rfl⟩ := trodAll_nil r0
  obtain rfl : args = #[v0] := by cases args; simp_all
  obtain ⟨rfl, rfl⟩ := trodVars_none hV
  have k0 := h0
  have lt0 : ∀ x ∈ p0, x.block < W.heap.size := by obtain ⟨m, hm⟩ := k0; exact DataW.trod_lt m _ _ _ hm
  obtain ⟨a0, w0⟩ := in_cnf (hval 0 24 v0 rfl rfl) h0 lt0
  clear hA0 hval0
  refine (fnExactWidthOfCnf_walk W v0 a0 w0).mono fun e W' ⟨he, bel⟩ => ?_
  subst he
  exact ⟨_, rfl, _, _, _, [], _, [], hW', trodAll_mk1 (shut_bool Try.underlying4 _), (trodAll_cons_mk (Below.trod laidOut (by kernel_rfl) (of_decide_eq_true (by kernel_rfl)) k0 bel lt0) trodAll_mk0), rfl, bel.frame _, fun h => by cases h⟩

theorem fnExactWidthOfCnf_over : Rows.fnExactWidthOfCnfRow.holds Try.pinned (OpenSpec.ofChange Rows.fnExactWidthOfCnfSpec) :=
  OpenClaim.holds_of_wide 5 Try.f5 rfl rfl rfl rfl rfl rfl rfl ⟨rfl, rfl, rfl, rfl, rfl⟩ rfl rfl rfl rfl rfl (by kernel_rfl) Try.func5 (by kernel_rfl)
    (of_decide_eq_true (by kernel_rfl)) (by unfold Func.isWrapper; first | (rw [if_pos (by decide +kernel)]; kernel_rfl) | (rw [if_neg (by decide +kernel)]; exact ⟨rfl, rfl⟩))
    (fun os started H enc _ => fnExactWidthOfCnf_lifted os started H enc)

theorem fnExactWidthOfCnf_proved : Rows.FnExactWidthOfCnfSaid := fnExactWidthOfCnf_over

end Go.Proofs.Ytnkdkdojmloohaa
