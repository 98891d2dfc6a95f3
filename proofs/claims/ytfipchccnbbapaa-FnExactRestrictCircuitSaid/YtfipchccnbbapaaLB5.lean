/- The laws RestrictCircuit: each returns true for every input, and the arguments read as before. The walks go by the functions' contracts; the rows' steps lie behind them. -/
import Derived.Test.YtfipchccnbbapaaGBase
import Derived.Test.YtfipchccnbbapaaRest
import Derived.ProofKit
import Derived.OpenShut
import Derived.ShutString
import Derived.ChangeOld
import Derived.Below
import Derived.Deep.RegionHeld3
namespace Go.Proofs.Ytfipchccnbbapaa
open Go.ChangeShapes Go.WideShapes Go.ChangeAt Go.RowKit
open Go.ChangeMaps (open_string shut_string)
set_option linter.unusedVariables false

set_option maxRecDepth 100000 in
set_option maxHeartbeats 1600000 in
theorem fnExactRestrictCircuit_walk (W : World) (a0 : Int) (b0 : -9223372036854775808 ≤ a0 ∧ a0 ≤ 9223372036854775807) (v1 : Value) (a1 : List GateL) (in1 : InGates W v1 a1) (a2 : Int) (b2 : -9223372036854775808 ≤ a2 ∧ a2 ≤ 9223372036854775807) (a3 : Bool) :
    Calls Try.prog 8 #[.int .i64 a0, v1, .int .i64 a2, .bool a3] W fun e w' => e = .returned (.bool true) ∧ Below W.heap.size W w' := by
  obtain ⟨hA1, wf1⟩ := in1
  have bt := Below.refl W.heap.size W
  by_cases hn1 : szG a1 ≤ 1048576
  case neg =>
    go_enter Try.func8, Try.ntmps8
    go_wp2_with fail
    refine (szGateS_any _ _ ((1048576 : Int)) _ hA1 (by omega) (by omega)).mono ?_
    rintro e w1 ⟨rfl, b1⟩
    replace hA1 := hA1.below b1
    have sz1 := b1.size
    replace bt := bt.trans (b1.mono bt.size)
    clear b1
    rw [show leftB ((1048576 : Int)) (szG a1) = -1 from by unfold leftB; rw [if_neg (by omega)]]
    go_wp2_with fail
    go_ret
    exact ⟨rfl, bt⟩
  have hcc1 := cntG_le a1
  obtain ⟨r0, r1, hR⟩ : ∃ r0 r1, fRestrictCircuit a0 a1 a2 a3 = (r0, r1) := ⟨_, _, rfl⟩
  have hl0 := fRestrictCircuit_len (by omega) hR
  have hcr0 := cntG_le r0
  have HR := hide hR
  clear hR
  go_enter Try.func8, Try.ntmps8
  go_wp2_with fail
  refine (szGateS_any _ _ ((1048576 : Int)) _ hA1 (by omega) (by omega)).mono ?_
  rintro e w1 ⟨rfl, b1⟩
  replace hA1 := hA1.below b1
  have sz1 := b1.size
  replace bt := bt.trans (b1.mono bt.size)
  clear b1
  rw [show leftB ((1048576 : Int)) (szG a1) = (1048576 : Int) - (szG a1 : Int) from by unfold leftB; rw [if_pos (by omega)]]
  go_wp2_with fail
  refine (toGateS_any _ _ _ hA1 (by omega)).mono ?_
  rintro e w2 ⟨us1, rfl, hs1, b2⟩
  replace hA1 := hA1.below b2
  have sz2 := b2.size
  replace bt := bt.trans (b2.mono bt.size)
  clear b2
  go_wp2_with fail
  refine (S_RestrictCircuit _ _ _ _ _ _ _ _ hs1.read (by omega) HR.out).mono ?_
  rintro e w3 ⟨uw0, rfl, hw0, b3⟩
  replace hA1 := hA1.below b3
  replace hs1 := hs1.below b3
  have sz3 := b3.size
  replace bt := bt.trans (b3.mono bt.size)
  clear b3
  clear hs1
  go_wp2_with fail
  refine (toGateS_any _ _ _ hA1 (by omega)).mono ?_
  rintro e w4 ⟨ux1, rfl, hx1, b4⟩
  replace hA1 := hA1.below b4
  replace hw0 := hw0.below b4
  have sz4 := b4.size
  replace bt := bt.trans (b4.mono bt.size)
  clear b4
  go_wp2_with fail
  refine (I_RestrictCircuit _ _ _ _ _ _ _ _ hx1.read (by omega) HR.out).mono ?_
  rintro e w5 ⟨ug0, rfl, hg0, b5⟩
  replace hA1 := hA1.below b5
  replace hw0 := hw0.below b5
  replace hx1 := hx1.below b5
  have sz5 := b5.size
  replace bt := bt.trans (b5.mono bt.size)
  clear b5
  go_wp2_with fail
  refine (eqGateS_yes _ _ _ _ hg0.read hw0.read (by omega)).mono ?_
  rintro e w6 ⟨rfl, b6⟩
  replace hA1 := hA1.below b6
  replace hw0 := hw0.below b6
  replace hx1 := hx1.below b6
  replace hg0 := hg0.below b6
  have sz6 := b6.size
  replace bt := bt.trans (b6.mono bt.size)
  clear b6
  go_wp2_with fail
  refine (toGateS_any _ _ _ hA1 (by omega)).mono ?_
  rintro e w7 ⟨uy1, rfl, hy1, b7⟩
  replace hA1 := hA1.below b7
  replace hw0 := hw0.below b7
  replace hx1 := hx1.below b7
  replace hg0 := hg0.below b7
  have sz7 := b7.size
  replace bt := bt.trans (b7.mono bt.size)
  clear b7
  go_wp2_with fail
  refine (eqGateS_yes _ _ _ _ hx1.read hy1.read (by omega)).mono ?_
  rintro e w8 ⟨rfl, b8⟩
  replace hA1 := hA1.below b8
  replace hw0 := hw0.below b8
  replace hx1 := hx1.below b8
  replace hg0 := hg0.below b8
  replace hy1 := hy1.below b8
  have sz8 := b8.size
  replace bt := bt.trans (b8.mono bt.size)
  clear b8
  clear hy1
  go_wp2_with fail
  refine (markGateS_any _ _ _ _ hx1 (by omega) (by omega) (by omega)).mono ?_
  rintro e w9 ⟨rfl, m9, c9, -⟩
  clear hx1
  replace hA1 := hA1.chg c9 (by omega)
  replace hw0 := hw0.chg c9 (by omega)
  replace hg0 := hg0.chg c9 (by omega)
  have sz9 := c9.size
  replace bt := below_chg bt c9 (by omega) (Nat.le_refl _)
  clear c9
  clear m9
  go_wp2_with fail
  refine (eqGateS_yes _ _ _ _ hg0.read hw0.read (by omega)).mono ?_
  rintro e w10 ⟨rfl, b10⟩
  replace hA1 := hA1.below b10
  replace hw0 := hw0.below b10
  replace hg0 := hg0.below b10
  have sz10 := b10.size
  replace bt := bt.trans (b10.mono bt.size)
  clear b10
  go_wp2_with fail
  refine (markGateS_any _ _ _ _ hg0 (by omega) (by omega) (by omega)).mono ?_
  rintro e w11 ⟨rfl, m11, c11, -⟩
  clear hg0
  replace hA1 := hA1.chg c11 (by omega)
  replace hw0 := hw0.chg c11 (by omega)
  have sz11 := c11.size
  replace bt := below_chg bt c11 (by omega) (Nat.le_refl _)
  clear c11
  go_wp2_with fail
  refine (heldGateS_yes _ _ _ _ m11.read (by omega) (by omega) (by omega)).mono ?_
  rintro e w12 ⟨rfl, b12⟩
  replace hA1 := hA1.below b12
  replace hw0 := hw0.below b12
  replace m11 := m11.below b12
  have sz12 := b12.size
  replace bt := bt.trans (b12.mono bt.size)
  clear b12
  go_wp2_with fail
  refine (toGateS_any _ _ _ hA1 (by omega)).mono ?_
  rintro e w13 ⟨uz1, rfl, hz1, b13⟩
  replace hA1 := hA1.below b13
  replace hw0 := hw0.below b13
  replace m11 := m11.below b13
  have sz13 := b13.size
  replace bt := bt.trans (b13.mono bt.size)
  clear b13
  go_wp2_with fail
  refine (I_RestrictCircuit _ _ _ _ _ _ _ _ hz1.read (by omega) HR.out).mono ?_
  rintro e w14 ⟨uh0, rfl, hh0, b14⟩
  replace hA1 := hA1.below b14
  replace hw0 := hw0.below b14
  replace m11 := m11.below b14
  replace hz1 := hz1.below b14
  have sz14 := b14.size
  replace bt := bt.trans (b14.mono bt.size)
  clear b14
  clear hz1
  go_wp2_with fail
  refine (eqGateS_yes _ _ _ _ hh0.read hw0.read (by omega)).mono ?_
  rintro e w15 ⟨rfl, b15⟩
  replace hA1 := hA1.below b15
  replace hw0 := hw0.below b15
  replace m11 := m11.below b15
  replace hh0 := hh0.below b15
  have sz15 := b15.size
  replace bt := bt.trans (b15.mono bt.size)
  clear b15
  go_wp2_with fail
  refine (heldGateS_yes _ _ _ _ m11.read (by omega) (by omega) (by omega)).mono ?_
  rintro e w16 ⟨rfl, b16⟩
  replace hA1 := hA1.below b16
  replace hw0 := hw0.below b16
  replace m11 := m11.below b16
  replace hh0 := hh0.below b16
  have sz16 := b16.size
  replace bt := bt.trans (b16.mono bt.size)
  clear b16
  go_wp2_with fail
  go_ret
  exact ⟨rfl, bt⟩

set_option maxRecDepth 100000 in
theorem fnExactRestrictCircuit_lifted (os : Os) (started : os.Started) (H : Type) (enc : TypeId × Value → H) :
    ReturnsInHanded {} Try.checked os 8 .any (Rows.fnExactRestrictCircuitSpec.pre6 enc Try.prog Try.f8 Rows.fnExactRestrictCircuitRow.domain false) (Rows.fnExactRestrictCircuitSpec.post enc Try.prog Try.f8 false true false false) := by
  refine returnsInHanded_of_change (C := Try.checked) own started (by kernel_rfl) Try.func8
    (ChangeSpec.witness6 (enc := enc) (C := Try.checked) false ⟨#[], #[.int .i64 0, .slice none 0 0, .int .i64 0, .bool false], []⟩ 8 (by kernel_rfl) (by kernel_rfl) (by kernel_rfl) (by kernel_rfl)) ?_
  intro W base args ds gs before hval0 hW hcnd _
  have hval : ∀ (j : Nat) t v, Try.f8.params[j]? = some t → args[j]? = some v → Value.okWide Try.prog W .any base t v := hval0
  have hW' := hW
  obtain ⟨p, q, hA0, hV, rfl, hfz, hnd⟩ := hW
  have hA : DataW.TrodAll enc Try.prog W 0 (fun _ => true) true Try.f8.params.toList args.toList ds p := hA0
  rw [Try.params8] at hA hval
  obtain ⟨v0, vs0, d0, ds0, p0, q0, hargs, rfl, rfl, h0, r0⟩ := trodAll_cons hA
  obtain ⟨v1, vs1, d1, ds1, p1, q1, rfl, rfl, rfl, h1, r1⟩ := trodAll_cons r0
  obtain ⟨v2, vs2, d2, ds2, p2, q2, rfl, rfl, rfl, h2, r2⟩ := trodAll_cons r1
  obtain ⟨v3, vs3, d3, ds3, p3, q3, rfl, rfl, rfl, h3, r3⟩ := trodAll_cons r2
  obtain ⟨rfl, rfl, rfl⟩ := trodAll_nil r3
  obtain rfl : args = #[v0, v1, v2, v3] := by cases args; simp_all
  obtain ⟨rfl, rfl⟩ := trodVars_none hV
  obtain ⟨a0, rfl, rfl, rfl, w0⟩ := open_int Try.underlying3 (hval 0 3 v0 rfl rfl) h0
  have k1 := h1
  have lt1 : ∀ x ∈ p1, x.block < W.heap.size := by obtain ⟨m, hm⟩ := k1; exact DataW.trod_lt m _ _ _ hm
  obtain ⟨a1, w1⟩ := in_gates (hval 1 22 v1 rfl rfl) h1 lt1
  obtain ⟨a2, rfl, rfl, rfl, w2⟩ := open_int Try.underlying3 (hval 2 3 v2 rfl rfl) h2
  obtain ⟨a3, rfl, rfl, rfl⟩ := open_bool Try.underlying4 (hval 3 4 v3 rfl rfl) h3
  clear hA0 hval0
  refine (fnExactRestrictCircuit_walk W a0 (bounds_i64 w0) v1 a1 w1 a2 (bounds_i64 w2) a3).mono fun e W' ⟨he, bel⟩ => ?_
  subst he
  exact ⟨_, rfl, _, _, _, [], _, [], hW', trodAll_mk1 (shut_bool Try.underlying4 _), (trodAll_cons_mk (shut_int Try.underlying3 w0) (trodAll_cons_mk (Below.trod laidOut (by kernel_rfl) (of_decide_eq_true (by kernel_rfl)) k1 bel lt1) (trodAll_cons_mk (shut_int Try.underlying3 w2) (trodAll_cons_mk (shut_bool Try.underlying4 a3) trodAll_mk0)))), rfl, bel.frame _, fun h => by cases h⟩

theorem fnExactRestrictCircuit_over : Rows.fnExactRestrictCircuitRow.holds Try.pinned (OpenSpec.ofChange Rows.fnExactRestrictCircuitSpec) :=
  OpenClaim.holds_of_wide 8 Try.f8 rfl rfl rfl rfl rfl rfl rfl ⟨rfl, rfl, rfl, rfl, rfl⟩ rfl rfl rfl rfl rfl (by kernel_rfl) Try.func8 (by kernel_rfl)
    (of_decide_eq_true (by kernel_rfl)) (by unfold Func.isWrapper; first | (rw [if_pos (by decide +kernel)]; kernel_rfl) | (rw [if_neg (by decide +kernel)]; exact ⟨rfl, rfl⟩))
    (fun os started H enc _ => fnExactRestrictCircuit_lifted os started H enc)

theorem fnExactRestrictCircuit_proved : Rows.FnExactRestrictCircuitSaid := fnExactRestrictCircuit_over

end Go.Proofs.Ytfipchccnbbapaa
