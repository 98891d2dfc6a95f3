/- The laws IsMonotoneCircuit: each returns true for every input, and the arguments read as before. The walks go by the functions' contracts; the rows' steps lie behind them. -/
import Derived.Test.YtfipchccnbbapaaGBase
import Derived.Test.YtfipchccnbbapaaMonS
import Derived.Test.YtfipchccnbbapaaMono
import Derived.ProofKit
import Derived.OpenShut
import Derived.ShutString
import Derived.ChangeOld
import Derived.Below
import Derived.Deep.RegionHeld3
namespace Go.Proofs.Ytfipchccnbbapaa
open Go.ChangeShapes Go.WideShapes Go.ChangeAt Go.RowKit
open Go.ChangeMaps (open_string shut_string)
set_option linter.unusedVariables false

set_option maxRecDepth 100000 in
set_option maxHeartbeats 1600000 in
theorem fnExactIsMonotoneCircuit_walk (W : World) (a0 : Int) (b0 : -9223372036854775808 ≤ a0 ∧ a0 ≤ 9223372036854775807) (v1 : Value) (a1 : List GateL) (in1 : InGates W v1 a1) :
    Calls Try.prog 11 #[.int .i64 a0, v1] W fun e w' => e = .returned (.bool true) ∧ Below W.heap.size W w' := by
  obtain ⟨hA1, wf1⟩ := in1
  have bt := Below.refl W.heap.size W
  by_cases hn1 : szG a1 ≤ 1048576
  case neg =>
    go_enter Try.func11, Try.ntmps11
    go_wp2_with fail
    refine (szGateS_any _ _ ((1048576 : Int)) _ hA1 (by omega) (by omega)).mono ?_
    rintro e w1 ⟨rfl, b1⟩
    replace hA1 := hA1.below b1
    have sz1 := b1.size
    replace bt := bt.trans (b1.mono bt.size)
    clear b1
    rw [show leftB ((1048576 : Int)) (szG a1) = -1 from by unfold leftB; rw [if_neg (by omega)]]
    go_wp2_with fail
    go_ret
    exact ⟨rfl, bt⟩
  have hcc1 := cntG_le a1
  obtain ⟨r0, r1, hR⟩ : ∃ r0 r1, fIsMonotoneCircuit a0 a1 = (r0, r1) := ⟨_, _, rfl⟩
  have HR := hide hR
  clear hR
  go_enter Try.func11, Try.ntmps11
  go_wp2_with fail
  refine (szGateS_any _ _ ((1048576 : Int)) _ hA1 (by omega) (by omega)).mono ?_
  rintro e w1 ⟨rfl, b1⟩
  replace hA1 := hA1.below b1
  have sz1 := b1.size
  replace bt := bt.trans (b1.mono bt.size)
  clear b1
  rw [show leftB ((1048576 : Int)) (szG a1) = (1048576 : Int) - (szG a1 : Int) from by unfold leftB; rw [if_pos (by omega)]]
  go_wp2_with fail
  refine (toGateS_any _ _ _ hA1 (by omega)).mono ?_
  rintro e w2 ⟨us1, rfl, hs1, b2⟩
  replace hA1 := hA1.below b2
  have sz2 := b2.size
  replace bt := bt.trans (b2.mono bt.size)
  clear b2
  go_wp2_with fail
  refine (S_IsMonotoneCircuit _ _ _ _ _ _ hs1.read (by omega) HR.out).mono ?_
  rintro e w3 ⟨rfl, b3⟩
  replace hA1 := hA1.below b3
  replace hs1 := hs1.below b3
  have sz3 := b3.size
  replace bt := bt.trans (b3.mono bt.size)
  clear b3
  clear hs1
  go_wp2_with fail
  refine (toGateS_any _ _ _ hA1 (by omega)).mono ?_
  rintro e w4 ⟨ux1, rfl, hx1, b4⟩
  replace hA1 := hA1.below b4
  have sz4 := b4.size
  replace bt := bt.trans (b4.mono bt.size)
  clear b4
  go_wp2_with fail
  refine (I_IsMonotoneCircuit _ _ _ _ _ _ hx1.read (by omega) HR.out).mono ?_
  rintro e w5 ⟨rfl, b5⟩
  replace hA1 := hA1.below b5
  replace hx1 := hx1.below b5
  have sz5 := b5.size
  replace bt := bt.trans (b5.mono bt.size)
  clear b5
  go_wp2_with fail
  refine (toGateS_any _ _ _ hA1 (by omega)).mono ?_
  rintro e w6 ⟨uy1, rfl, hy1, b6⟩
  replace hA1 := hA1.below b6
  replace hx1 := hx1.below b6
  have sz6 := b6.size
  replace bt := bt.trans (b6.mono bt.size)
  clear b6
  go_wp2_with fail
  refine (eqGateS_yes _ _ _ _ hx1.read hy1.read (by omega)).mono ?_
  rintro e w7 ⟨rfl, b7⟩
  replace hA1 := hA1.below b7
  replace hx1 := hx1.below b7
  replace hy1 := hy1.below b7
  have sz7 := b7.size
  replace bt := bt.trans (b7.mono bt.size)
  clear b7
  clear hy1
  go_wp2_with fail
  go_ret
  exact ⟨rfl, bt⟩

set_option maxRecDepth 100000 in
theorem fnExactIsMonotoneCircuit_lifted (os : Os) (started : os.Started) (H : Type) (enc : TypeId × Value → H) :
    ReturnsInHanded {} Try.checked os 11 .any (Rows.fnExactIsMonotoneCircuitSpec.pre6 enc Try.prog Try.f11 Rows.fnExactIsMonotoneCircuitRow.domain false) (Rows.fnExactIsMonotoneCircuitSpec.post enc Try.prog Try.f11 false true false false) := by
  refine returnsInHanded_of_change (C := Try.checked) own started (by kernel_rfl) Try.func11
    (ChangeSpec.witness6 (enc := enc) (C := Try.checked) false ⟨#[], #[.int .i64 0, .slice none 0 0], []⟩ 8 (by kernel_rfl) (by kernel_rfl) (by kernel_rfl) (by kernel_rfl)) ?_
  intro W base args ds gs before hval0 hW hcnd _
  have hval : ∀ (j : Nat) t v, Try.f11.params[j]? = some t → args[j]? = some v → Value.okWide Try.prog W .any base t v := hval0
  have hW' := hW
  obtain ⟨p, q, hA0, hV, rfl, hfz, hnd⟩ := hW
  have hA : DataW.TrodAll enc Try.prog W 0 (fun _ => true) true Try.f11.params.toList args.toList ds p := hA0
  rw [Try.params11] at hA hval
  obtain ⟨v0, vs0, d0, ds0, p0, q0, hargs, rfl, rfl, h0, r0⟩ := trodAll_cons hA
  obtain ⟨v1, vs1, d1, ds1, p1, q1, rfl, rfl, rfl, h1, r1⟩ := trodAll_cons r0
  obtain ⟨rfl, rfl, rfl⟩ := trodAll_nil r1
  obtain rfl : args = #[v0, v1] := by cases args; simp_all
  obtain ⟨rfl, rfl⟩ := trodVars_none hV
  obtain ⟨a0, rfl, rfl, rfl, w0⟩ := open_int Try.underlying3 (hval 0 3 v0 rfl rfl) h0
  have k1 := h1
  have lt1 : ∀ x ∈ p1, x.block < W.heap.size := by obtain ⟨m, hm⟩ := k1; exact DataW.trod_lt m _ _ _ hm
  obtain ⟨a1, w1⟩ := in_gates (hval 1 22 v1 rfl rfl) h1 lt1
  clear hA0 hval0
  refine (fnExactIsMonotoneCircuit_walk W a0 (bounds_i64 w0) v1 a1 w1).mono fun e W' ⟨he, bel⟩ => ?_
  subst he
  exact ⟨_, rfl, _, _, _, [], _, [], hW', trodAll_mk1 (shut_bool Try.underlying4 _), (trodAll_cons_mk (shut_int Try.underlying3 w0) (trodAll_cons_mk (Below.trod laidOut (by kernel_rfl) (of_decide_eq_true (by kernel_rfl)) k1 bel lt1) trodAll_mk0)), rfl, bel.frame _, fun h => by cases h⟩

theorem fnExactIsMonotoneCircuit_over : Rows.fnExactIsMonotoneCircuitRow.holds Try.pinned (OpenSpec.ofChange Rows.fnExactIsMonotoneCircuitSpec) :=
  OpenClaim.holds_of_wide 11 Try.f11 rfl rfl rfl rfl rfl rfl rfl ⟨rfl, rfl, rfl, rfl, rfl⟩ rfl rfl rfl rfl rfl (by kernel_rfl) Try.func11 (by kernel_rfl)
    (of_decide_eq_true (by kernel_rfl)) (by unfold Func.isWrapper; first | (rw [if_pos (by decide +kernel)]; kernel_rfl) | (rw [if_neg (by decide +kernel)]; exact ⟨rfl, rfl⟩))
    (fun os started H enc _ => fnExactIsMonotoneCircuit_lifted os started H enc)

theorem fnExactIsMonotoneCircuit_proved : Rows.FnExactIsMonotoneCircuitSaid := fnExactIsMonotoneCircuit_over

end Go.Proofs.Ytfipchccnbbapaa
