/- The laws JoinStrings: each returns true for every input, and the arguments read as before. The walks go by the functions' contracts; the rows' steps lie behind them. -/
import Derived.Test.YtmepficbmgjpoaaJstA
import Derived.Test.YtmepficbmgjpoaaJst
import Derived.ProofKit
import Derived.OpenShut
import Derived.ShutString
import Derived.ChangeOld
import Derived.Below
import Derived.Deep.RegionHeld3
namespace Go.Proofs.Ytmepficbmgjpoaa
open Go.ChangeShapes Go.WideShapes Go.ChangeAt Go.RowKit
open Go.ChangeMaps (open_string shut_string)
set_option linter.unusedVariables false

set_option maxRecDepth 100000 in
set_option maxHeartbeats 1600000 in
theorem fnExactJoinStrings_walk (W : World) (v0 : Value) (a0 : List ByteArray) (in0 : InStrs W v0 a0) (a1 : ByteArray) (b1 : a1.size ≤ maxLen) :
    Calls Try.prog 3 #[v0, .string a1] W fun e w' => e = .returned (.bool true) ∧ Below W.heap.size W w' := by
  unfold maxLen at b1
  obtain ⟨hA0, wf0⟩ := in0
  have bt := Below.refl W.heap.size W
  by_cases hn1 : a1.size ≤ 1048576
  case neg =>
    go_enter Try.func3, Try.ntmps3
    go_wp2_with fail
    go_ret
    exact ⟨rfl, bt⟩
  by_cases hn0 : szS a0 ≤ 1048576
  case neg =>
    go_enter Try.func3, Try.ntmps3
    go_wp2_with fail
    refine (szStringS_any _ _ ((1048576 : Int)) _ hA0 (by omega) (by omega)).mono ?_
    rintro e w1 ⟨rfl, b1⟩
    replace hA0 := hA0.below b1
    have sz1 := b1.size
    replace bt := bt.trans (b1.mono bt.size)
    clear b1
    rw [show leftB ((1048576 : Int)) (szS a0) = -1 from by unfold leftB; rw [if_neg (by omega)]]
    go_wp2_with fail
    go_ret
    exact ⟨rfl, bt⟩
  have hcc0 := cntS_le a0
  obtain ⟨r0, r1, hR⟩ : ∃ r0 r1, fJoinStrings a0 a1 = (r0, r1) := ⟨_, _, rfl⟩
  have HR := hide hR
  clear hR
  go_enter Try.func3, Try.ntmps3
  go_wp2_with fail
  refine (szStringS_any _ _ ((1048576 : Int)) _ hA0 (by omega) (by omega)).mono ?_
  rintro e w1 ⟨rfl, b1⟩
  replace hA0 := hA0.below b1
  have sz1 := b1.size
  replace bt := bt.trans (b1.mono bt.size)
  clear b1
  rw [show leftB ((1048576 : Int)) (szS a0) = (1048576 : Int) - (szS a0 : Int) from by unfold leftB; rw [if_pos (by omega)]]
  go_wp2_with fail
  refine (toStringS_any _ _ _ hA0 (by omega)).mono ?_
  rintro e w2 ⟨us0, rfl, hs0, b2⟩
  replace hA0 := hA0.below b2
  have sz2 := b2.size
  replace bt := bt.trans (b2.mono bt.size)
  clear b2
  go_wp2_with fail
  refine (S_JoinStrings _ _ _ _ _ _ hs0.read (by omega) hn1 HR.out).mono ?_
  rintro e w3 ⟨rfl, b3⟩
  replace hA0 := hA0.below b3
  replace hs0 := hs0.below b3
  have sz3 := b3.size
  replace bt := bt.trans (b3.mono bt.size)
  clear b3
  clear hs0
  go_wp2_with fail
  refine (toStringS_any _ _ _ hA0 (by omega)).mono ?_
  rintro e w4 ⟨ux0, rfl, hx0, b4⟩
  replace hA0 := hA0.below b4
  have sz4 := b4.size
  replace bt := bt.trans (b4.mono bt.size)
  clear b4
  go_wp2_with fail
  refine (I_JoinStrings _ _ _ _ _ _ hx0.read (by omega) hn1 HR.out).mono ?_
  rintro e w5 ⟨rfl, b5⟩
  replace hA0 := hA0.below b5
  replace hx0 := hx0.below b5
  have sz5 := b5.size
  replace bt := bt.trans (b5.mono bt.size)
  clear b5
  go_wp2_with fail
  refine (toStringS_any _ _ _ hA0 (by omega)).mono ?_
  rintro e w6 ⟨uy0, rfl, hy0, b6⟩
  replace hA0 := hA0.below b6
  replace hx0 := hx0.below b6
  have sz6 := b6.size
  replace bt := bt.trans (b6.mono bt.size)
  clear b6
  go_wp2_with fail
  refine (eqStringS_yes _ _ _ _ hx0.read hy0.read (by omega)).mono ?_
  rintro e w7 ⟨rfl, q7⟩
  have b7 := q7.below w6.heap.size
  clear q7
  replace hA0 := hA0.below b7
  replace hx0 := hx0.below b7
  replace hy0 := hy0.below b7
  have sz7 := b7.size
  replace bt := bt.trans (b7.mono bt.size)
  clear b7
  clear hy0
  go_wp2_with fail
  go_ret
  exact ⟨rfl, bt⟩

set_option maxRecDepth 100000 in
theorem fnExactJoinStrings_lifted (os : Os) (started : os.Started) (H : Type) (enc : TypeId × Value → H) :
    ReturnsInHanded {} Try.checked os 3 .any (Rows.fnExactJoinStringsSpec.pre6 enc Try.prog Try.f3 Rows.fnExactJoinStringsRow.domain false) (Rows.fnExactJoinStringsSpec.post enc Try.prog Try.f3 false true false false) := by
  refine returnsInHanded_of_change (C := Try.checked) own started (by kernel_rfl) Try.func3
    (ChangeSpec.witness6 (enc := enc) (C := Try.checked) false ⟨#[], #[.slice none 0 0, .string ByteArray.empty], []⟩ 8 (by kernel_rfl) (by kernel_rfl) (by kernel_rfl) (by kernel_rfl)) ?_
  intro W base args ds gs before hval0 hW hcnd _
  have hval : ∀ (j : Nat) t v, Try.f3.params[j]? = some t → args[j]? = some v → Value.okWide Try.prog W .any base t v := hval0
  have hW' := hW
  obtain ⟨p, q, hA0, hV, rfl, hfz, hnd⟩ := hW
  have hA : DataW.TrodAll enc Try.prog W 0 (fun _ => true) true Try.f3.params.toList args.toList ds p := hA0
  rw [Try.params3] at hA hval
  obtain ⟨v0, vs0, d0, ds0, p0, q0, hargs, rfl, rfl, h0, r0⟩ := trodAll_cons hA
  obtain ⟨v1, vs1, d1, ds1, p1, q1, rfl, rfl, rfl, h1, r1⟩ := trodAll_cons r0
  obtain ⟨rfl, rfl, rfl⟩ := trodAll_nil r1
  obtain rfl : args = #[v0, v1] := by cases args; simp_all
  obtain ⟨rfl, rfl⟩ := trodVars_none hV
  have k0 := h0
  have lt0 : ∀ x ∈ p0, x.block < W.heap.size := by obtain ⟨m, hm⟩ := k0; exact DataW.trod_lt m _ _ _ hm
  obtain ⟨a0, w0⟩ := in_strs (hval 0 22 v0 rfl rfl) h0 lt0
  obtain ⟨a1, rfl, rfl, rfl, w1⟩ := open_string Try.underlying9 (hval 1 9 v1 rfl rfl) h1
  clear hA0 hval0
  refine (fnExactJoinStrings_walk W v0 a0 w0 a1 w1).mono fun e W' ⟨he, bel⟩ => ?_
  subst he
  exact ⟨_, rfl, _, _, _, [], _, [], hW', trodAll_mk1 (shut_bool Try.underlying4 _), (trodAll_cons_mk (Below.trod laidOut (by kernel_rfl) (of_decide_eq_true (by kernel_rfl)) k0 bel lt0) (trodAll_cons_mk (shut_string Try.underlying9 w1) trodAll_mk0)), rfl, bel.frame _, fun h => by cases h⟩

theorem fnExactJoinStrings_over : Rows.fnExactJoinStringsRow.holds Try.pinned (OpenSpec.ofChange Rows.fnExactJoinStringsSpec) :=
  OpenClaim.holds_of_wide 3 Try.f3 rfl rfl rfl rfl rfl rfl rfl ⟨rfl, rfl, rfl, rfl, rfl⟩ rfl rfl rfl rfl rfl (by kernel_rfl) Try.func3 (by kernel_rfl)
    (of_decide_eq_true (by kernel_rfl)) (by unfold Func.isWrapper; first | (rw [if_pos (by decide +kernel)]; kernel_rfl) | (rw [if_neg (by decide +kernel)]; exact ⟨rfl, rfl⟩))
    (fun os started H enc _ => fnExactJoinStrings_lifted os started H enc)

theorem fnExactJoinStrings_proved : Rows.FnExactJoinStringsSaid := fnExactJoinStrings_over

end Go.Proofs.Ytmepficbmgjpoaa
