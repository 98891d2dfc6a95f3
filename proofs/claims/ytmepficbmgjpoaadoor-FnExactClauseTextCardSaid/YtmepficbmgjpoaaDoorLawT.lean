/- The walks of the laws ClauseText. -/
import Derived.Test.YtmepficbmgjpoaaDoorTxtI
import Derived.ProofKit
import Derived.OpenShut
import Derived.ShutString
import Derived.ChangeOld
import Derived.Below
import Derived.Deep.RegionHeld3
namespace Go.Proofs.YtmepficbmgjpoaaDoor
open Go.ChangeShapes Go.WideShapes Go.ChangeAt Go.RowKit
open Go.ChangeMaps (open_string shut_string)
set_option linter.unusedVariables false

set_option maxRecDepth 100000 in
set_option maxHeartbeats 1600000 in
theorem law_ClauseText (W : World) (a0 : Int) (b0 : -9223372036854775808 ≤ a0 ∧ a0 ≤ 9223372036854775807) (v1 : Value) (a1 : List Int) (in1 : InInts W v1 a1) (hP : Pow W) :
    Calls Tryd.prog 8 #[.int .i64 a0, v1] W fun e w' => e = .returned (.bool true) ∧ Below W.heap.size W w' := by
  obtain ⟨hA1, wf1⟩ := in1
  obtain ⟨A1, c1, rfl, hc1, hm1, hrow1⟩ := id hA1
  unfold maxLen at hm1
  clear hrow1
  have bt := Below.refl W.heap.size W
  by_cases hn1 : a1.length ≤ 1048576
  case neg =>
    go_enter Tryd.func8, Tryd.ntmps8
    go_wp2_with fail
    go_ret
    exact ⟨rfl, bt⟩
  obtain ⟨r0, r1, hR⟩ : ∃ r0 r1, fClauseText a0 a1 = (r0, r1) := ⟨_, _, rfl⟩
  have HR := hide hR
  clear hR
  go_enter Tryd.func8, Tryd.ntmps8
  go_wp2_with fail
  refine (toIntS_any _ _ _ hA1 (by omega)).mono ?_
  rintro e w1 ⟨us1, rfl, hs1, b1⟩
  replace hA1 := hA1.below b1
  have sz1 := b1.size
  replace hP := hP.below b1
  replace bt := bt.trans (b1.mono bt.size)
  clear b1
  go_wp2_with fail
  refine (S_ClauseText _ _ _ _ _ _ hs1.ints hn1 HR.out).mono ?_
  rintro e w2 ⟨rfl, b2⟩
  replace hA1 := hA1.below b2
  replace hs1 := hs1.below b2
  have sz2 := b2.size
  replace hP := hP.below b2
  replace bt := bt.trans (b2.mono bt.size)
  clear b2
  clear hs1
  go_wp2_with fail
  refine (toIntS_any _ _ _ hA1 (by omega)).mono ?_
  rintro e w3 ⟨ux1, rfl, hx1, b3⟩
  replace hA1 := hA1.below b3
  have sz3 := b3.size
  replace hP := hP.below b3
  replace bt := bt.trans (b3.mono bt.size)
  clear b3
  go_wp2_with fail
  refine (I_ClauseText _ _ _ _ _ _ hP hx1.ints hn1 HR.out).mono ?_
  rintro e w4 ⟨rfl, b4⟩
  replace hA1 := hA1.below b4
  replace hx1 := hx1.below b4
  have sz4 := b4.size
  replace hP := hP.below b4
  replace bt := bt.trans (b4.mono bt.size)
  clear b4
  go_wp2_with fail
  refine (toIntS_any _ _ _ hA1 (by omega)).mono ?_
  rintro e w5 ⟨uy1, rfl, hy1, b5⟩
  replace hA1 := hA1.below b5
  replace hx1 := hx1.below b5
  have sz5 := b5.size
  replace hP := hP.below b5
  replace bt := bt.trans (b5.mono bt.size)
  clear b5
  go_wp2_with fail
  refine (eqIntS_yes _ _ _ _ hx1.ints hy1.ints (by omega)).mono ?_
  rintro e w6 ⟨rfl, q6⟩
  have b6 := q6.below w5.heap.size
  clear q6
  replace hA1 := hA1.below b6
  replace hx1 := hx1.below b6
  replace hy1 := hy1.below b6
  have sz6 := b6.size
  replace hP := hP.below b6
  replace bt := bt.trans (b6.mono bt.size)
  clear b6
  clear hy1
  go_wp2_with fail
  go_ret
  exact ⟨rfl, bt⟩

end Go.Proofs.YtmepficbmgjpoaaDoor
