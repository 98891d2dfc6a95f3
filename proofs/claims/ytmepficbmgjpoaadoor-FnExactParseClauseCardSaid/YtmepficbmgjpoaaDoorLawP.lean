/- The walks of the laws ParseClause. -/
import Derived.Test.YtmepficbmgjpoaaDoorLaidC
import Derived.ProofKit
import Derived.OpenShut
import Derived.ShutString
import Derived.ChangeOld
import Derived.Below
import Derived.Deep.RegionHeld3
namespace Go.Proofs.YtmepficbmgjpoaaDoor
open Go.ChangeShapes Go.WideShapes Go.ChangeAt Go.RowKit
open Go.ChangeMaps (open_string shut_string)
set_option linter.unusedVariables false

set_option maxRecDepth 100000 in
set_option maxHeartbeats 1600000 in
theorem law_ParseClause (W : World) (a0 : Int) (b0 : -9223372036854775808 ≤ a0 ∧ a0 ≤ 9223372036854775807) (a1 : ByteArray) (b1 : a1.size ≤ maxLen) (hP : PowM W) :
    Calls Tryd.prog 9 #[.int .i64 a0, .string a1] W fun e w' => e = .returned (.bool true) ∧ Below W.heap.size W w' := by
  have hPn := hP.room
  unfold maxLen at b1
  have bt := Below.refl W.heap.size W
  by_cases hn1 : a1.size ≤ 1048576
  case neg =>
    go_enter Tryd.func9, Tryd.ntmps9
    go_wp2_with fail
    go_ret
    exact ⟨rfl, bt⟩
  obtain ⟨r0, r1, hR⟩ : ∃ r0 r1, fParseClause a0 a1 = (r0, r1) := ⟨_, _, rfl⟩
  have hl0 := fParseClause_len hR
  have HR := hide hR
  clear hR
  go_enter Tryd.func9, Tryd.ntmps9
  go_wp2_with fail
  refine (S_ParseClause _ _ _ _ _  hn1 HR.out).mono ?_
  rintro e w1 ⟨uw0, rfl, hw0, b1⟩
  have sz1 := b1.size
  replace hP := hP.below b1
  replace bt := bt.trans (b1.mono bt.size)
  clear b1
  go_wp2_with fail
  refine (I_ParseClause _ _ _ _ _ hP  hn1 HR.out).mono ?_
  rintro e w2 ⟨ug0, rfl, hg0, b2⟩
  replace hw0 := hw0.below b2
  have sz2 := b2.size
  replace hP := hP.below b2
  replace bt := bt.trans (b2.mono bt.size)
  clear b2
  go_wp2_with fail
  refine (eqIntS_yes _ _ _ _ hg0.ints hw0.ints (by omega)).mono ?_
  rintro e w3 ⟨rfl, q3⟩
  have b3 := q3.below w2.heap.size
  clear q3
  replace hw0 := hw0.below b3
  replace hg0 := hg0.below b3
  have sz3 := b3.size
  replace hP := hP.below b3
  replace bt := bt.trans (b3.mono bt.size)
  clear b3
  go_wp2_with fail
  refine (markIntS_any _ _ _ _ hg0 (by omega) (by omega) (by omega)).mono ?_
  rintro e w4 ⟨rfl, m4, c4, -⟩
  clear hg0
  replace hw0 := hw0.chg c4 (by omega)
  have sz4 := c4.size
  replace hP := hP.chg c4 (by omega)
  replace bt := below_chg bt c4 (by omega) (Nat.le_refl _)
  clear c4
  go_wp2_with fail
  refine (heldIntS_yes _ _ _ _ m4.ints (by omega) (by omega) (by omega)).mono ?_
  rintro e w5 ⟨rfl, q5⟩
  have b5 := q5.below w4.heap.size
  clear q5
  replace hw0 := hw0.below b5
  replace m4 := m4.below b5
  have sz5 := b5.size
  replace hP := hP.below b5
  replace bt := bt.trans (b5.mono bt.size)
  clear b5
  go_wp2_with fail
  refine (I_ParseClause _ _ _ _ _ hP  hn1 HR.out).mono ?_
  rintro e w6 ⟨uh0, rfl, hh0, b6⟩
  replace hw0 := hw0.below b6
  replace m4 := m4.below b6
  have sz6 := b6.size
  replace hP := hP.below b6
  replace bt := bt.trans (b6.mono bt.size)
  clear b6
  go_wp2_with fail
  refine (eqIntS_yes _ _ _ _ hh0.ints hw0.ints (by omega)).mono ?_
  rintro e w7 ⟨rfl, q7⟩
  have b7 := q7.below w6.heap.size
  clear q7
  replace hw0 := hw0.below b7
  replace m4 := m4.below b7
  replace hh0 := hh0.below b7
  have sz7 := b7.size
  replace hP := hP.below b7
  replace bt := bt.trans (b7.mono bt.size)
  clear b7
  go_wp2_with fail
  refine (heldIntS_yes _ _ _ _ m4.ints (by omega) (by omega) (by omega)).mono ?_
  rintro e w8 ⟨rfl, q8⟩
  have b8 := q8.below w7.heap.size
  clear q8
  replace hw0 := hw0.below b8
  replace m4 := m4.below b8
  replace hh0 := hh0.below b8
  have sz8 := b8.size
  replace hP := hP.below b8
  replace bt := bt.trans (b8.mono bt.size)
  clear b8
  go_wp2_with fail
  go_ret
  exact ⟨rfl, bt⟩

end Go.Proofs.YtmepficbmgjpoaaDoor
