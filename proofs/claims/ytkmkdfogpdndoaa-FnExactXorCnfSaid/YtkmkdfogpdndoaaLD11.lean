/- The laws XorCnf: each returns true for every input, and the arguments read as before. The walks go by the functions' contracts; the rows' steps lie behind them. -/
import Derived.Test.YtkmkdfogpdndoaaCnf
import Derived.Test.YtkmkdfogpdndoaaTopC
import Derived.Test.YtkmkdfogpdndoaaXor
import Derived.ProofKit
import Derived.OpenShut
import Derived.ShutString
import Derived.ChangeOld
import Derived.Below
import Derived.Deep.RegionHeld3
import Derived.Test.YtkmkdfogpdndoaaReg
namespace Go.Proofs.Ytkmkdfogpdndoaa
open Go.ChangeShapes Go.WideShapes Go.ChangeAt Go.RowKit
open Go.ChangeMaps (open_string shut_string)
set_option linter.unusedVariables false

set_option maxRecDepth 100000 in
set_option maxHeartbeats 1600000 in
theorem fnExactXorCnf_walk (W : World) (a0 : Int) (b0 : -9223372036854775808 ≤ a0 ∧ a0 ≤ 9223372036854775807) (v1 : Value) (a1 : List Int) (in1 : InInts W v1 a1) (a2 : Bool) :
    Calls Try.prog 10 #[.int .i64 a0, v1, .bool a2] W fun e w' => e = .returned (.bool true) ∧ Below W.heap.size W w' := by
  obtain ⟨hA1, wf1⟩ := in1
  obtain ⟨A1, c1, rfl, hc1, hm1, hrow1⟩ := id hA1
  unfold maxLen at hm1
  clear hrow1
  have bt := Below.refl W.heap.size W
  by_cases hn1 : a1.length ≤ 1048576
  case neg =>
    go_enter Try.func10, Try.ntmps10
    go_wp2_with fail
    go_ret
    exact ⟨rfl, bt⟩
  obtain ⟨r0, r1, hR⟩ : ∃ r0 r1, fXorCnf a0 a1 a2 = (r0, r1) := ⟨_, _, rfl⟩
  have hl0 := fXorCnf_len hn1 hR
  have hcr0 := cntC_le r0
  have HR := hide hR
  clear hR
  go_enter Try.func10, Try.ntmps10
  go_wp2_with fail
  refine (toIntS_any _ _ _ hA1 (by omega)).mono ?_
  rintro e w1 ⟨us1, rfl, hs1, b1⟩
  replace hA1 := hA1.below b1
  have sz1 := b1.size
  replace bt := bt.trans (b1.mono bt.size)
  clear b1
  go_wp2_with fail
  refine (S_XorCnf _ _ _ _ _ _ _ hs1.ints hn1 HR.out).mono ?_
  rintro e w2 ⟨uw0, rfl, hw0, b2⟩
  replace hA1 := hA1.below b2
  replace hs1 := hs1.below b2
  have sz2 := b2.size
  replace bt := bt.trans (b2.mono bt.size)
  clear b2
  obtain ⟨Brw, Nrw, Drw, rfl, -⟩ := hw0.open2
  have hlit : Below w2.heap.size w2 (w2.alloc (.cells #[.int .i64 r0.1, .slice Brw Nrw Drw] 29)) := (Below.refl _ _).alloc (Nat.le_refl _) _
  obtain ⟨w3, hw3⟩ : ∃ w', w' = w2.alloc (.cells #[.int .i64 r0.1, .slice Brw Nrw Drw] 29) := ⟨_, rfl⟩
  have b3 : Below w2.heap.size w2 w3 := by rw [hw3]; exact (Below.refl _ _).alloc (Nat.le_refl _) _
  have szxrw : w2.heap.size + 1 = w3.heap.size := by rw [hw3]; simp
  replace hA1 := hA1.below b3
  replace hs1 := hs1.below b3
  replace hw0 := hw0.below b3
  have sz3 := b3.size
  replace bt := bt.trans (b3.mono bt.size)
  clear b3
  have pw0 : w3.cell? ⟨w2.heap.size, 0, none⟩ = some (.int .i64 r0.1) := by rw [hw3]; simp
  have pw1 : w3.cell? ⟨w2.heap.size, 1, none⟩ = some (.slice Brw Nrw Drw) := by rw [hw3]; simp
  have HW3 := hide hw3
  clear hw3
  clear hs1
  go_wp2_with fail
  rw [← HW3.out]
  clear hlit 
  refine (toIntS_any _ _ _ hA1 (by omega)).mono ?_
  rintro e w4 ⟨ux1, rfl, hx1, b4⟩
  replace hA1 := hA1.below b4
  replace hw0 := hw0.below b4
  replace pw0 := below_old b4 _ _ pw0
  replace pw1 := below_old b4 _ _ pw1
  have sz4 := b4.size
  replace bt := bt.trans (b4.mono bt.size)
  clear b4
  go_wp2_with fail
  refine (I_XorCnf _ _ _ _ _ _ _ hx1.ints hn1 HR.out).mono ?_
  rintro e w5 ⟨ug0, rfl, hg0, b5⟩
  replace hA1 := hA1.below b5
  replace hw0 := hw0.below b5
  replace hx1 := hx1.below b5
  replace pw0 := below_old b5 _ _ pw0
  replace pw1 := below_old b5 _ _ pw1
  have sz5 := b5.size
  replace bt := bt.trans (b5.mono bt.size)
  clear b5
  obtain ⟨Brg, Nrg, Drg, rfl, -⟩ := hg0.open2
  have hlit : Below w5.heap.size w5 (w5.alloc (.cells #[.int .i64 r0.1, .slice Brg Nrg Drg] 29)) := (Below.refl _ _).alloc (Nat.le_refl _) _
  have Lpw0 := below_old hlit _ _ pw0
  have Epw0 : ¬(w2.heap.size = w5.heap.size) := by omega
  have Lpw1 := below_old hlit _ _ pw1
  obtain ⟨w6, hw6⟩ : ∃ w', w' = w5.alloc (.cells #[.int .i64 r0.1, .slice Brg Nrg Drg] 29) := ⟨_, rfl⟩
  have b6 : Below w5.heap.size w5 w6 := by rw [hw6]; exact (Below.refl _ _).alloc (Nat.le_refl _) _
  have szxrg : w5.heap.size + 1 = w6.heap.size := by rw [hw6]; simp
  replace hA1 := hA1.below b6
  replace hw0 := hw0.below b6
  replace hx1 := hx1.below b6
  replace hg0 := hg0.below b6
  replace pw0 := below_old b6 _ _ pw0
  replace pw1 := below_old b6 _ _ pw1
  have sz6 := b6.size
  replace bt := bt.trans (b6.mono bt.size)
  clear b6
  have pg0 : w6.cell? ⟨w5.heap.size, 0, none⟩ = some (.int .i64 r0.1) := by rw [hw6]; simp
  have pg1 : w6.cell? ⟨w5.heap.size, 1, none⟩ = some (.slice Brg Nrg Drg) := by rw [hw6]; simp
  have HW6 := hide hw6
  clear hw6
  go_wp2_with fail
  rw [← HW6.out]
  clear hlit Lpw0 Epw0 Lpw1
  refine (eqCnf_yes _ _ _ _ hg0.read hw0.read (by omega)).mono ?_
  rintro e w7 ⟨rfl, b7⟩
  replace hA1 := hA1.below b7
  replace hw0 := hw0.below b7
  replace hx1 := hx1.below b7
  replace hg0 := hg0.below b7
  replace pw0 := below_old b7 _ _ pw0
  replace pw1 := below_old b7 _ _ pw1
  replace pg0 := below_old b7 _ _ pg0
  replace pg1 := below_old b7 _ _ pg1
  have sz7 := b7.size
  replace bt := bt.trans (b7.mono bt.size)
  clear b7
  go_wp2_with fail
  refine (toIntS_any _ _ _ hA1 (by omega)).mono ?_
  rintro e w8 ⟨uy1, rfl, hy1, b8⟩
  replace hA1 := hA1.below b8
  replace hw0 := hw0.below b8
  replace hx1 := hx1.below b8
  replace hg0 := hg0.below b8
  replace pw0 := below_old b8 _ _ pw0
  replace pw1 := below_old b8 _ _ pw1
  replace pg0 := below_old b8 _ _ pg0
  replace pg1 := below_old b8 _ _ pg1
  have sz8 := b8.size
  replace bt := bt.trans (b8.mono bt.size)
  clear b8
  go_wp2_with fail
  refine (eqIntS_yes _ _ _ _ hx1.ints hy1.ints (by omega)).mono ?_
  rintro e w9 ⟨rfl, q9⟩
  have b9 := q9.below w8.heap.size
  clear q9
  replace hA1 := hA1.below b9
  replace hw0 := hw0.below b9
  replace hx1 := hx1.below b9
  replace hg0 := hg0.below b9
  replace hy1 := hy1.below b9
  replace pw0 := below_old b9 _ _ pw0
  replace pw1 := below_old b9 _ _ pw1
  replace pg0 := below_old b9 _ _ pg0
  replace pg1 := below_old b9 _ _ pg1
  have sz9 := b9.size
  replace bt := bt.trans (b9.mono bt.size)
  clear b9
  clear hy1
  go_wp2_with fail
  refine (markIntS_any _ _ _ _ hx1 (by omega) (by omega) (by omega)).mono ?_
  rintro e w10 ⟨rfl, m10, c10, -⟩
  clear hx1
  replace hA1 := hA1.chg c10 (by omega)
  replace hw0 := hw0.chg c10 (by omega)
  replace hg0 := hg0.chg c10 (by omega)
  replace pw0 := chg_old c10 pw0 (by first | (simp; omega) | simp)
  replace pw1 := chg_old c10 pw1 (by first | (simp; omega) | simp)
  replace pg0 := chg_old c10 pg0 (by first | (simp; omega) | simp)
  replace pg1 := chg_old c10 pg1 (by first | (simp; omega) | simp)
  have sz10 := c10.size
  replace bt := below_chg bt c10 (by omega) (Nat.le_refl _)
  clear c10
  clear m10
  go_wp2_with fail
  refine (eqCnf_yes _ _ _ _ hg0.read hw0.read (by omega)).mono ?_
  rintro e w11 ⟨rfl, b11⟩
  replace hA1 := hA1.below b11
  replace hw0 := hw0.below b11
  replace hg0 := hg0.below b11
  replace pw0 := below_old b11 _ _ pw0
  replace pw1 := below_old b11 _ _ pw1
  replace pg0 := below_old b11 _ _ pg0
  replace pg1 := below_old b11 _ _ pg1
  have sz11 := b11.size
  replace bt := bt.trans (b11.mono bt.size)
  clear b11
  go_wp2_with fail
  refine (markCnf_any _ _ _ _ hg0 (by omega) (by omega) (by omega)).mono ?_
  rintro e w12 ⟨rfl, m12, c12, -⟩
  clear hg0
  replace hA1 := hA1.chg c12 (by omega)
  replace hw0 := hw0.chg c12 (by omega)
  replace pw0 := chg_old c12 pw0 (by first | (simp; omega) | simp)
  replace pw1 := chg_old c12 pw1 (by first | (simp; omega) | simp)
  replace pg0 := chg_old c12 pg0 (by first | (simp; omega) | simp)
  replace pg1 := chg_old c12 pg1 (by first | (simp; omega) | simp)
  have sz12 := c12.size
  replace bt := below_chg bt c12 (by omega) (Nat.le_refl _)
  clear c12
  go_wp2_with fail
  refine (heldCnf_yes _ _ _ _ m12.read (by omega) (by omega) (by omega)).mono ?_
  rintro e w13 ⟨rfl, b13⟩
  replace hA1 := hA1.below b13
  replace hw0 := hw0.below b13
  replace m12 := m12.below b13
  replace pw0 := below_old b13 _ _ pw0
  replace pw1 := below_old b13 _ _ pw1
  replace pg0 := below_old b13 _ _ pg0
  replace pg1 := below_old b13 _ _ pg1
  have sz13 := b13.size
  replace bt := bt.trans (b13.mono bt.size)
  clear b13
  go_wp2_with fail
  refine (toIntS_any _ _ _ hA1 (by omega)).mono ?_
  rintro e w14 ⟨uz1, rfl, hz1, b14⟩
  replace hA1 := hA1.below b14
  replace hw0 := hw0.below b14
  replace m12 := m12.below b14
  replace pw0 := below_old b14 _ _ pw0
  replace pw1 := below_old b14 _ _ pw1
  replace pg0 := below_old b14 _ _ pg0
  replace pg1 := below_old b14 _ _ pg1
  have sz14 := b14.size
  replace bt := bt.trans (b14.mono bt.size)
  clear b14
  go_wp2_with fail
  refine (I_XorCnf _ _ _ _ _ _ _ hz1.ints hn1 HR.out).mono ?_
  rintro e w15 ⟨uh0, rfl, hh0, b15⟩
  replace hA1 := hA1.below b15
  replace hw0 := hw0.below b15
  replace m12 := m12.below b15
  replace hz1 := hz1.below b15
  replace pw0 := below_old b15 _ _ pw0
  replace pw1 := below_old b15 _ _ pw1
  replace pg0 := below_old b15 _ _ pg0
  replace pg1 := below_old b15 _ _ pg1
  have sz15 := b15.size
  replace bt := bt.trans (b15.mono bt.size)
  clear b15
  obtain ⟨Brh, Nrh, Drh, rfl, -⟩ := hh0.open2
  have hlit : Below w15.heap.size w15 (w15.alloc (.cells #[.int .i64 r0.1, .slice Brh Nrh Drh] 29)) := (Below.refl _ _).alloc (Nat.le_refl _) _
  have Lpw0 := below_old hlit _ _ pw0
  have Epw0 : ¬(w2.heap.size = w15.heap.size) := by omega
  have Lpw1 := below_old hlit _ _ pw1
  have Lpg0 := below_old hlit _ _ pg0
  have Epg0 : ¬(w5.heap.size = w15.heap.size) := by omega
  have Lpg1 := below_old hlit _ _ pg1
  obtain ⟨w16, hw16⟩ : ∃ w', w' = w15.alloc (.cells #[.int .i64 r0.1, .slice Brh Nrh Drh] 29) := ⟨_, rfl⟩
  have b16 : Below w15.heap.size w15 w16 := by rw [hw16]; exact (Below.refl _ _).alloc (Nat.le_refl _) _
  have szxrh : w15.heap.size + 1 = w16.heap.size := by rw [hw16]; simp
  replace hA1 := hA1.below b16
  replace hw0 := hw0.below b16
  replace m12 := m12.below b16
  replace hz1 := hz1.below b16
  replace hh0 := hh0.below b16
  replace pw0 := below_old b16 _ _ pw0
  replace pw1 := below_old b16 _ _ pw1
  replace pg0 := below_old b16 _ _ pg0
  replace pg1 := below_old b16 _ _ pg1
  have sz16 := b16.size
  replace bt := bt.trans (b16.mono bt.size)
  clear b16
  have ph0 : w16.cell? ⟨w15.heap.size, 0, none⟩ = some (.int .i64 r0.1) := by rw [hw16]; simp
  have ph1 : w16.cell? ⟨w15.heap.size, 1, none⟩ = some (.slice Brh Nrh Drh) := by rw [hw16]; simp
  have HW16 := hide hw16
  clear hw16
  clear hz1
  go_wp2_with fail
  rw [← HW16.out]
  clear hlit Lpw0 Epw0 Lpw1 Lpg0 Epg0 Lpg1
  refine (eqCnf_yes _ _ _ _ hh0.read hw0.read (by omega)).mono ?_
  rintro e w17 ⟨rfl, b17⟩
  replace hA1 := hA1.below b17
  replace hw0 := hw0.below b17
  replace m12 := m12.below b17
  replace hh0 := hh0.below b17
  replace pw0 := below_old b17 _ _ pw0
  replace pw1 := below_old b17 _ _ pw1
  replace pg0 := below_old b17 _ _ pg0
  replace pg1 := below_old b17 _ _ pg1
  replace ph0 := below_old b17 _ _ ph0
  replace ph1 := below_old b17 _ _ ph1
  have sz17 := b17.size
  replace bt := bt.trans (b17.mono bt.size)
  clear b17
  go_wp2_with fail
  refine (heldCnf_yes _ _ _ _ m12.read (by omega) (by omega) (by omega)).mono ?_
  rintro e w18 ⟨rfl, b18⟩
  replace hA1 := hA1.below b18
  replace hw0 := hw0.below b18
  replace m12 := m12.below b18
  replace hh0 := hh0.below b18
  replace pw0 := below_old b18 _ _ pw0
  replace pw1 := below_old b18 _ _ pw1
  replace pg0 := below_old b18 _ _ pg0
  replace pg1 := below_old b18 _ _ pg1
  replace ph0 := below_old b18 _ _ ph0
  replace ph1 := below_old b18 _ _ ph1
  have sz18 := b18.size
  replace bt := bt.trans (b18.mono bt.size)
  clear b18
  go_wp2_with fail
  go_ret
  exact ⟨rfl, bt⟩

set_option maxRecDepth 100000 in
theorem fnExactXorCnf_lifted (os : Os) (started : os.Started) (H : Type) (enc : TypeId × Value → H) :
    ReturnsInHanded {} Try.checked os 10 .any (Rows.fnExactXorCnfSpec.pre6 enc Try.prog Try.f10 Rows.fnExactXorCnfRow.domain false) (Rows.fnExactXorCnfSpec.post enc Try.prog Try.f10 false true false false) := by
  refine returnsInHanded_of_change (C := Try.checked) own started (by kernel_rfl) Try.func10
    (ChangeSpec.witness6 (enc := enc) (C := Try.checked) false ⟨#[], #[.int .i64 0, .slice none 0 0, .bool false], []⟩ 8 (by kernel_rfl) (by kernel_rfl) (by kernel_rfl) (by kernel_rfl)) ?_
  intro W base args ds gs before hval0 hW hcnd _
  have hval : ∀ (j : Nat) t v, Try.f10.params[j]? = some t → args[j]? = some v → Value.okWide Try.prog W .any base t v := hval0
  have hW' := hW
  obtain ⟨p, q, hA0, hV, rfl, hfz, hnd⟩ := hW
  have hA : DataW.TrodAll enc Try.prog W 0 (fun _ => true) true Try.f10.params.toList args.toList ds p := hA0
  rw [Try.params10] at hA hval
  obtain ⟨v0, vs0, d0, ds0, p0, q0, hargs, rfl, rfl, h0, r0⟩ := trodAll_cons hA
  obtain ⟨v1, vs1, d1, ds1, p1, q1, rfl, rfl, rfl, h1, r1⟩ := trodAll_cons r0
  obtain ⟨v2, vs2, d2, ds2, p2, q2, rfl, rfl, rfl, h2, r2⟩ := trodAll_cons r1
  obtain ⟨rfl, rfl, rfl⟩ := trodAll_nil r2
  obtain rfl : args = #[v0, v1, v2] := by cases args; simp_all
  obtain ⟨rfl, rfl⟩ := trodVars_none hV
  obtain ⟨a0, rfl, rfl, rfl, w0⟩ := open_int Try.underlying3 (hval 0 3 v0 rfl rfl) h0
  have k1 := h1
  have lt1 : ∀ x ∈ p1, x.block < W.heap.size := by obtain ⟨m, hm⟩ := k1; exact DataW.trod_lt m _ _ _ hm
  obtain ⟨a1, w1⟩ := in_ints (hval 1 25 v1 rfl rfl) h1 lt1
  obtain ⟨a2, rfl, rfl, rfl⟩ := open_bool Try.underlying4 (hval 2 4 v2 rfl rfl) h2
  clear hA0 hval0
  refine (fnExactXorCnf_walk W a0 (bounds_i64 w0) v1 a1 w1 a2).mono fun e W' ⟨he, bel⟩ => ?_
  subst he
  exact ⟨_, rfl, _, _, _, [], _, [], hW', trodAll_mk1 (shut_bool Try.underlying4 _), (trodAll_cons_mk (shut_int Try.underlying3 w0) (trodAll_cons_mk (Below.trod laidOut (by kernel_rfl) (of_decide_eq_true (by kernel_rfl)) k1 bel lt1) (trodAll_cons_mk (shut_bool Try.underlying4 a2) trodAll_mk0))), rfl, bel.frame _, fun h => by cases h⟩

theorem fnExactXorCnf_over : Rows.fnExactXorCnfRow.holds Try.pinned (OpenSpec.ofChange Rows.fnExactXorCnfSpec) :=
  OpenClaim.holds_of_wide 10 Try.f10 rfl rfl rfl rfl rfl rfl rfl ⟨rfl, rfl, rfl, rfl, rfl⟩ rfl rfl rfl rfl rfl (by kernel_rfl) Try.func10 (by kernel_rfl)
    (of_decide_eq_true (by kernel_rfl)) (by unfold Func.isWrapper; first | (rw [if_pos (by decide +kernel)]; kernel_rfl) | (rw [if_neg (by decide +kernel)]; exact ⟨rfl, rfl⟩))
    (fun os started H enc _ => fnExactXorCnf_lifted os started H enc)

theorem fnExactXorCnf_proved : Rows.FnExactXorCnfSaid := fnExactXorCnf_over

end Go.Proofs.Ytkmkdfogpdndoaa
