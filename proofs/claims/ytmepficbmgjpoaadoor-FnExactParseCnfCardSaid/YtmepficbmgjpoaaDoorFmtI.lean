/- The walks of FormatInt, the program's by the library's contract; the law. -/
import Derived.Test.YtmepficbmgjpoaaDoorNum
import Derived.Test.YtmepficbmgjpoaaDoorShelf
namespace Go.Proofs.YtmepficbmgjpoaaDoor
open Go.RowKit
set_option linter.unusedVariables false

/-- the name of the library's table of powers of ten, out of the given row -/
def powN : String := ((Rows.fnExactFormatIntRow.laid.map (·.1)).getD 2 ((Rows.fnExactFormatIntRow.laid.map (·.1)).getD 0 Rows.fnExactFormatIntRow.func))
/-- the library's table of powers of ten is as its text lays it -/
def Pow (w : World) : Prop := Lib.TabIs Tryd.prog w powN .u64 Lib.pow10Tab
theorem Pow.below {w w' : World} (h : Pow w) (hb : Below w.heap.size w w') : Pow w' := by
  unfold Pow Lib.TabIs World.var? at h ⊢
  cases hg : Tryd.prog.globalNamed powN with
  | none => rw [hg] at h; cases h
  | some g =>
    rw [hg] at h
    simp only [Option.bind_some] at h ⊢
    rcases Nat.lt_or_ge g w.heap.size with hlt | hge
    · rw [hb.block g hlt]; exact h
    · rw [Array.getElem?_eq_none hge] at h; cases h
theorem g_Itoa (n : Int) (hn : -9223372036854775808 ≤ n ∧ n ≤ 9223372036854775807) (w : World) (h : Pow w) :
    Calls Tryd.prog 45 #[.int .i64 n] w fun e w' => e = .returned (.string (bs (Lib.itoa n))) ∧ Below w.heap.size w w' := by
  refine (Any.strconv_Itoa Tryd.laysM171 n hn.1 hn.2 w h).mono ?_
  rintro e w' ⟨rfl, k, os, rfl⟩
  exact ⟨rfl, ⟨rfl, rfl, rfl, by simp, fun k hk => Sort.heap_grow_old _ os (by simpa using hk)⟩⟩
def fmtL (n : Int) : List UInt8 := if inB n (-999999) 999999 then Lib.itoa n else []
theorem I_FormatInt (n : Int) (hn : -9223372036854775808 ≤ n ∧ n ≤ 9223372036854775807) (w : World) (h : Pow w) :
    Calls Tryd.prog 13 #[.int .i64 n] w fun e w' => e = .returned (.tuple #[.string (bs (fmtL n)), .bool (inB n (-999999) 999999)]) ∧ Below w.heap.size w w' := by
  have HG := hide (g_Itoa n hn w h)
  cases hb : inB n (-999999) 999999 with
  | false =>
    have HF := hide (show fmtL n = [] by unfold fmtL; rw [hb]; rfl)
    go_enter Tryd.func13, Tryd.ntmps13
    go_wp2_with fail
    refine (i_within _ _ _ _).mono ?_
    rintro e w1 ⟨rfl, rfl⟩
    rw [hb]
    go_wp2_with fail
    go_ret2
    exact ⟨by rw [HF.out]; rfl, Below.refl _ _⟩
  | true =>
    have HF := hide (show fmtL n = Lib.itoa n by unfold fmtL; rw [hb]; rfl)
    go_enter Tryd.func13, Tryd.ntmps13
    go_wp2_with fail
    refine (i_within _ _ _ _).mono ?_
    rintro e w1 ⟨rfl, rfl⟩
    rw [hb]
    go_wp2_with fail
    refine HG.out.mono ?_
    rintro e w2 ⟨rfl, hb2⟩
    go_wp2_with fail
    go_ret2
    exact ⟨by rw [HF.out]; rfl, hb2⟩
theorem S_FormatInt (n : Int) (w : World) :
    Calls Tryd.prog 12 #[.int .i64 n] w fun e w' => e = .returned (.tuple #[.string (bs (fmtL n)), .bool (inB n (-999999) 999999)]) ∧ Quiet w w' := by
  cases hb : inB n (-999999) 999999 with
  | false =>
    have HF := hide (show fmtL n = [] by unfold fmtL; rw [hb]; rfl)
    go_enter Tryd.func12, Tryd.ntmps12
    go_wp2_with fail
    refine (s_l1In _ _ _ _).mono ?_
    rintro e w1 ⟨rfl, rfl⟩
    rw [hb]
    go_wp2_with fail
    go_ret2
    exact ⟨by rw [HF.out]; rfl, ⟨0, rfl⟩⟩
  | true =>
    have hn : -999999 ≤ n ∧ n ≤ 999999 := by simpa [inB] using hb
    have HG := hide (s_l1Num n w (by omega))
    have HF := hide (show fmtL n = Lib.itoa n by unfold fmtL; rw [hb]; rfl)
    clear hn
    go_enter Tryd.func12, Tryd.ntmps12
    go_wp2_with fail
    refine (s_l1In _ _ _ _).mono ?_
    rintro e w1 ⟨rfl, rfl⟩
    rw [hb]
    go_wp2_with fail
    refine HG.out.mono ?_
    rintro e w2 ⟨rfl, hq⟩
    go_wp2_with fail
    go_ret2
    exact ⟨by rw [HF.out]; rfl, hq⟩
theorem law_FormatInt (n : Int) (hn : -9223372036854775808 ≤ n ∧ n ≤ 9223372036854775807) (w : World) (h : Pow w) :
    Calls Tryd.prog 3 #[.int .i64 n] w fun e w' => e = .returned (.bool true) ∧ Below w.heap.size w w' := by
  have HS := hide (S_FormatInt n w)
  have HP := hide h
  clear h
  obtain ⟨b, hb⟩ : ∃ b, inB n (-999999) 999999 = b := ⟨_, rfl⟩
  rw [hb] at HS
  go_enter Tryd.func3, Tryd.ntmps3
  go_wp2_with fail
  refine HS.out.mono ?_
  rintro e w1 ⟨rfl, hq⟩
  have HI := hide (hb ▸ I_FormatInt n hn w1 (HP.out.below (hq.below _)))
  go_wp2_with fail
  refine HI.out.mono ?_
  rintro e w2 ⟨rfl, hb2⟩
  go_wp2_with fail
  go_ret
  exact ⟨rfl, (hq.below _).trans (hb2.mono (hq.below w.heap.size).size)⟩

end Go.Proofs.YtmepficbmgjpoaaDoor
