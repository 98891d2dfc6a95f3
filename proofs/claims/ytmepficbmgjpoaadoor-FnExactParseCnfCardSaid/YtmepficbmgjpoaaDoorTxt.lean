/- The walks of the texts of clauses. -/
import Derived.Test.YtmepficbmgjpoaaDoorStrs
import Derived.Test.YtmepficbmgjpoaaDoorBase
import Derived.Test.YtmepficbmgjpoaaDoorPl2
import Derived.Lib.Join
namespace Go.Proofs.YtmepficbmgjpoaaDoor
open Go.RowKit
set_option linter.unusedVariables false

def tailL (c : List Int) : List UInt8 := c.flatMap fun l => 32 :: Lib.itoa l
def textL : List Int → List UInt8
  | [] => [110, 111, 110, 101]
  | x :: r => Lib.itoa x ++ tailL r
theorem itoa_le (l : Int) (h : -12 ≤ l ∧ l ≤ 12) : (Lib.itoa l).length ≤ 14 := by
  unfold Lib.itoa
  split
  · have := decDigits_le l.natAbs
    simp; omega
  · have := decDigits_le l.toNat
    omega
theorem tailL_len : ∀ c : List Int, (∀ l ∈ c, -12 ≤ l ∧ l ≤ 12) → (tailL c).length ≤ 15 * c.length
  | [], _ => by simp [tailL]
  | x :: r, h => by
    have h1 := tailL_len r fun l hl => h l (List.mem_cons_of_mem _ hl)
    have h2 := itoa_le x (h x (by simp))
    have : (tailL (x :: r)).length = (Lib.itoa x).length + 1 + (tailL r).length := by simp [tailL]; omega
    rw [this, List.length_cons]; omega
theorem join_text : ∀ c : List Int, c ≠ [] → Lib.join (c.map Lib.itoa) [32] = textL c
  | [], h => absurd rfl h
  | [x], _ => by simp [Lib.join, List.intercalate, textL, tailL]
  | x :: y :: r, _ => by
    have ih := join_text (y :: r) (by simp)
    have h1 : Lib.join ((x :: y :: r).map Lib.itoa) [32] = Lib.itoa x ++ [32] ++ Lib.join ((y :: r).map Lib.itoa) [32] := by
      simp [Lib.join, List.intercalate]
    rw [h1, ih]
    simp [textL, tailL]

set_option maxHeartbeats 800000 in
theorem s_l2Text {hi : Nat} (v : Value) (c : List Int) (w : World) (h : Ints hi w v c) (hs : ∀ l ∈ c, -12 ≤ l ∧ l ≤ 12) (hn : c.length ≤ 12) :
    Calls Tryd.prog 57 #[v] w fun e w' => e = .returned (.string (bs (textL c))) ∧ Quiet w w' := by
  obtain ⟨A, cp, rfl, hc, hm, hrow⟩ := h
  unfold maxLen at hm
  have HS := hide hs
  clear hs
  by_cases h0 : 0 < c.length
  · obtain ⟨b, off, x, rfl, hx, hcw⟩ := hrow.int (k := 0) h0
    have hcw0 : w.cell? ⟨b, off, none⟩ = some (.int .i64 x) := by simpa using hcw
    have hxs := HS.out x (List.mem_of_getElem? (get_of_drop hx))
    have HN := hide (s_l1Num x w (by omega))
    have HT0 := hide (show textL c = Lib.itoa x ++ tailL (c.drop 1) by
      have h9 : c = x :: c.drop 1 := by simpa using hx
      conv => lhs; rw [h9]
      rfl)
    have HX := hide (itoa_le x hxs)
    have hne : ((c.length : Int) == 0) = false := by rw [beq_eq_false_iff_ne]; omega
    clear hx hcw
    go_enter Tryd.func57, Tryd.ntmps57
    go_wp2_with fail
    refine HN.out.mono ?_
    rintro e w1 ⟨rfl, hq1⟩
    go_wp2_with fail
    go_loopw [3, 4] (fun q i wr => ∃ (k : Nat) (pre : List UInt8), 1 ≤ k ∧ k ≤ c.length ∧ i = .int .i64 k ∧ q = .string (bs pre) ∧ Hid (textL c = pre ++ tailL (c.drop k)) ∧ pre.length ≤ 15 * k ∧ Quiet w wr) (fun _ i _ => c.length - (intOf i).toNat)
    case atStart => exact ⟨1, Lib.itoa x, Nat.le_refl _, h0, rfl, rfl, HT0.out, by have := HX.out; omega, hq1⟩
    case round =>
      obtain ⟨k, pre, hk1, hk, rfl, rfl, hr, hpl, hq⟩ := hrel
      by_cases hlt : k < c.length
      · obtain ⟨b2, off2, y, e9, hy, hcy⟩ := hrow.int hlt
        injection e9 with e9; injection e9 with e10 e11
        subst e10 e11
        rw [← hq.cell] at hcy
        have hys := HS.out y (List.mem_of_getElem? (get_of_drop hy))
        have HNY := hide (s_l1Num y wr (by omega))
        have hyl := itoa_le y hys
        obtain ⟨t, ht⟩ : ∃ t, bs pre ++ ByteArray.mk #[32] = t := ⟨_, rfl⟩
        have htz : t.size = pre.length + 1 := by rw [← ht, ByteArray.size_append, bs_size]; rfl
        have hsz1 : ¬ (9223372036854775807 < (bs pre).size + (ByteArray.mk #[32]).size) := by rw [bs_size, show (ByteArray.mk #[32]).size = 1 from rfl]; omega
        have hsz2 : ¬ (9223372036854775807 < t.size + (bs (Lib.itoa y)).size) := by rw [bs_size]; omega
        have htu : t ++ bs (Lib.itoa y) = bs (pre ++ 32 :: Lib.itoa y) := by
          rw [← ht, show pre ++ 32 :: Lib.itoa y = (pre ++ [32]) ++ Lib.itoa y by simp, ← bs_append, ← bs_append]; rfl
        have HF := hide (show textL c = (pre ++ 32 :: Lib.itoa y) ++ tailL (c.drop (k + 1)) by rw [hr.out, hy]; simp [tailL])
        have HPL := hide (show (pre ++ 32 :: Lib.itoa y).length ≤ 15 * (k + 1) by simp; omega)
        clear hy hr htz hyl
        go_wp2_with fail
        refine HNY.out.mono ?_
        rintro e w2 ⟨rfl, hq2⟩
        go_wp2_with fail
        go_roundw
        case rel => exact ⟨k + 1, _, by omega, by omega, by go_num, rfl, HF.out, HPL.out, hq.trans hq2⟩
        case measure => simp [intOf]; omega
      · obtain rfl : k = c.length := by omega
        have HF := hide (show textL c = pre by rw [hr.out, List.drop_length]; simp [tailL])
        go_wp2_with fail
        go_ret
        exact ⟨by rw [HF.out]; rfl, hq⟩
  · obtain rfl : c = [] := List.eq_nil_of_length_eq_zero (by omega)
    go_enter Tryd.func57, Tryd.ntmps57
    go_wp2_with fail
    go_ret
    exact ⟨rfl, ⟨0, rfl⟩⟩

end Go.Proofs.YtmepficbmgjpoaaDoor
