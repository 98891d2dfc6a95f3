/- The walks of VerifyChecksum; the law. -/
import Derived.Test.YtmepficbmgjpoaaDoorStrs
import Derived.Shelf.Strings.Search2
namespace Go.Proofs.YtmepficbmgjpoaaDoor
open Go.RowKit
set_option linter.unusedVariables false

/-- what stands ahead of the first byte c -/
def headL (c : UInt8) : List UInt8 → List UInt8
  | [] => []
  | b :: r => if b = c then [] else b :: headL c r
theorem headL_idx (c : UInt8) : ∀ l : List UInt8, (Lib.indexByte l c = -1 ∧ headL c l = l) ∨ ∃ i : Nat, Lib.indexByte l c = i ∧ i < l.length ∧ headL c l = l.take i
  | [] => .inl ⟨rfl, rfl⟩
  | b :: r => by
    by_cases h : b = c
    · right
      refine ⟨0, ?_, by simp, by simp [headL, h]⟩
      rw [Lib.indexByte]; simp [h]
    · have h1 : (b == c) = false := by simpa using h
      rcases headL_idx c r with ⟨h2, h3⟩ | ⟨i, h2, h3, h4⟩
      · left
        rw [Lib.indexByte, h1, h2, headL, if_neg h, h3]
        exact ⟨rfl, rfl⟩
      · right
        refine ⟨i + 1, ?_, by simp; omega, by rw [headL, if_neg h, h4]; rfl⟩
        rw [Lib.indexByte, h1, h2]
        have : ((i : Int) == -1) = false := by rw [beq_eq_false_iff_ne]; omega
        simp [this]
theorem headL_spl (c : UInt8) : ∀ (l cur : List UInt8), ∃ ps, spl c cur l = (cur ++ headL c l) :: ps
  | [], cur => ⟨[], by simp [spl, headL]⟩
  | b :: r, cur => by
    by_cases h : b = c
    · exact ⟨spl c [] r, by rw [spl, if_pos h, headL, if_pos h]; simp⟩
    · obtain ⟨ps, hp⟩ := headL_spl c r (cur ++ [b])
      exact ⟨ps, by rw [spl, if_neg h, hp, headL, if_neg h]; simp⟩
theorem headL_has (c : UInt8) : ∀ l : List UInt8, hasB (headL c l) c = false
  | [] => rfl
  | b :: r => by
    rw [headL]
    by_cases h : b = c
    · rw [if_pos h]; rfl
    · have := headL_has c r
      unfold hasB at this ⊢
      rw [if_neg h, List.contains_cons, this]
      simpa using fun e => h e.symm
theorem headL_len (c : UInt8) : ∀ l : List UInt8, (headL c l).length ≤ l.length
  | [] => Nat.le_refl _
  | b :: r => by
    have := headL_len c r
    rw [headL]
    split
    · simp
    · simp; omega
def headB (s : ByteArray) : ByteArray := bs (headL 35 s.data.toList)
theorem headB_size (s : ByteArray) : (headB s).size ≤ s.size := by
  unfold headB
  rw [bs_size]
  have := headL_len 35 s.data.toList
  simpa using this
def fVer (s : ByteArray) : ByteArray × Bool := if decide (s.size ≤ 4000) && decide (sealB (headB s) = s) then (headB s, true) else (ByteArray.mk #[], false)
theorem fVer_app (s : ByteArray) : fVer s = if okB (headB s) && decide (sealB (headB s) = s) then (headB s, true) else (ByteArray.mk #[], false) := by
  unfold fVer
  by_cases h : sealB (headB s) = s
  · have hh : hasB (headB s).data.toList 35 = false := by unfold headB; exact headL_has 35 s.data.toList
    have hz := seal_size (headB s)
    rw [h] at hz
    unfold okB
    rw [hh, h]
    by_cases h4 : s.size ≤ 4000
    · simp [h4, show (headB s).size ≤ 4000 by omega]
    · simp [h4]
  · simp [h]

set_option maxHeartbeats 400000 in
theorem g_CutHash (s : ByteArray) (w : World) (hs : s.size ≤ 1048576) :
    Calls Tryd.prog 79 #[.string s, .string (ByteArray.mk #[35])] w fun e w' => ∃ v2 b3, e = .returned (.tuple #[.string (headB s), .string v2, .bool b3]) ∧ Quiet w w' := by
  have HI := hide (show Calls Tryd.prog 96 #[.string s, .string (ByteArray.mk #[35])] w fun e w' => e = .returned (.int .i64 (Lib.indexByte s.data.toList 35)) ∧ w' = w from Any.stringslite_Index_one Tryd.lays219 s 35 w)
  rcases headL_idx 35 s.data.toList with ⟨h1, h2⟩ | ⟨i, h1, h2, h3⟩
  · have HF := hide (show headB s = s by unfold headB; rw [h2, bs_list])
    rw [h1] at HI
    clear h1 h2
    go_enter Tryd.func79, Tryd.ntmps79
    go_wp2_with fail
    refine HI.out.mono ?_
    rintro e w1 ⟨rfl, rfl⟩
    go_wp2_with fail
    refine bodyPost_ret (v := .tuple #[.string s, .string (ByteArray.mk #[]), .bool false]) (by first | rfl | simp [results, Tryd.results79, go_sem]) rfl ⟨_, _, by rw [HF.out], ⟨0, rfl⟩⟩
  · have hsz : i < s.size := by simpa using h2
    have hex : s.extract 0 i = headB s := by unfold headB; rw [extract_bs, h3]; rfl
    rw [h1] at HI
    have b1 : (0 : Int) ≤ (i : Int) := by omega
    have b2 : (i : Int) ≤ (s.size : Int) := by omega
    have b3 : (i : Int) + 1 ≤ (s.size : Int) := by omega
    have b4 : IntKind.i64.wrap ((i : Int) + 1) = (i : Int) + 1 := by rw [IntKind.wrap_i64]; omega
    have b5 : (0 : Int) ≤ (i : Int) + 1 := by omega
    clear h1 h2 h3
    go_enter Tryd.func79, Tryd.ntmps79
    go_wp2_with fail
    refine HI.out.mono ?_
    rintro e w1 ⟨rfl, rfl⟩
    go_wp2_with fail
    go_quiet (fail)
    go_wp2_with fail
    refine bodyPost_ret (v := .tuple #[.string (headB s), .string (s.extract (i + 1) s.size), .bool true]) (by first | rfl | simp [results, Tryd.results79, go_sem]) rfl ⟨_, _, rfl, ⟨_, rfl⟩⟩

theorem g_Cut (s : ByteArray) (w : World) (hs : s.size ≤ 1048576) :
    Calls Tryd.prog 55 #[.string s, .string (ByteArray.mk #[35])] w fun e w' => ∃ v2 b3, e = .returned (.tuple #[.string (headB s), .string v2, .bool b3]) ∧ Quiet w w' := by
  go_enter Tryd.func55, Tryd.ntmps55
  go_wp2_with fail
  refine (g_CutHash s w hs).mono ?_
  rintro e w1 ⟨v2, b3, rfl, hq⟩
  go_wp2_with fail
  refine bodyPost_ret (v := .tuple #[.string (headB s), .string v2, .bool b3]) (by first | rfl | simp [results, Tryd.results55, go_sem]) rfl ⟨_, _, rfl, hq⟩

theorem beq_bytes (a b : ByteArray) : (a.toList == b.toList) = decide (a = b) := by
  by_cases h : a = b
  · subst h; simp
  · have : a.toList ≠ b.toList := fun e => h (by rw [Lib.toList_data, Lib.toList_data] at e; exact ByteArray.ext (Array.toList_inj.1 e))
    simp [h, this]

set_option maxHeartbeats 400000 in
theorem S_Ver (s : ByteArray) (r0 : ByteArray) (r1 : Bool) (w : World) (hs : s.size ≤ 1048576) (hR : fVer s = (r0, r1)) :
    Calls Tryd.prog 23 #[.string s] w fun e w' => e = .returned (.tuple #[.string r0, .bool r1]) ∧ Below w.heap.size w w' := by
  by_cases h1 : s.size ≤ 4000
  · have hc1 : ¬ ((4000 : Int) < (s.size : Int)) := by omega
    have HSP := hide (s_l1Split s 35 w hs)
    have HSE := hide (fun w => s_l1Seal (headB s) w (by have := headB_size s; omega))
    obtain ⟨ps, hps⟩ := headL_spl 35 s.data.toList []
    have hps' : (spl 35 [] s.data.toList).map bs = headB s :: ps.map bs := by rw [hps]; rfl
    rw [hps'] at HSP
    obtain ⟨b, hb⟩ : ∃ b, decide (sealB (headB s) = s) = b := ⟨_, rfl⟩
    have hne : ((sealB (headB s)).toList == s.toList) = b := by rw [beq_bytes, hb]
    have hRR : (if b then (headB s, true) else (ByteArray.mk #[], false)) = (r0, r1) := by rw [← hR]; unfold fVer; rw [decide_eq_true h1, hb]; rfl
    have HR := hide hRR
    clear hR hRR hps hps' hb
    go_enter Tryd.func23, Tryd.ntmps23
    go_wp2_with fail
    refine HSP.out.mono ?_
    rintro e w1 ⟨v1, rfl, hown, hb1⟩
    obtain ⟨A, c, rfl, hc, hm, hrow⟩ := hown.own
    obtain ⟨g, off, rfl, -, -, hcell⟩ := hrow (by simp)
    have hc0 : w1.cell? ⟨g, off, none⟩ = some (.string (headB s)) := by simpa using (hcell 0 (.string (headB s)) (by simp)).1
    have hl0 : (0 : Int) < ((headB s :: ps.map bs).length : Int) := by simp
    obtain ⟨L, hL⟩ : ∃ L, (headB s :: ps.map bs).length = L := ⟨_, rfl⟩
    rw [hL] at hl0 ⊢
    clear hcell hrow hown hc hL
    go_wp2_with fail
    refine (HSE.out _).mono ?_
    rintro e w2 ⟨rfl, m, rfl⟩
    cases b with
    | true =>
      obtain ⟨rfl, rfl⟩ : r0 = headB s ∧ r1 = true := by have h9 := HR.out; simp only [if_true] at h9; injection h9 with e1 e2; exact ⟨e1.symm, e2.symm⟩
      go_wp2_with fail
      go_ret2
      exact ⟨rfl, below_drewN hb1 _⟩
    | false =>
      obtain ⟨rfl, rfl⟩ : r0 = ByteArray.mk #[] ∧ r1 = false := by have h9 := HR.out; simp only [Bool.false_eq_true, if_false] at h9; injection h9 with e1 e2; exact ⟨e1.symm, e2.symm⟩
      go_wp2_with fail
      go_ret2
      exact ⟨rfl, below_drewN hb1 _⟩
  · obtain ⟨rfl, rfl⟩ : r0 = ByteArray.mk #[] ∧ r1 = false := by simpa [fVer, h1, eq_comm] using hR
    have hc1 : (4000 : Int) < (s.size : Int) := by omega
    clear hR
    go_enter Tryd.func23, Tryd.ntmps23
    go_wp2_with fail
    go_ret2
    exact ⟨rfl, Below.refl _ _⟩

set_option maxHeartbeats 400000 in
theorem I_Ver (s : ByteArray) (r0 : ByteArray) (r1 : Bool) (w : World) (hs : s.size ≤ 1048576) (hP : Pow w) (hR : fVer s = (r0, r1)) :
    Calls Tryd.prog 24 #[.string s] w fun e w' => e = .returned (.tuple #[.string r0, .bool r1]) ∧ Below w.heap.size w w' := by
  rw [fVer_app] at hR
  have HAP := hide (fun (w1 : World) (h : Pow w1) (a0 : ByteArray) (a1 : Bool) (hA : fApp (headB s) = (a0, a1)) => I_App (headB s) a0 a1 w1 (by have := headB_size s; omega) h hA)
  have HP := hide (fun m => hP.below (show Below w.heap.size w (w.drewN m) from below_drewN (Below.refl _ _) m))
  cases hok : okB (headB s) with
  | false =>
    obtain ⟨rfl, rfl⟩ : r0 = ByteArray.mk #[] ∧ r1 = false := by simpa [hok, eq_comm] using hR
    have HA := hide (show fApp (headB s) = (ByteArray.mk #[], false) by unfold fApp; rw [hok]; rfl)
    clear hR
    go_enter Tryd.func24, Tryd.ntmps24
    go_wp2_with fail
    refine (g_Cut s w hs).mono ?_
    rintro e w1 ⟨v2, b3, rfl, m, rfl⟩
    go_wp2_with fail
    refine (HAP.out _ (HP.out m) _ _ HA.out).mono ?_
    rintro e w2 ⟨rfl, hb2⟩
    go_wp2_with fail
    go_ret2
    exact ⟨rfl, (below_drewN (Below.refl _ _) m).trans hb2⟩
  | true =>
    obtain ⟨b, hb⟩ : ∃ b, decide (sealB (headB s) = s) = b := ⟨_, rfl⟩
    have hne : ((sealB (headB s)).toList == s.toList) = b := by rw [beq_bytes, hb]
    have HA := hide (show fApp (headB s) = (sealB (headB s), true) by unfold fApp; rw [hok]; rfl)
    rw [hok, hb] at hR
    cases b with
    | true =>
      obtain ⟨rfl, rfl⟩ : r0 = headB s ∧ r1 = true := by simpa [eq_comm] using hR
      clear hR hb
      go_enter Tryd.func24, Tryd.ntmps24
      go_wp2_with fail
      refine (g_Cut s w hs).mono ?_
      rintro e w1 ⟨v2, b3, rfl, m, rfl⟩
      go_wp2_with fail
      refine (HAP.out _ (HP.out m) _ _ HA.out).mono ?_
      rintro e w2 ⟨rfl, hb2⟩
      go_wp2_with fail
      go_ret2
      exact ⟨rfl, (below_drewN (Below.refl _ _) m).trans hb2⟩
    | false =>
      obtain ⟨rfl, rfl⟩ : r0 = ByteArray.mk #[] ∧ r1 = false := by simpa [eq_comm] using hR
      clear hR hb
      go_enter Tryd.func24, Tryd.ntmps24
      go_wp2_with fail
      refine (g_Cut s w hs).mono ?_
      rintro e w1 ⟨v2, b3, rfl, m, rfl⟩
      go_wp2_with fail
      refine (HAP.out _ (HP.out m) _ _ HA.out).mono ?_
      rintro e w2 ⟨rfl, hb2⟩
      go_wp2_with fail
      go_ret2
      exact ⟨rfl, (below_drewN (Below.refl _ _) m).trans hb2⟩

theorem law_VerifyChecksum (s : ByteArray) (hw : s.size ≤ maxLen) (w : World) (h : Pow w) :
    Calls Tryd.prog 7 #[.string s] w fun e w' => e = .returned (.bool true) ∧ Below w.heap.size w w' := by
  unfold maxLen at hw
  by_cases hs : s.size ≤ 1048576
  · have hc : ¬ ((1048576 : Int) < (s.size : Int)) := by omega
    obtain ⟨⟨r0, r1⟩, hR⟩ : ∃ r, fVer s = r := ⟨_, rfl⟩
    have HS := hide (S_Ver s r0 r1 w hs hR)
    have HP := hide h
    have HRR := hide hR
    clear h hR
    go_enter Tryd.func7, Tryd.ntmps7
    go_wp2_with fail
    refine HS.out.mono ?_
    rintro e w1 ⟨rfl, hb1⟩
    have HI := hide (I_Ver s r0 r1 w1 hs (HP.out.below hb1) HRR.out)
    go_wp2_with fail
    refine HI.out.mono ?_
    rintro e w2 ⟨rfl, hb2⟩
    go_wp2_with fail
    go_ret
    exact ⟨rfl, hb1.trans (hb2.mono hb1.size)⟩
  · have hc : (1048576 : Int) < (s.size : Int) := by omega
    go_enter Tryd.func7, Tryd.ntmps7
    go_wp2_with fail
    go_ret
    exact ⟨rfl, Below.refl _ _⟩

end Go.Proofs.YtmepficbmgjpoaaDoor
