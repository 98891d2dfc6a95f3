/- The walks of AppendChecksum; the law. -/
import Derived.Test.YtmepficbmgjpoaaDoorFmtI
import Derived.Test.YtmepficbmgjpoaaDoorSum
namespace Go.Proofs.YtmepficbmgjpoaaDoor
open Go.RowKit
set_option linter.unusedVariables false

def hasB (l : List UInt8) (c : UInt8) : Bool := l.contains c
theorem indexByte_has (c : UInt8) : ∀ l : List UInt8, decide (0 ≤ Lib.indexByte l c) = hasB l c
  | [] => rfl
  | b :: r => by
    have ih := indexByte_has c r
    unfold hasB at ih ⊢
    rw [Lib.indexByte, List.contains_cons]
    by_cases h : b = c
    · subst h; simp
    · have h1 : (b == c) = false := by simpa using h
      have h2 : (c == b) = false := by simpa using fun e => h e.symm
      rw [h1, h2, ← ih]
      simp only [Bool.false_or, Bool.false_eq_true, if_false]
      by_cases h3 : Lib.indexByte r c = -1
      · simp [h3]
      · have h4 : (Lib.indexByte r c == -1) = false := by simpa using h3
        rw [h4]
        simp only [Bool.false_eq_true, if_false]
        have h5 : -1 ≤ Lib.indexByte r c := by
          have : ∀ l : List UInt8, -1 ≤ Lib.indexByte l c := by
            intro l
            induction l with
            | nil => simp [Lib.indexByte]
            | cons x l ih =>
              rw [Lib.indexByte]
              split
              · omega
              · split
                · omega
                · omega
          exact this r
        by_cases h6 : 0 ≤ Lib.indexByte r c
        · rw [decide_eq_true h6, decide_eq_true (by omega)]
        · omega
def sealB (s : ByteArray) : ByteArray := s ++ ByteArray.mk #[35] ++ bs (Lib.itoa (sumL 7 s.data.toList))
theorem seal_size (s : ByteArray) : (sealB s).size = s.size + 1 + (Lib.itoa (sumL 7 s.data.toList)).length := by
  unfold sealB
  rw [ByteArray.size_append, ByteArray.size_append, bs_size]
  rfl
theorem itoa_len (n : Int) (hn : 0 ≤ n ∧ n ≤ 999999) : (Lib.itoa n).length ≤ 1000001 := by
  unfold Lib.itoa
  rw [if_neg (by omega)]
  have := decDigits_le n.toNat
  omega

set_option maxHeartbeats 400000 in
theorem s_l1Stands (s : ByteArray) (c : UInt8) (w : World) (hs : s.size ≤ 1048576) :
    Calls Tryd.prog 51 #[.string s, .int .u8 c.toNat] w fun e w' => e = .returned (.bool (hasB s.data.toList c)) ∧ w = w' := by
  go_enter Tryd.func51, Tryd.ntmps51
  go_wp2_with fail
  go_loop [5] (fun i => ∃ k : Nat, k ≤ s.size ∧ i = .int .i64 k ∧ Hid (hasB s.data.toList c = hasB (s.data.toList.drop k) c)) (fun i => s.size - (intOf i).toNat)
  case atStart => exact ⟨0, Nat.zero_le _, rfl, rfl⟩
  case round =>
    obtain ⟨k, hk, rfl, hr⟩ := hrel
    by_cases hlt : k < s.size
    · have hst : hasB s.data.toList c = (c == s[k] || hasB (s.data.toList.drop (k + 1)) c) := by rw [hr.out, byte_drop s k hlt]; unfold hasB; rw [List.contains_cons]
      by_cases he : s[k] = c
      · have he' : (((s[k]).toNat : Int) == (c.toNat : Int)) = true := by simp [he]
        have HF := hide (show hasB s.data.toList c = true by rw [hst]; simp [he])
        clear hst
        go_wp2_with fail
        go_ret
        exact ⟨ret_bool HF.out.symm, rfl⟩
      · have hne : (s[k]).toNat ≠ c.toNat := fun e => he (UInt8.toNat_inj.1 e)
        have he' : (((s[k]).toNat : Int) == (c.toNat : Int)) = false := by simp; omega
        have HF := hide (show hasB s.data.toList c = hasB (s.data.toList.drop (k + 1)) c by
          rw [hst]
          have : (c == s[k]) = false := by simpa using fun e => he e.symm
          rw [this]; rfl)
        clear hst
        go_wp2_with fail
        go_round
        case rel => exact ⟨k + 1, by omega, by go_num, HF.out⟩
        case measure => simp [intOf]; omega
    · obtain rfl : k = s.size := by omega
      have HF := hide (show hasB s.data.toList c = false by rw [hr.out, List.drop_of_length_le (by simp)]; rfl)
      go_wp2_with fail
      go_ret
      exact ⟨ret_bool HF.out.symm, rfl⟩

set_option maxHeartbeats 400000 in
theorem s_l1Seal (s : ByteArray) (w : World) (hs : s.size ≤ 1048576) :
    Calls Tryd.prog 52 #[.string s] w fun e w' => e = .returned (.string (sealB s)) ∧ Quiet w w' := by
  obtain ⟨n, hn⟩ : ∃ n, sumL 7 s.data.toList = n := ⟨_, rfl⟩
  have hb := sumL_lt s.data.toList 7 (by omega) (by omega)
  rw [hn] at hb
  have HS := hide (hn ▸ s_l1Sum s w hs)
  have HN := hide (s_l1Num n w (by omega))
  obtain ⟨t, ht⟩ : ∃ t, s ++ ByteArray.mk #[35] = t := ⟨_, rfl⟩
  have htz : t.size = s.size + 1 := by rw [← ht, ByteArray.size_append]; rfl
  have hl := itoa_len n (by omega)
  have hsz1 : ¬ (9223372036854775807 < s.size + (ByteArray.mk #[35]).size) := by rw [show (ByteArray.mk #[35]).size = 1 from rfl]; omega
  have hsz2 : ¬ (9223372036854775807 < t.size + (bs (Lib.itoa n)).size) := by rw [bs_size]; omega
  have HF := hide (show t ++ bs (Lib.itoa n) = sealB s by unfold sealB; rw [hn, ht])
  clear hl htz hn
  go_enter Tryd.func52, Tryd.ntmps52
  go_wp2_with fail
  refine HS.out.mono ?_
  rintro e w1 ⟨rfl, rfl⟩
  go_wp2_with fail
  refine HN.out.mono ?_
  rintro e w1 ⟨rfl, hq⟩
  go_wp2_with fail
  go_ret
  exact ⟨by rw [← HF.out]; rfl, hq⟩

def okB (s : ByteArray) : Bool := decide (s.size ≤ 4000) && !hasB s.data.toList 35 && decide ((sealB s).size ≤ 4000)
def fApp (s : ByteArray) : ByteArray × Bool := if okB s then (sealB s, true) else (ByteArray.mk #[], false)

set_option maxHeartbeats 400000 in
theorem S_App (s : ByteArray) (r0 : ByteArray) (r1 : Bool) (w : World) (hs : s.size ≤ 1048576) (hR : fApp s = (r0, r1)) :
    Calls Tryd.prog 21 #[.string s] w fun e w' => e = .returned (.tuple #[.string r0, .bool r1]) ∧ Quiet w w' := by
  by_cases h1 : s.size ≤ 4000
  · have HST := hide (fun w => s_l1Stands s 35 w hs)
    have hc1 : ¬ ((4000 : Int) < (s.size : Int)) := by omega
    cases h2 : hasB s.data.toList 35 with
    | true =>
      obtain ⟨rfl, rfl⟩ : r0 = ByteArray.mk #[] ∧ r1 = false := by simpa [fApp, okB, h1, h2, eq_comm] using hR
      clear hR
      go_enter Tryd.func21, Tryd.ntmps21
      go_wp2_with (go_at_call 51; refine (HST.out _).mono ?_; rintro e w1 ⟨rfl, rfl⟩; rw [h2])
      go_ret2
      exact ⟨rfl, ⟨0, rfl⟩⟩
    | false =>
      obtain ⟨u, hu⟩ : ∃ u, sealB s = u := ⟨_, rfl⟩
      have HSE := hide (fun w => hu ▸ s_l1Seal s w hs)
      by_cases h3 : u.size ≤ 4000
      · obtain ⟨hr0, rfl⟩ : r0 = u ∧ r1 = true := by simpa [fApp, okB, h1, h2, hu, h3, eq_comm] using hR
        subst hr0
        have hc3 : ¬ ((4000 : Int) < (r0.size : Int)) := by omega
        clear hR hu
        go_enter Tryd.func21, Tryd.ntmps21
        go_wp2_with fail
        refine (HST.out _).mono ?_
        rintro e w1 ⟨rfl, rfl⟩
        rw [h2]
        go_wp2_with fail
        refine (HSE.out _).mono ?_
        rintro e w1 ⟨rfl, m, rfl⟩
        go_wp2_with fail
        refine (HSE.out _).mono ?_
        rintro e w1 ⟨rfl, m2, rfl⟩
        go_wp2_with fail
        go_ret2
        exact ⟨rfl, ⟨_, rfl⟩⟩
      · obtain ⟨rfl, rfl⟩ : r0 = ByteArray.mk #[] ∧ r1 = false := by simpa [fApp, okB, h1, h2, hu, h3, eq_comm] using hR
        have hc3 : (4000 : Int) < (u.size : Int) := by omega
        clear hR hu
        go_enter Tryd.func21, Tryd.ntmps21
        go_wp2_with fail
        refine (HST.out _).mono ?_
        rintro e w1 ⟨rfl, rfl⟩
        rw [h2]
        go_wp2_with fail
        refine (HSE.out _).mono ?_
        rintro e w1 ⟨rfl, m, rfl⟩
        go_wp2_with fail
        go_ret2
        exact ⟨rfl, ⟨_, rfl⟩⟩
  · obtain ⟨rfl, rfl⟩ : r0 = ByteArray.mk #[] ∧ r1 = false := by simpa [fApp, okB, h1, eq_comm] using hR
    have hc1 : (4000 : Int) < (s.size : Int) := by omega
    clear hR
    go_enter Tryd.func21, Tryd.ntmps21
    go_wp2_with fail
    go_ret2
    exact ⟨rfl, ⟨0, rfl⟩⟩

theorem g_ContainsHash (s : ByteArray) (w : World) :
    Calls Tryd.prog 54 #[.string s, .string (ByteArray.mk #[35])] w fun e w' => e = .returned (.bool (hasB s.data.toList 35)) ∧ w' = w := by
  rw [← indexByte_has]
  exact Any.strings_Contains_one Tryd.lays144 s 35 w

set_option maxHeartbeats 400000 in
theorem I_App (s : ByteArray) (r0 : ByteArray) (r1 : Bool) (w : World) (hs : s.size ≤ 1048576) (hP : Pow w) (hR : fApp s = (r0, r1)) :
    Calls Tryd.prog 22 #[.string s] w fun e w' => e = .returned (.tuple #[.string r0, .bool r1]) ∧ Below w.heap.size w w' := by
  by_cases h1 : s.size ≤ 4000
  · obtain ⟨n, hn⟩ : ∃ n, sumL 7 s.data.toList = n := ⟨_, rfl⟩
    have hb := sumL_lt s.data.toList 7 (by omega) (by omega)
    rw [hn] at hb
    have HCK := hide (I_Checksum s n true w hs (by simp [fChecksum, h1, hn]))
    cases h2 : hasB s.data.toList 35 with
    | true =>
      obtain ⟨rfl, rfl⟩ : r0 = ByteArray.mk #[] ∧ r1 = false := by simpa [fApp, okB, h1, h2, eq_comm] using hR
      clear hR
      go_enter Tryd.func22, Tryd.ntmps22
      go_wp2_with fail
      refine HCK.out.mono ?_
      rintro e w1 ⟨rfl, hb1⟩
      go_wp2_with fail
      refine (g_ContainsHash s w1).mono ?_
      rintro e w2 ⟨rfl, rfl⟩
      rw [h2]
      go_wp2_with fail
      go_ret2
      exact ⟨rfl, hb1⟩
    | false =>
      obtain ⟨u, hu⟩ : ∃ u, sealB s = u := ⟨_, rfl⟩
      obtain ⟨t, ht⟩ : ∃ t, s ++ ByteArray.mk #[35] = t := ⟨_, rfl⟩
      have htz : t.size = s.size + 1 := by rw [← ht, ByteArray.size_append]; rfl
      have hl := itoa_len n (by omega)
      have hsz1 : ¬ (9223372036854775807 < s.size + (ByteArray.mk #[35]).size) := by rw [show (ByteArray.mk #[35]).size = 1 from rfl]; omega
      have hsz2 : ¬ (9223372036854775807 < t.size + (bs (Lib.itoa n)).size) := by rw [bs_size]; omega
      have htu : t ++ bs (Lib.itoa n) = u := by rw [← hu]; unfold sealB; rw [hn, ht]
      have HG := hide (fun w1 (h : Below w.heap.size w w1) => g_Itoa n (by omega) w1 (hP.below h))
      by_cases h3 : u.size ≤ 4000
      · obtain ⟨hr0, rfl⟩ : r0 = u ∧ r1 = true := by simpa [fApp, okB, h1, h2, hu, h3, eq_comm] using hR
        subst hr0
        have hc3 : ¬ ((4000 : Int) < (r0.size : Int)) := by omega
        clear hR hu hn hl htz
        go_enter Tryd.func22, Tryd.ntmps22
        go_wp2_with fail
        refine HCK.out.mono ?_
        rintro e w1 ⟨rfl, hb1⟩
        go_wp2_with fail
        refine (g_ContainsHash s w1).mono ?_
        rintro e w2 ⟨rfl, rfl⟩
        rw [h2]
        go_wp2_with fail
        refine (HG.out _ hb1).mono ?_
        rintro e w3 ⟨rfl, hb3⟩
        go_wp2_with fail
        go_ret2
        exact ⟨rfl, hb1.trans (hb3.mono hb1.size)⟩
      · obtain ⟨rfl, rfl⟩ : r0 = ByteArray.mk #[] ∧ r1 = false := by simpa [fApp, okB, h1, h2, hu, h3, eq_comm] using hR
        have hc3 : (4000 : Int) < (u.size : Int) := by omega
        clear hR hu hn hl htz
        go_enter Tryd.func22, Tryd.ntmps22
        go_wp2_with fail
        refine HCK.out.mono ?_
        rintro e w1 ⟨rfl, hb1⟩
        go_wp2_with fail
        refine (g_ContainsHash s w1).mono ?_
        rintro e w2 ⟨rfl, rfl⟩
        rw [h2]
        go_wp2_with fail
        refine (HG.out _ hb1).mono ?_
        rintro e w3 ⟨rfl, hb3⟩
        go_wp2_with fail
        go_ret2
        exact ⟨rfl, hb1.trans (hb3.mono hb1.size)⟩
  · obtain ⟨rfl, rfl⟩ : r0 = ByteArray.mk #[] ∧ r1 = false := by simpa [fApp, okB, h1, eq_comm] using hR
    have HCK := hide (I_Checksum s 0 false w hs (by simp [fChecksum, h1]))
    clear hR
    go_enter Tryd.func22, Tryd.ntmps22
    go_wp2_with fail
    refine HCK.out.mono ?_
    rintro e w1 ⟨rfl, hb1⟩
    go_wp2_with fail
    go_ret2
    exact ⟨rfl, hb1⟩

theorem law_AppendChecksum (s : ByteArray) (hw : s.size ≤ maxLen) (w : World) (h : Pow w) :
    Calls Tryd.prog 6 #[.string s] w fun e w' => e = .returned (.bool true) ∧ Below w.heap.size w w' := by
  unfold maxLen at hw
  by_cases hs : s.size ≤ 1048576
  · have hc : ¬ ((1048576 : Int) < (s.size : Int)) := by omega
    obtain ⟨⟨r0, r1⟩, hR⟩ : ∃ r, fApp s = r := ⟨_, rfl⟩
    have HS := hide (S_App s r0 r1 w hs hR)
    have HP := hide h
    have HRR := hide hR
    clear h hR
    go_enter Tryd.func6, Tryd.ntmps6
    go_wp2_with fail
    refine HS.out.mono ?_
    rintro e w1 ⟨rfl, hq⟩
    have HI := hide (I_App s r0 r1 w1 hs (HP.out.below (hq.below _)) HRR.out)
    go_wp2_with fail
    refine HI.out.mono ?_
    rintro e w2 ⟨rfl, hb2⟩
    go_wp2_with fail
    go_ret
    exact ⟨rfl, (hq.below _).trans (hb2.mono (hq.below w.heap.size).size)⟩
  · have hc : (1048576 : Int) < (s.size : Int) := by omega
    go_enter Tryd.func6, Tryd.ntmps6
    go_wp2_with fail
    go_ret
    exact ⟨rfl, Below.refl _ _⟩

end Go.Proofs.YtmepficbmgjpoaaDoor
