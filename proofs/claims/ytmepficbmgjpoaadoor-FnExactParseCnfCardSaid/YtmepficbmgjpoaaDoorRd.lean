/- The contracts of ParseInt: the reference's reader whole; the program's by the library's Atoi. -/
import Derived.Test.YtmepficbmgjpoaaDoorRdS
import Derived.Shelf.Strconv.AtoiAll
import Derived.Stop.LaidErr
import Derived.Stop.Joined
namespace Go.Proofs.YtmepficbmgjpoaaDoor
open Go.RowKit
set_option linter.unusedVariables false

theorem s_l1Read (s : ByteArray) (r0 : Int) (r1 : Bool) (w : World) (hs : s.size ≤ 1048576) (hR : fParseInt s = (r0, r1)) :
    Calls Tryd.prog 46 #[.string s] w fun e w' => e = .returned (.tuple #[.int .i64 r0, .bool r1]) ∧ Quiet w w' := by
  by_cases h1 : 1 < s.size
  · have hd := byte_drop s 0 (by omega)
    rw [List.drop_zero] at hd
    have hl := len_data s
    by_cases hb : (s[0]).toNat = 45
    · refine s_l1Read_c s (s.extract 1 s.size) r0 r1 w hs h1 hb rfl ?_ hR
      have hb' : s[0] = 45 := UInt8.toNat_inj.1 hb
      unfold magL
      rw [if_pos ⟨by omega, by rw [hd, hb']; rfl⟩, extract_bs]
      simp only [bs]
      rw [hd]
      simp
      rw [List.take_of_length_le]
      simp
    · refine s_l1Read_b s r0 r1 w hs h1 hb ?_ hR
      unfold magL
      rw [if_neg]
      rintro ⟨_, h⟩
      rw [hd] at h
      have : s[0] = 45 := by simpa using h
      exact hb (by rw [this]; rfl)
  · refine s_l1Read_a s r0 r1 w hs (by omega) ?_ hR
    unfold magL
    rw [if_neg]
    rintro ⟨h, _⟩
    rw [len_data] at h
    omega

/-- the library's two variables of errors hold something -/
def ErrV (w : World) : Prop := (∃ t p, w.cell? ⟨0, 0, none⟩ = some (.iface t p)) ∧ ∃ t p, w.cell? ⟨1, 0, none⟩ = some (.iface t p)
theorem ErrV.below {w w' : World} (h : ErrV w) (hb : Below w.heap.size w w') : ErrV w' := by
  obtain ⟨⟨t, p, h1⟩, t', p', h2⟩ := h
  exact ⟨⟨t, p, below_old hb _ _ h1⟩, t', p', below_old hb _ _ h2⟩
def PowE (w : World) : Prop := Pow w ∧ ErrV w
theorem PowE.below {w w' : World} (h : PowE w) (hb : Below w.heap.size w w') : PowE w' := ⟨h.1.below hb, h.2.below hb⟩
theorem g_Atoi (s : ByteArray) (w : World) (hs : s.size ≤ 1048576) (h : ErrV w) :
    Calls Tryd.prog 47 #[.string s] w fun e w' => ∃ n ev, e = .returned (.tuple #[.int .i64 n, ev]) ∧ (-9223372036854775808 ≤ n ∧ n ≤ 9223372036854775807) ∧ ((Lib.atoiAll s.data.toList = .ok n ∧ ev = .nilIface) ∨ ((∀ v, Lib.atoiAll s.data.toList ≠ .ok v) ∧ ∃ t p, ev = .iface t p)) ∧ Below w.heap.size w w' := by
  obtain ⟨⟨t, p, h1⟩, t', p', h2⟩ := h
  cases ha : Lib.atoiAll s.data.toList with
  | ok v =>
    refine (Tryd.strconv_Atoi_ok s (by omega) v ha w).mono ?_
    rintro e w' ⟨rfl, hw⟩
    refine ⟨_, _, rfl, Lib.atoiAll_bounds ha, .inl ⟨rfl, rfl⟩, ?_⟩
    rcases hw with rfl | ⟨t, rfl⟩
    · exact Below.refl _ _
    · exact Lib.bytesWorld_below _ _ _
  | range =>
    refine (Tryd.strconv_Atoi_range s (by omega) ha _ w h2 (.inr ⟨_, _, rfl⟩)).mono ?_
    rintro e w' ⟨N, rfl, -, -, hb⟩
    exact ⟨_, _, rfl, Lib.atoiSat_bounds _, .inr ⟨fun v h => (by cases h), _, _, rfl⟩, hb⟩
  | _ =>
    refine (Any.strconv_Atoi_syntax Tryd.laysC172 s (by omega) ha _ w h1 (.inr ⟨_, _, rfl⟩)).mono ?_
    rintro e w' ⟨N, rfl, -, -, hb⟩
    exact ⟨_, _, rfl, by omega, .inr ⟨fun v h => (by cases h), _, _, rfl⟩, hb⟩

theorem ri_none {s : ByteArray} {r0 : Int} {r1 : Bool} (h : readI s.data.toList = none) (hR : fParseInt s = (r0, r1)) : r0 = 0 ∧ r1 = false := rd_none (by rw [readS_eq]; exact h) hR
theorem ri_some {s : ByteArray} {n r0 : Int} {r1 : Bool} (h : readI s.data.toList = some n) (hR : fParseInt s = (r0, r1)) : r0 = n ∧ r1 = true := rd_some (by rw [readS_eq]; exact h) hR
set_option maxHeartbeats 800000 in
theorem I_ParseInt (s : ByteArray) (r0 : Int) (r1 : Bool) (w : World) (hP : PowE w) (hs : s.size ≤ 1048576) (hR : fParseInt s = (r0, r1)) :
    Calls Tryd.prog 15 #[.string s] w fun e w' => e = .returned (.tuple #[.int .i64 r0, .bool r1]) ∧ Below w.heap.size w w' := by
  have HA := hide (g_Atoi s w hs hP.2)
  have HP := hide hP.1
  have HR := hide hR
  clear hP hR
  go_enter Tryd.func15, Tryd.ntmps15
  go_wp2_with fail
  refine HA.out.mono ?_
  rintro e w1 ⟨n, ev, rfl, hn, hev, hb1⟩
  have HI := hide (I_FormatInt n hn w1 (HP.out.below hb1))
  rcases hev with ⟨hok, rfl⟩ | ⟨hno, t, p, rfl⟩
  · have HO := hide hok
    obtain ⟨c, hc⟩ : ∃ c, inB n (-999999) 999999 = c := ⟨_, rfl⟩
    have HC := hide hc
    obtain ⟨b, hb⟩ : ∃ b, decide (fmtL n = s.data.toList) = b := ⟨_, rfl⟩
    have hne : ((bs (fmtL n)).toList == s.toList) = b := by rw [beq_bytes, ← hb]; exact decide_eq_decide.2 bs_inj
    have HB := hide hb
    rw [hc] at HI
    clear hok hb hn hc
    go_wp2_with fail
    refine HI.out.mono ?_
    rintro e w2 ⟨rfl, hb2⟩
    cases c with
    | false =>
      have HF := hide (ri_none (s := s) (by unfold readI; rw [HO.out]; show (if _ then _ else _) = none; rw [show withinN n = false from HC.out]; rfl) HR.out)
      go_wp2_with fail
      go_ret2
      exact ⟨by rw [HF.out.1, HF.out.2]; rfl, hb1.trans (hb2.mono hb1.size)⟩
    | true =>
      have HE := hide (show fmtL n = Lib.itoa n by unfold fmtL; rw [HC.out]; rfl)
      cases b with
      | true =>
        have HF := hide (ri_some (s := s) (n := n) (by
          unfold readI; rw [HO.out]
          show (if _ then _ else _) = some n
          rw [show withinN n = true from HC.out, show Lib.itoa n = s.data.toList from HE.out ▸ of_decide_eq_true HB.out]
          simp) HR.out)
        go_wp2_with fail
        go_ret2
        exact ⟨by rw [HF.out.1, HF.out.2]; rfl, hb1.trans (hb2.mono hb1.size)⟩
      | false =>
        have HF := hide (ri_none (s := s) (by
          unfold readI; rw [HO.out]
          show (if _ then _ else _) = none
          have h9 : ¬ Lib.itoa n = s.data.toList := HE.out ▸ of_decide_eq_false HB.out
          rw [if_neg]
          simp [h9]) HR.out)
        go_wp2_with fail
        go_ret2
        exact ⟨by rw [HF.out.1, HF.out.2]; rfl, hb1.trans (hb2.mono hb1.size)⟩
  · have HF := hide (ri_none (s := s) (by
      unfold readI
      cases ha : Lib.atoiAll s.data.toList with
      | ok v => exact absurd ha (hno v)
      | _ => rfl) HR.out)
    clear hno hn
    go_wp2_with fail
    refine HI.out.mono ?_
    rintro e w2 ⟨rfl, hb2⟩
    go_wp2_with fail
    go_ret2
    exact ⟨by rw [HF.out.1, HF.out.2]; rfl, hb1.trans (hb2.mono hb1.size)⟩
theorem S_ParseInt (s : ByteArray) (r0 : Int) (r1 : Bool) (w : World) (hs : s.size ≤ 1048576) (hR : fParseInt s = (r0, r1)) :
    Calls Tryd.prog 14 #[.string s] w fun e w' => e = .returned (.tuple #[.int .i64 r0, .bool r1]) ∧ Quiet w w' := by
  have HR := hide (s_l1Read s r0 r1 w hs hR)
  clear hR
  go_enter Tryd.func14, Tryd.ntmps14
  go_wp2_with fail
  refine HR.out.mono ?_
  rintro e w1 ⟨rfl, hq⟩
  go_wp2_with fail
  go_ret2
  exact ⟨rfl, hq⟩

theorem law_ParseInt (s : ByteArray) (hw : s.size ≤ maxLen) (w : World) (h : PowE w) :
    Calls Tryd.prog 4 #[.string s] w fun e w' => e = .returned (.bool true) ∧ Below w.heap.size w w' := by
  unfold maxLen at hw
  by_cases hs : s.size ≤ 1048576
  · have hc : ¬ ((1048576 : Int) < (s.size : Int)) := by omega
    obtain ⟨⟨r0, r1⟩, hR⟩ : ∃ r, fParseInt s = r := ⟨_, rfl⟩
    have HS := hide (S_ParseInt s r0 r1 w hs hR)
    have HP := hide h
    have HRR := hide hR
    clear h hR
    go_enter Tryd.func4, Tryd.ntmps4
    go_wp2_with fail
    refine HS.out.mono ?_
    rintro e w1 ⟨rfl, m, rfl⟩
    have hb1 : Below w.heap.size w (w.drewN m) := below_drewN (Below.refl _ _) m
    have HI := hide (I_ParseInt s r0 r1 (w.drewN m) (HP.out.below hb1) hs HRR.out)
    go_wp2_with fail
    refine HI.out.mono ?_
    rintro e w2 ⟨rfl, hb2⟩
    go_wp2_with fail
    go_ret
    exact ⟨rfl, hb1.trans hb2⟩
  · have hc : (1048576 : Int) < (s.size : Int) := by omega
    go_enter Tryd.func4, Tryd.ntmps4
    go_wp2_with fail
    go_ret
    exact ⟨rfl, Below.refl _ _⟩

end Go.Proofs.YtmepficbmgjpoaaDoor
