/- The walks of the reader of numerals; the contracts of ParseInt. -/
import Derived.Test.YtmepficbmgjpoaaDoorVer
import Derived.Test.YtmepficbmgjpoaaDoorNumPl
import Derived.Test.YtmepficbmgjpoaaDoorClause
namespace Go.Proofs.YtmepficbmgjpoaaDoor
open Go.RowKit
set_option linter.unusedVariables false

/-- what both readers return -/
def fParseInt (s : ByteArray) : Int × Bool := match readS s.data.toList with | some n => (n, true) | none => (0, false)
theorem rd_none {s : ByteArray} {r0 : Int} {r1 : Bool} (h : readS s.data.toList = none) (hR : fParseInt s = (r0, r1)) : r0 = 0 ∧ r1 = false := by
  unfold fParseInt at hR; rw [h] at hR; injection hR with e1 e2; exact ⟨e1.symm, e2.symm⟩
theorem rd_some {s : ByteArray} {n r0 : Int} {r1 : Bool} (h : readS s.data.toList = some n) (hR : fParseInt s = (r0, r1)) : r0 = n ∧ r1 = true := by
  unfold fParseInt at hR; rw [h] at hR; injection hR with e1 e2; exact ⟨e1.symm, e2.symm⟩
/-- a numeral's text is short -/
theorem readS_short {l : List UInt8} (h : ¬ ((magL l).length ≤ 6 ∧ 1 ≤ (magL l).length)) : readS l = none := by
  unfold readS; rw [if_neg (fun h' => h ⟨h'.2, h'.1⟩)]
theorem readS_bad {l : List UInt8} (h : Lib.decFrom 0 (magL l) = none) : readS l = none := by
  unfold readS; rw [h]; split <;> rfl
theorem readS_num {l : List UInt8} {m : Nat} (h : Lib.decFrom 0 (magL l) = some m) (h1 : 1 ≤ (magL l).length ∧ (magL l).length ≤ 6) : readS l = if Lib.itoa (sgnN l m) = l then some (sgnN l m) else none := by
  unfold readS; rw [if_pos h1, h]
theorem bs_inj {a : List UInt8} {s : ByteArray} : bs a = s ↔ a = s.data.toList := by
  constructor
  · rintro rfl; simp [bs]
  · rintro rfl; exact bs_list s
theorem decFrom_one {l : List UInt8} {b : UInt8} {acc : Nat} {r : List UInt8} (h : l = b :: r) (h1 : 48 ≤ b.toNat) (h2 : b.toNat ≤ 57) : Lib.decFrom acc l = Lib.decFrom (acc * 10 + (b.toNat - 48)) r := by
  rw [h, Lib.decFrom, Lib.digitVal, if_pos ⟨h1, h2⟩]
theorem decFrom_not {l : List UInt8} {b : UInt8} {acc : Nat} {r : List UInt8} (h : l = b :: r) (h1 : ¬ (48 ≤ b.toNat ∧ b.toNat ≤ 57)) : Lib.decFrom acc l = none := by
  rw [h, Lib.decFrom, Lib.digitVal, if_neg h1]
theorem wrap_small (m : Nat) (h : m < 9223372036854775807) : IntKind.i64.wrap (m : Int) = m := by rw [IntKind.wrap_i64]; omega
theorem wrap_u8 (m : Nat) (h : m < 256) : IntKind.u8.wrap (m : Int) = m := by rw [IntKind.wrap_u8]; omega
theorem sgn_pos {l : List UInt8} {m : Nat} (h : (magL l).length < l.length) : sgnN l m = -(m : Int) := by unfold sgnN; rw [if_pos h]
theorem sgn_neg {l : List UInt8} {m : Nat} (h : ¬ ((magL l).length < l.length)) : sgnN l m = (m : Int) := by unfold sgnN; rw [if_neg h]
theorem len_data (s : ByteArray) : s.data.toList.length = s.size := by simp

set_option maxHeartbeats 1600000 in
theorem s_l1Read_a (s : ByteArray) (r0 : Int) (r1 : Bool) (w : World) (hs : s.size ≤ 1048576) (h1 : s.size ≤ 1) (hm : magL s.data.toList = s.data.toList) (hR : fParseInt s = (r0, r1)) :
    Calls Tryd.prog 46 #[.string s] w fun e w' => e = .returned (.tuple #[.int .i64 r0, .bool r1]) ∧ Quiet w w' := by
  have HR := hide hR
  have HM := hide hm
  have hts : s.size ≤ s.size := by exact Nat.le_refl _
  have c1 : ¬ ((1 : Int) < (s.size : Int)) := by omega
  have htl : s.data.toList.length = s.size := by simp
  have HTL := hide htl
  clear hR hm htl
  by_cases hlen : 1 ≤ s.size ∧ s.size ≤ 6
  case neg =>
    have hin : inB (s.size : Int) 1 6 = false := by simp [inB]; omega
    have HF := hide (rd_none (readS_short (l := s.data.toList) (by rw [HM.out, HTL.out]; omega)) HR.out)
    go_enter Tryd.func46, Tryd.ntmps46
    go_wp2_with fail
    refine (s_l1In _ _ _ _).mono ?_
    rintro e w1 ⟨rfl, rfl⟩
    rw [hin]
    go_wp2_with fail
    go_ret2
    exact ⟨by rw [HF.out.1, HF.out.2]; rfl, ⟨0, rfl⟩⟩
  case pos =>
    have hin : inB (s.size : Int) 1 6 = true := by simp [inB]; omega
    go_enter Tryd.func46, Tryd.ntmps46
    go_wp2_with fail
    refine (s_l1In _ _ _ _).mono ?_
    rintro e w1 ⟨rfl, rfl⟩
    rw [hin]
    go_wp2_with fail
    go_loop [5, 6] (fun q i => ∃ (k acc : Nat), k ≤ s.size ∧ acc + 1 ≤ 10 ^ k ∧ i = .int .i64 k ∧ q = .int .i64 acc ∧ Hid (Lib.decFrom 0 (magL s.data.toList) = Lib.decFrom acc (s.data.toList.drop k))) (fun _ i => s.size - (intOf i).toNat)
    case atStart => exact ⟨0, 0, Nat.zero_le _, by simp, rfl, rfl, hide (by rw [HM.out]; rfl)⟩
    case round =>
      obtain ⟨k, acc, hk, h0, rfl, rfl, hr⟩ := hrel
      have h9 : 10 ^ k ≤ 10 ^ 6 := Nat.pow_le_pow_right (by decide) (by omega)
      have ha : acc < 1000000 := by omega
      have h10 : 10 ^ (k + 1) = 10 * 10 ^ k := by rw [Nat.pow_succ]; omega
      have H10 := hide h10
      have H0 := hide h0
      clear h9 h10 h0
      by_cases hlt : k < s.size
      · have hb : (s[k]).toNat < 256 := (s[k]).toNat_lt
        have hx := byte_drop s k hlt
        by_cases hlo : (s[k]).toNat < 48
        · have hlo' : ((s[k]).toNat : Int) < 48 := by omega
          have HF := hide (rd_none (readS_bad (l := s.data.toList) (by rw [hr.out]; exact decFrom_not hx (by omega))) HR.out)
          clear hx
          go_wp2_with fail
          go_ret2
          exact ⟨by rw [HF.out.1, HF.out.2]; rfl, ⟨0, rfl⟩⟩
        have hlo' : ¬ (((s[k]).toNat : Int) < 48) := by omega
        by_cases hhi : 57 < (s[k]).toNat
        · have hhi' : (57 : Int) < ((s[k]).toNat : Int) := by omega
          have HF := hide (rd_none (readS_bad (l := s.data.toList) (by rw [hr.out]; exact decFrom_not hx (by omega))) HR.out)
          clear hx
          go_wp2_with fail
          go_ret2
          exact ⟨by rw [HF.out.1, HF.out.2]; rfl, ⟨0, rfl⟩⟩
        have hhi' : ¬ ((57 : Int) < ((s[k]).toNat : Int)) := by omega
        have HF := hide (show Lib.decFrom 0 (magL s.data.toList) = Lib.decFrom (acc * 10 + ((s[k]).toNat - 48)) (s.data.toList.drop (k + 1)) by rw [hr.out]; exact decFrom_one hx (by omega) (by omega))
        clear hx hr
        have e1 : IntKind.u8.wrap (((s[k]).toNat : Int) - 48) = (((s[k]).toNat - 48 : Nat) : Int) := (congrArg _ (by omega)).trans (wrap_u8 ((s[k]).toNat - 48) (by omega))
        have e2 : IntKind.i64.wrap ((((s[k]).toNat - 48 : Nat) : Int)) = (((s[k]).toNat - 48 : Nat) : Int) := wrap_small _ (by omega)
        have e3 : IntKind.i64.wrap (10 * (acc : Int)) = ((10 * acc : Nat) : Int) := (congrArg _ (by omega)).trans (wrap_small (10 * acc) (by omega))
        have HE := hide (show (((s[k]).toNat - 48 : Nat) : Int) = ((s[k]).toNat : Int) - 48 by omega)
        have HH := hide (show (s[k]).toNat - 48 ≤ 9 by omega)
        go_wp2_with fail
        go_round
        case rel => exact ⟨k + 1, acc * 10 + ((s[k]).toNat - 48), by omega, by have := H10.out; have := H0.out; have := HH.out; omega, by go_num, by go_num, HF.out⟩
        case measure => simp [intOf]; omega
      · obtain rfl : k = s.size := by omega
        have HD := hide (show Lib.decFrom 0 (magL s.data.toList) = some acc by rw [hr.out, List.drop_eq_nil_of_le (by rw [HTL.out]; exact Nat.le_refl _)]; rfl)
        have HSG := hide (sgn_neg (l := s.data.toList) (m := acc) (by rw [HM.out]; exact Nat.lt_irrefl _))
        have HN := hide (readS_num HD.out (by rw [HM.out, HTL.out]; exact hlen))
        clear hr
        have HT := hide (s_l1Num ((acc : Int)) w (by omega))
        obtain ⟨b, hb⟩ : ∃ b, decide (Lib.itoa ((acc : Int)) = s.data.toList) = b := ⟨_, rfl⟩
        have hne : ((bs (Lib.itoa ((acc : Int)))).toList == s.toList) = b := by rw [beq_bytes, ← hb]; exact decide_eq_decide.2 bs_inj
        have HB := hide hb
        clear hb
        go_wp2_with fail
        refine HT.out.mono ?_
        rintro e w2 ⟨rfl, hq⟩
        cases b with
        | true =>
          have HF := hide (rd_some (n := (acc : Int)) (by rw [HN.out, HSG.out, if_pos (of_decide_eq_true HB.out)]) HR.out)
          go_wp2_with fail
          go_ret2
          exact ⟨by rw [HF.out.1, HF.out.2]; rfl, hq⟩
        | false =>
          have HF := hide (rd_none (s := s) (by rw [HN.out, HSG.out, if_neg (of_decide_eq_false HB.out)]) HR.out)
          go_wp2_with fail
          go_ret2
          exact ⟨by rw [HF.out.1, HF.out.2]; rfl, hq⟩

set_option maxHeartbeats 1600000 in
theorem s_l1Read_b (s : ByteArray) (r0 : Int) (r1 : Bool) (w : World) (hs : s.size ≤ 1048576) (h1 : 1 < s.size) (hb0 : ¬ ((s[0]).toNat = 45)) (hm : magL s.data.toList = s.data.toList) (hR : fParseInt s = (r0, r1)) :
    Calls Tryd.prog 46 #[.string s] w fun e w' => e = .returned (.tuple #[.int .i64 r0, .bool r1]) ∧ Quiet w w' := by
  have HR := hide hR
  have HM := hide hm
  have hts : s.size ≤ s.size := by exact Nat.le_refl _
  have c1 : (1 : Int) < (s.size : Int) := by omega
  have c2 : (((s[0]).toNat : Int) == 45) = false := by simp; omega
  have htl : s.data.toList.length = s.size := by simp
  have HTL := hide htl
  clear hR hm htl
  by_cases hlen : 1 ≤ s.size ∧ s.size ≤ 6
  case neg =>
    have hin : inB (s.size : Int) 1 6 = false := by simp [inB]; omega
    have HF := hide (rd_none (readS_short (l := s.data.toList) (by rw [HM.out, HTL.out]; omega)) HR.out)
    go_enter Tryd.func46, Tryd.ntmps46
    go_wp2_with fail
    refine (s_l1In _ _ _ _).mono ?_
    rintro e w1 ⟨rfl, rfl⟩
    rw [hin]
    go_wp2_with fail
    go_ret2
    exact ⟨by rw [HF.out.1, HF.out.2]; rfl, ⟨0, rfl⟩⟩
  case pos =>
    have hin : inB (s.size : Int) 1 6 = true := by simp [inB]; omega
    go_enter Tryd.func46, Tryd.ntmps46
    go_wp2_with fail
    refine (s_l1In _ _ _ _).mono ?_
    rintro e w1 ⟨rfl, rfl⟩
    rw [hin]
    go_wp2_with fail
    go_loop [5, 6] (fun q i => ∃ (k acc : Nat), k ≤ s.size ∧ acc + 1 ≤ 10 ^ k ∧ i = .int .i64 k ∧ q = .int .i64 acc ∧ Hid (Lib.decFrom 0 (magL s.data.toList) = Lib.decFrom acc (s.data.toList.drop k))) (fun _ i => s.size - (intOf i).toNat)
    case atStart => exact ⟨0, 0, Nat.zero_le _, by simp, rfl, rfl, hide (by rw [HM.out]; rfl)⟩
    case round =>
      obtain ⟨k, acc, hk, h0, rfl, rfl, hr⟩ := hrel
      have h9 : 10 ^ k ≤ 10 ^ 6 := Nat.pow_le_pow_right (by decide) (by omega)
      have ha : acc < 1000000 := by omega
      have h10 : 10 ^ (k + 1) = 10 * 10 ^ k := by rw [Nat.pow_succ]; omega
      have H10 := hide h10
      have H0 := hide h0
      clear h9 h10 h0
      by_cases hlt : k < s.size
      · have hb : (s[k]).toNat < 256 := (s[k]).toNat_lt
        have hx := byte_drop s k hlt
        by_cases hlo : (s[k]).toNat < 48
        · have hlo' : ((s[k]).toNat : Int) < 48 := by omega
          have HF := hide (rd_none (readS_bad (l := s.data.toList) (by rw [hr.out]; exact decFrom_not hx (by omega))) HR.out)
          clear hx
          go_wp2_with fail
          go_ret2
          exact ⟨by rw [HF.out.1, HF.out.2]; rfl, ⟨0, rfl⟩⟩
        have hlo' : ¬ (((s[k]).toNat : Int) < 48) := by omega
        by_cases hhi : 57 < (s[k]).toNat
        · have hhi' : (57 : Int) < ((s[k]).toNat : Int) := by omega
          have HF := hide (rd_none (readS_bad (l := s.data.toList) (by rw [hr.out]; exact decFrom_not hx (by omega))) HR.out)
          clear hx
          go_wp2_with fail
          go_ret2
          exact ⟨by rw [HF.out.1, HF.out.2]; rfl, ⟨0, rfl⟩⟩
        have hhi' : ¬ ((57 : Int) < ((s[k]).toNat : Int)) := by omega
        have HF := hide (show Lib.decFrom 0 (magL s.data.toList) = Lib.decFrom (acc * 10 + ((s[k]).toNat - 48)) (s.data.toList.drop (k + 1)) by rw [hr.out]; exact decFrom_one hx (by omega) (by omega))
        clear hx hr
        have e1 : IntKind.u8.wrap (((s[k]).toNat : Int) - 48) = (((s[k]).toNat - 48 : Nat) : Int) := (congrArg _ (by omega)).trans (wrap_u8 ((s[k]).toNat - 48) (by omega))
        have e2 : IntKind.i64.wrap ((((s[k]).toNat - 48 : Nat) : Int)) = (((s[k]).toNat - 48 : Nat) : Int) := wrap_small _ (by omega)
        have e3 : IntKind.i64.wrap (10 * (acc : Int)) = ((10 * acc : Nat) : Int) := (congrArg _ (by omega)).trans (wrap_small (10 * acc) (by omega))
        have HE := hide (show (((s[k]).toNat - 48 : Nat) : Int) = ((s[k]).toNat : Int) - 48 by omega)
        have HH := hide (show (s[k]).toNat - 48 ≤ 9 by omega)
        go_wp2_with fail
        go_round
        case rel => exact ⟨k + 1, acc * 10 + ((s[k]).toNat - 48), by omega, by have := H10.out; have := H0.out; have := HH.out; omega, by go_num, by go_num, HF.out⟩
        case measure => simp [intOf]; omega
      · obtain rfl : k = s.size := by omega
        have HD := hide (show Lib.decFrom 0 (magL s.data.toList) = some acc by rw [hr.out, List.drop_eq_nil_of_le (by rw [HTL.out]; exact Nat.le_refl _)]; rfl)
        have HSG := hide (sgn_neg (l := s.data.toList) (m := acc) (by rw [HM.out]; exact Nat.lt_irrefl _))
        have HN := hide (readS_num HD.out (by rw [HM.out, HTL.out]; exact hlen))
        clear hr
        have HT := hide (s_l1Num ((acc : Int)) w (by omega))
        obtain ⟨b, hb⟩ : ∃ b, decide (Lib.itoa ((acc : Int)) = s.data.toList) = b := ⟨_, rfl⟩
        have hne : ((bs (Lib.itoa ((acc : Int)))).toList == s.toList) = b := by rw [beq_bytes, ← hb]; exact decide_eq_decide.2 bs_inj
        have HB := hide hb
        clear hb
        go_wp2_with fail
        refine HT.out.mono ?_
        rintro e w2 ⟨rfl, hq⟩
        cases b with
        | true =>
          have HF := hide (rd_some (n := (acc : Int)) (by rw [HN.out, HSG.out, if_pos (of_decide_eq_true HB.out)]) HR.out)
          go_wp2_with fail
          go_ret2
          exact ⟨by rw [HF.out.1, HF.out.2]; rfl, hq⟩
        | false =>
          have HF := hide (rd_none (s := s) (by rw [HN.out, HSG.out, if_neg (of_decide_eq_false HB.out)]) HR.out)
          go_wp2_with fail
          go_ret2
          exact ⟨by rw [HF.out.1, HF.out.2]; rfl, hq⟩

set_option maxHeartbeats 1600000 in
theorem s_l1Read_c (s t : ByteArray) (r0 : Int) (r1 : Bool) (w : World) (hs : s.size ≤ 1048576) (h1 : 1 < s.size) (hb0 : (s[0]).toNat = 45) (htz : s.extract 1 s.size = t) (hm : magL s.data.toList = t.data.toList) (hR : fParseInt s = (r0, r1)) :
    Calls Tryd.prog 46 #[.string s] w fun e w' => e = .returned (.tuple #[.int .i64 r0, .bool r1]) ∧ Quiet w w' := by
  have HR := hide hR
  have HM := hide hm
  have hts : t.size ≤ s.size := by rw [← htz]; simp
  have c1 : (1 : Int) < (s.size : Int) := by omega
  have c2 : (((s[0]).toNat : Int) == 45) = true := by simp [hb0]
  have htz2 : t.size = s.size - 1 := by rw [← htz]; simp
  have c3 : (t.size : Int) < (s.size : Int) := by omega
  clear htz2
  have htl : t.data.toList.length = t.size := by simp
  have HTL := hide htl
  clear hR hm htl
  by_cases hlen : 1 ≤ t.size ∧ t.size ≤ 6
  case neg =>
    have hin : inB (t.size : Int) 1 6 = false := by simp [inB]; omega
    have HF := hide (rd_none (readS_short (l := s.data.toList) (by rw [HM.out, HTL.out]; omega)) HR.out)
    go_enter Tryd.func46, Tryd.ntmps46
    go_wp2_with fail
    refine (s_l1In _ _ _ _).mono ?_
    rintro e w1 ⟨rfl, rfl⟩
    rw [hin]
    go_wp2_with fail
    go_ret2
    exact ⟨by rw [HF.out.1, HF.out.2]; rfl, ⟨0, rfl⟩⟩
  case pos =>
    have hin : inB (t.size : Int) 1 6 = true := by simp [inB]; omega
    go_enter Tryd.func46, Tryd.ntmps46
    go_wp2_with fail
    refine (s_l1In _ _ _ _).mono ?_
    rintro e w1 ⟨rfl, rfl⟩
    rw [hin]
    go_wp2_with fail
    go_loop [5, 6] (fun q i => ∃ (k acc : Nat), k ≤ t.size ∧ acc + 1 ≤ 10 ^ k ∧ i = .int .i64 k ∧ q = .int .i64 acc ∧ Hid (Lib.decFrom 0 (magL s.data.toList) = Lib.decFrom acc (t.data.toList.drop k))) (fun _ i => t.size - (intOf i).toNat)
    case atStart => exact ⟨0, 0, Nat.zero_le _, by simp, rfl, rfl, hide (by rw [HM.out]; rfl)⟩
    case round =>
      obtain ⟨k, acc, hk, h0, rfl, rfl, hr⟩ := hrel
      have h9 : 10 ^ k ≤ 10 ^ 6 := Nat.pow_le_pow_right (by decide) (by omega)
      have ha : acc < 1000000 := by omega
      have h10 : 10 ^ (k + 1) = 10 * 10 ^ k := by rw [Nat.pow_succ]; omega
      have H10 := hide h10
      have H0 := hide h0
      clear h9 h10 h0
      by_cases hlt : k < t.size
      · have hb : (t[k]).toNat < 256 := (t[k]).toNat_lt
        have hx := byte_drop t k hlt
        by_cases hlo : (t[k]).toNat < 48
        · have hlo' : ((t[k]).toNat : Int) < 48 := by omega
          have HF := hide (rd_none (readS_bad (l := s.data.toList) (by rw [hr.out]; exact decFrom_not hx (by omega))) HR.out)
          clear hx
          go_wp2_with fail
          go_ret2
          exact ⟨by rw [HF.out.1, HF.out.2]; rfl, ⟨0, rfl⟩⟩
        have hlo' : ¬ (((t[k]).toNat : Int) < 48) := by omega
        by_cases hhi : 57 < (t[k]).toNat
        · have hhi' : (57 : Int) < ((t[k]).toNat : Int) := by omega
          have HF := hide (rd_none (readS_bad (l := s.data.toList) (by rw [hr.out]; exact decFrom_not hx (by omega))) HR.out)
          clear hx
          go_wp2_with fail
          go_ret2
          exact ⟨by rw [HF.out.1, HF.out.2]; rfl, ⟨0, rfl⟩⟩
        have hhi' : ¬ ((57 : Int) < ((t[k]).toNat : Int)) := by omega
        have HF := hide (show Lib.decFrom 0 (magL s.data.toList) = Lib.decFrom (acc * 10 + ((t[k]).toNat - 48)) (t.data.toList.drop (k + 1)) by rw [hr.out]; exact decFrom_one hx (by omega) (by omega))
        clear hx hr
        have e1 : IntKind.u8.wrap (((t[k]).toNat : Int) - 48) = (((t[k]).toNat - 48 : Nat) : Int) := (congrArg _ (by omega)).trans (wrap_u8 ((t[k]).toNat - 48) (by omega))
        have e2 : IntKind.i64.wrap ((((t[k]).toNat - 48 : Nat) : Int)) = (((t[k]).toNat - 48 : Nat) : Int) := wrap_small _ (by omega)
        have e3 : IntKind.i64.wrap (10 * (acc : Int)) = ((10 * acc : Nat) : Int) := (congrArg _ (by omega)).trans (wrap_small (10 * acc) (by omega))
        have HE := hide (show (((t[k]).toNat - 48 : Nat) : Int) = ((t[k]).toNat : Int) - 48 by omega)
        have HH := hide (show (t[k]).toNat - 48 ≤ 9 by omega)
        go_wp2_with fail
        go_round
        case rel => exact ⟨k + 1, acc * 10 + ((t[k]).toNat - 48), by omega, by have := H10.out; have := H0.out; have := HH.out; omega, by go_num, by go_num, HF.out⟩
        case measure => simp [intOf]; omega
      · obtain rfl : k = t.size := by omega
        have HD := hide (show Lib.decFrom 0 (magL s.data.toList) = some acc by rw [hr.out, List.drop_eq_nil_of_le (by rw [HTL.out]; exact Nat.le_refl _)]; rfl)
        have HSG := hide (sgn_pos (l := s.data.toList) (m := acc) (by rw [HM.out, HTL.out, len_data]; omega))
        have HN := hide (readS_num HD.out (by rw [HM.out, HTL.out]; exact hlen))
        clear hr
        have HT := hide (s_l1Num ((-(acc : Int))) w (by omega))
        have e4 : IntKind.i64.wrap (-(acc : Int)) = -(acc : Int) := by rw [IntKind.wrap_i64]; omega
        obtain ⟨b, hb⟩ : ∃ b, decide (Lib.itoa ((-(acc : Int))) = s.data.toList) = b := ⟨_, rfl⟩
        have hne : ((bs (Lib.itoa ((-(acc : Int))))).toList == s.toList) = b := by rw [beq_bytes, ← hb]; exact decide_eq_decide.2 bs_inj
        have HB := hide hb
        clear hb
        go_wp2_with fail
        refine HT.out.mono ?_
        rintro e w2 ⟨rfl, hq⟩
        cases b with
        | true =>
          have HF := hide (rd_some (n := (-(acc : Int))) (by rw [HN.out, HSG.out, if_pos (of_decide_eq_true HB.out)]) HR.out)
          go_wp2_with fail
          go_ret2
          exact ⟨by rw [HF.out.1, HF.out.2]; rfl, hq⟩
        | false =>
          have HF := hide (rd_none (s := s) (by rw [HN.out, HSG.out, if_neg (of_decide_eq_false HB.out)]) HR.out)
          go_wp2_with fail
          go_ret2
          exact ⟨by rw [HF.out.1, HF.out.2]; rfl, hq⟩

end Go.Proofs.YtmepficbmgjpoaaDoor
