/- The walks: the false clauses; the clauses with some indices, cores. -/
import Derived.Test.YtkmkdfogpdndoaaValC
import Derived.Test.YtkmkdfogpdndoaaImp
import Derived.Deep.RegionHeld3
namespace Go.Proofs.Ytkmkdfogpdndoaa
open Go.RowKit
set_option linter.unusedVariables false

def falseL (a : List Int) : Nat → List (List Int) → List Int
  | _, [] => []
  | k, c :: r => if valueI a (-1) c < 0 then (k : Int) :: falseL a (k + 1) r else falseL a (k + 1) r
theorem falseL_len (a : List Int) : ∀ (t : List (List Int)) (k : Nat), (falseL a k t).length ≤ t.length
  | [], k => by simp [falseL]
  | c :: r, k => by
    have := falseL_len a r (k + 1)
    unfold falseL
    split <;> simp <;> omega
def fFalseClauses (f : CnfL) (a : List Int) : List Int × Bool := if goodB f && clauseB f.1 a then (falseL a 0 f.2, true) else ([], false)
theorem fFalseClauses_len {f : CnfL} {a : List Int} {r0 : List Int} {r1 : Bool} (hn : szC f ≤ 1048576) (hn1 : a.length ≤ 1048576) (hR : fFalseClauses f a = (r0, r1)) : r0.length ≤ 1048576 := by
  unfold fFalseClauses at hR
  split at hR
  · injection hR with h1 h2
    have := falseL_len a f.2 0
    unfold szC at hn
    rw [← h1]; omega
  · injection hR with h1 h2
    rw [← h1]; simp

set_option maxHeartbeats 400000 in
theorem i_falseClauses {hi hi' : Nat} (v : Value) (t : List (List Int)) (va : Value) (a : List Int) (w : World) (h : Tab hi w v t) (h2 : Ints hi' w va a) (hn : t.length ≤ 1048576) :
    Calls Try.prog 54 #[v, va] w fun e w' => ∃ v', e = .returned v' ∧ OwnI w.heap.size w' v' (falseL a 0 t) ∧ Below w.heap.size w w' := by
  obtain ⟨A, c, ps, rfl, hc, hm, rfl, hrow, hps⟩ := h.open_
  unfold maxLen at hm
  have HPS := hide hps
  have HN := hide (show ps.length ≤ 1048576 by simpa using hn)
  clear hps h hn
  go_enter Try.func54, Try.ntmps54
  go_wp2_with fail
  go_loopw [5, 10] (fun q i wr => ∃ (k : Nat) (pre : List Int), k ≤ ps.length ∧ i = .int .i64 k ∧ pre.length ≤ k ∧ Hid (falseL a 0 (ps.map (·.2)) = pre ++ falseL a k ((ps.drop k).map (·.2))) ∧ OwnI w.heap.size wr q pre ∧ Below w.heap.size w wr) (fun _ i _ => ps.length - (intOf i).toNat)
  case atStart => exact ⟨0, [], Nat.zero_le _, rfl, Nat.le_refl _, rfl, OwnI.nil _ _, Below.refl _ _⟩
  case round =>
    obtain ⟨k, pre, hk, rfl, hpl, hr, hown, hbel⟩ := hrel
    by_cases hlt : k < ps.length
    · obtain ⟨b, off, u, z, rfl, hx, hcw, hz⟩ := hrow.tab HPS.out hlt
      replace hcw := below_old hbel _ _ hcw
      replace hz := hz.below hbel
      have har := h2.below hbel
      have hsz := hbel.size
      have HL := hide (show pre.length ≤ 1073741824 by have := HN.out; omega)
      obtain ⟨q, hqv⟩ : ∃ q, valueI a (-1) z = q := ⟨_, rfl⟩
      by_cases hlt2 : q < 0
      · have HF := hide (show falseL a 0 (ps.map (·.2)) = (pre ++ [(k : Int)]) ++ falseL a (k + 1) ((ps.drop (k + 1)).map (·.2)) by rw [hr.out, hx]; simp [falseL, hqv, hlt2])
        clear hx
        go_wp2_with (first | (go_at_call 113; refine (i_clauseValue _ _ z a _ hz har).mono ?_; rintro e w1 ⟨rfl, rfl⟩; rw [hqv]) | (at_builtin; refine append_int rfl _ _ rfl w.heap.size rfl hown rfl HL.out hsz ?_; intro v1 w2 hown1 hb1))
        go_roundw
        case rel => exact ⟨k + 1, pre ++ [(k : Int)], by omega, by go_num, by simp; omega, HF.out, hown1, hbel.trans hb1⟩
        case measure => simp [intOf]; omega
      · have HF := hide (show falseL a 0 (ps.map (·.2)) = pre ++ falseL a (k + 1) ((ps.drop (k + 1)).map (·.2)) by rw [hr.out, hx]; simp [falseL, hqv, hlt2])
        clear hx
        go_wp2_with (go_at_call 113; refine (i_clauseValue _ _ z a _ hz har).mono ?_; rintro e w1 ⟨rfl, rfl⟩; rw [hqv])
        go_roundw
        case rel => exact ⟨k + 1, pre, by omega, by go_num, by omega, HF.out, hown, hbel⟩
        case measure => simp [intOf]; omega
    · obtain rfl : k = ps.length := by omega
      have HF := hide (show falseL a 0 (ps.map (·.2)) = pre by rw [hr.out, List.drop_length]; simp [falseL])
      go_wp2_with fail
      go_ret
      exact ⟨_, rfl, by rw [HF.out]; exact hown, hbel⟩

set_option maxHeartbeats 400000 in
theorem I_FalseClauses {hi hi' : Nat} (v : Value) (f : CnfL) (va : Value) (a : List Int) (r0 : List Int) (r1 : Bool) (w : World) (h : RCnf hi w v f) (h2 : Ints hi' w va a) (hn0 : szC f ≤ 1048576) (hn1 : a.length ≤ 1048576) (hR : fFalseClauses f a = (r0, r1)) :
    Calls Try.prog 19 #[v, va] w fun e w' => ∃ v', e = .returned (.tuple #[v', .bool r1]) ∧ FInts w.heap.size w'.heap.size w' v' r0 ∧ Below w.heap.size w w' := by
  obtain ⟨A, n, c, rfl, ht⟩ := h.open2
  obtain ⟨vars, t⟩ := f
  dsimp only at ht ⊢
  have hal : Below w.heap.size w (w.alloc (.cells #[.int .i64 vars, .slice A n c] 29)) := (Below.refl _ _).alloc (Nat.le_refl _) _
  have htb := ht.top.below hal
  have h2b := h2.top.below hal
  cases hg : goodB (vars, t) with
  | false =>
    obtain ⟨rfl, rfl⟩ : r0 = [] ∧ r1 = false := by simpa [fFalseClauses, hg, eq_comm] using hR
    clear hR
    go_enter Try.func19, Try.ntmps19
    go_wp2_with (go_at_call 52; refine (i_IsCnf _ (vars, t) _ ⟨_, rfl, htb⟩).mono ?_; rintro e w1 ⟨rfl, hb1⟩)
    go_ret2
    exact ⟨_, rfl, FInts.nil _ _ _, (box2 hb1).2.2.1⟩
  | true =>
    cases hcl : clauseB vars a with
    | false =>
      obtain ⟨rfl, rfl⟩ : r0 = [] ∧ r1 = false := by simpa [fFalseClauses, hg, hcl, eq_comm] using hR
      clear hR
      go_enter Try.func19, Try.ntmps19
      go_wp2_with (first | (go_at_call 52; refine (i_IsCnf _ (vars, t) _ ⟨_, rfl, htb⟩).mono ?_; rintro e w1 ⟨rfl, hb1⟩; obtain ⟨c0, c1, hbw, hsz⟩ := box2 hb1) | (go_at_call 53; refine (i_IsAssignment _ _ a _ (h2b.below hb1)).mono ?_; rintro e w2 ⟨rfl, hq2⟩))
      go_ret2
      exact ⟨_, rfl, FInts.nil _ _ _, hbw.trans (hq2.below _)⟩
    | true =>
      have HL := hide (goodB_len hg)
      obtain ⟨hr0, rfl⟩ : r0 = falseL a 0 t ∧ r1 = true := by simpa [fFalseClauses, hg, hcl, eq_comm] using hR
      have HR := hide hr0
      clear hR hr0
      go_enter Try.func19, Try.ntmps19
      go_wp2_with (first | (go_at_call 52; refine (i_IsCnf _ (vars, t) _ ⟨_, rfl, htb⟩).mono ?_; rintro e w1 ⟨rfl, hb1⟩; obtain ⟨c0, c1, hbw, hsz⟩ := box2 hb1) | (go_at_call 53; refine (i_IsAssignment _ _ a _ (h2b.below hb1)).mono ?_; rintro e w2 ⟨rfl, hq2⟩; have c1' := (hq2.cell _).trans c1; have t2 := (htb.below hb1).below (hq2.below _); have a2 := (h2b.below hb1).below (hq2.below _)) | (go_at_call 54; refine (i_falseClauses _ t _ a _ t2 a2 (Nat.le_trans HL.out (by omega))).mono ?_; rintro e w3 ⟨v3, rfl, hown3, hb3⟩))
      go_ret2
      have hbt := hbw.trans (hq2.below _)
      exact ⟨_, rfl, by rw [HR.out]; exact hown3.fints.mono hbt.size (Nat.le_refl _), hbt.trans (hb3.mono hbt.size)⟩

set_option maxHeartbeats 800000 in
theorem S_FalseClauses {hi hi' : Nat} (v : Value) (f : CnfL) (va : Value) (a : List Int) (r0 : List Int) (r1 : Bool) (w : World) (h : RCnf hi w v f) (h2 : Ints hi' w va a) (hn0 : szC f ≤ 1048576) (hn1 : a.length ≤ 1048576) (hR : fFalseClauses f a = (r0, r1)) :
    Calls Try.prog 16 #[v, va] w fun e w' => ∃ v', e = .returned (.tuple #[v', .bool r1]) ∧ FInts w.heap.size w'.heap.size w' v' r0 ∧ Below w.heap.size w w' := by
  obtain ⟨A, n, c, rfl, ht⟩ := h.open2
  obtain ⟨vars, t⟩ := f
  dsimp only at ht ⊢
  obtain ⟨wa, hwa⟩ : ∃ wa, wa = w.alloc (.cells #[.int .i64 vars, .slice A n c] 29) := ⟨_, rfl⟩
  have hala : Below w.heap.size w wa := by rw [hwa]; exact (Below.refl _ _).alloc (Nat.le_refl _) _
  have hsa : w.heap.size + 1 = wa.heap.size := by rw [hwa]; simp
  have x00 : wa.cell? ⟨w.heap.size, 0, none⟩ = some (.int .i64 vars) := by rw [hwa]; simp
  have x01 : wa.cell? ⟨w.heap.size, 1, none⟩ = some (.slice A n c) := by rw [hwa]; simp
  obtain ⟨wb, hwb⟩ : ∃ wb, wb = wa.alloc (.cells #[] 3) := ⟨_, rfl⟩
  have halb : Below wa.heap.size wa wb := by rw [hwb]; exact (Below.refl _ _).alloc (Nat.le_refl _) _
  have hown : OwnI (w.heap.size + 1) wb (.slice (some ⟨w.heap.size + 1, 0, none⟩) 0 0) [] := by rw [hwb, hsa]; exact OwnI.made _ _ (by omega)
  replace x00 := below_old halb _ _ x00
  replace x01 := below_old halb _ _ x01
  have tb := (ht.top.below hala).below halb
  have ab := (h2.top.below hala).below halb
  have hal := hala.trans (halb.mono (by omega))
  have hsb : w.heap.size + 1 ≤ wb.heap.size := by rw [hsa]; exact halb.size
  have HWB := hide (show wb = (w.alloc (.cells #[.int .i64 vars, .slice A n c] 29)).alloc (.cells #[] 3) by rw [hwb, hwa])
  clear hwb hwa halb hala hsa
  cases hg : (goodB (vars, t) && clauseB vars a) with
  | false =>
    obtain ⟨rfl, rfl⟩ : r0 = [] ∧ r1 = false := by simpa [fFalseClauses, hg, eq_comm] using hR
    clear hR
    go_enter Try.func16, Try.ntmps16
    go_wp2_with fail
    rw [← HWB.out]
    refine (s_l3Asked _ (vars, t) _ a _ ⟨_, rfl, tb⟩ ab).mono ?_
    rw [hg]
    rintro e w1 ⟨rfl, hb1⟩
    replace hown := hown.below hb1
    go_wp2_with fail
    go_ret2
    exact ⟨_, rfl, hown.fints.mono (by omega) (Nat.le_refl _), hal.trans (hb1.mono hal.size)⟩
  | true =>
    obtain ⟨hr0, rfl⟩ : r0 = falseL a 0 t ∧ r1 = true := by
      simp only [fFalseClauses, hg, if_true] at hR
      injection hR with h1 h2
      exact ⟨h1.symm, h2.symm⟩
    have HR := hide hr0
    clear hR hr0
    have HN := hide (show t.length ≤ 60 by simp at hg; exact goodB_len hg.1)
    go_enter Try.func16, Try.ntmps16
    go_wp2_with fail
    rw [← HWB.out]
    refine (s_l3Asked _ (vars, t) _ a _ ⟨_, rfl, tb⟩ ab).mono ?_
    rw [hg]
    rintro e w1 ⟨rfl, hb1⟩
    replace hown := hown.below hb1
    replace x01 := below_old hb1 _ _ x01
    replace tb := tb.below hb1
    replace ab := ab.below hb1
    replace hal := hal.trans (hb1.mono hal.size)
    replace hsb := Nat.le_trans hsb hb1.size
    obtain ⟨A', c', ps, e', hc, hm, rfl, hrow, hps⟩ := tb.open_
    injection e' with e1 e2 e3
    subst e1 e2 e3
    unfold maxLen at hm
    have HPS := hide hps
    have HO := hide hown
    clear hps hown hb1 tb
    go_wp2_with fail
    go_loopw [6, 7] (fun q i wr => ∃ (k : Nat) (pre : List Int), k ≤ ps.length ∧ i = .int .i64 k ∧ pre.length ≤ k ∧ Hid (falseL a 0 (ps.map (·.2)) = pre ++ falseL a k ((ps.drop k).map (·.2))) ∧ OwnI (w.heap.size + 1) wr q pre ∧ Below (w.heap.size + 1) w1 wr ∧ w.heap.size + 1 ≤ wr.heap.size) (fun _ i _ => ps.length - (intOf i).toNat)
    case atStart => exact ⟨0, [], Nat.zero_le _, rfl, Nat.le_refl _, rfl, HO.out, Below.refl _ _, hsb⟩
    case round =>
      obtain ⟨k, pre, hk, rfl, hpl, hr, hown, hbel, hszr⟩ := hrel
      have y01 := (hbel.cell (p := ⟨w.heap.size, 1, none⟩) (by simp)).trans x01
      by_cases hlt : k < ps.length
      · obtain ⟨b, off, u, z, rfl, hx, hcw, hz⟩ := hrow.tab HPS.out hlt
        have hbb : b < w.heap.size := by obtain ⟨b', off', e', hlt', _⟩ := hrow (by simp; omega); injection e' with e'; injection e' with e1 e2; omega
        replace hcw := (hbel.cell (p := ⟨b, off + k, none⟩) (by simp; omega)).trans hcw
        replace hz := hz.under hbel (by omega)
        have har := ab.under hbel (by omega)
        have HL := hide (show pre.length ≤ 1073741824 by have := HN.out; simp at this; omega)
        obtain ⟨q, hqv⟩ : ∃ q, valueI a (-1) z = q := ⟨_, rfl⟩
        by_cases hlt2 : q < 0
        · have HF := hide (show falseL a 0 (ps.map (·.2)) = (pre ++ [(k : Int)]) ++ falseL a (k + 1) ((ps.drop (k + 1)).map (·.2)) by rw [hr.out, hx]; simp [falseL, hqv, hlt2])
          clear hx
          go_wp2_with (first | (go_at_call 50; refine (s_l3Value _ _ z a _ hz har).mono ?_; rintro e w2 ⟨rfl, rfl⟩; rw [hqv]) | (at_builtin; refine append_int rfl _ _ rfl (w.heap.size + 1) rfl hown rfl HL.out hszr ?_; intro v1 w2 hown1 hb1))
          go_roundw
          case rel => exact ⟨k + 1, pre ++ [(k : Int)], by omega, by go_num, by simp; omega, HF.out, hown1, hbel.trans hb1, Nat.le_trans hszr hb1.size⟩
          case measure => simp [intOf]; omega
        · have HF := hide (show falseL a 0 (ps.map (·.2)) = pre ++ falseL a (k + 1) ((ps.drop (k + 1)).map (·.2)) by rw [hr.out, hx]; simp [falseL, hqv, hlt2])
          clear hx
          go_wp2_with (go_at_call 50; refine (s_l3Value _ _ z a _ hz har).mono ?_; rintro e w2 ⟨rfl, rfl⟩; rw [hqv])
          go_roundw
          case rel => exact ⟨k + 1, pre, by omega, by go_num, by omega, HF.out, hown, hbel, hszr⟩
          case measure => simp [intOf]; omega
      · obtain rfl : k = ps.length := by omega
        have HF := hide (show falseL a 0 (ps.map (·.2)) = pre by rw [hr.out, List.drop_length]; simp [falseL])
        go_wp2_with fail
        go_ret2
        exact ⟨_, rfl, by rw [HR.out, HF.out]; exact hown.fints.mono (by omega) (Nat.le_refl _), hal.trans (hbel.mono (by omega))⟩

end Go.Proofs.Ytkmkdfogpdndoaa
