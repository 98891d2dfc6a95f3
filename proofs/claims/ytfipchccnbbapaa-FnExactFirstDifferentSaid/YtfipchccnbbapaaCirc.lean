/- The walks: CircuitValue, CountTrue, SameValues, FirstDifferent. -/
import Derived.Test.YtfipchccnbbapaaVals2
namespace Go.Proofs.Ytfipchccnbbapaa
open Go.RowKit
set_option linter.unusedVariables false

def bitsIn (vars bits : Int) : Bool := inB bits 0 ((2 : Int) ^ vars.toNat - 1)
def countL (gs : List GateL) (l : List Nat) : Nat := (l.filter fun (k : Nat) => valueG gs (k : Int)).length
def apartL (a b : List GateL) : List Nat → Int
  | [] => -1
  | k :: r => if valueG a (k : Int) = valueG b (k : Int) then apartL a b r else (k : Int)
theorem apartL_lo (a b : List GateL) : ∀ l : List Nat, -1 ≤ apartL a b l
  | [] => by simp [apartL]
  | k :: r => by
    unfold apartL
    split
    · exact apartL_lo a b r
    · omega
def fCircuitValue (vars : Int) (gs : List GateL) (bits : Int) : Bool × Bool := if circB vars gs then (if bitsIn vars bits then (valueG gs bits, true) else (false, false)) else (false, false)
def fCountTrue (vars : Int) (gs : List GateL) : Int × Bool := if circB vars gs then ((countL gs (rangeFrom 0 (2 ^ vars.toNat)) : Nat), true) else (0, false)
def apartG (vars : Int) (a b : List GateL) : Int := apartL a b (rangeFrom 0 (2 ^ vars.toNat))
def fSameValues (vars : Int) (a b : List GateL) : Bool × Bool := if circB vars a then (if circB vars b then (decide (apartG vars a b < 0), true) else (false, false)) else (false, false)
def fFirstDifferent (vars : Int) (a b : List GateL) : Int × Bool := if circB vars a then (if circB vars b then (if apartG vars a b < 0 then (0, false) else (apartG vars a b, true)) else (0, false)) else (0, false)

theorem i_bitsOk (n : Nat) (bits : Int) (w : World) (hn : n ≤ 12) :
    Calls Try.prog 46 #[.int .i64 n, .int .i64 bits] w fun e w' => e = .returned (.bool (bitsIn n bits)) ∧ w = w' := by
  unfold bitsIn
  rw [Int.toNat_natCast]
  obtain ⟨N, hN, hNe, hN1, hN2⟩ := pow_nat hn
  rw [hN]
  clear hNe
  go_enter Try.func46, Try.ntmps46
  go_wp2_with (go_at_call 39; refine (i_within _ _ _ _).mono ?_; rintro e w1 ⟨rfl, rfl⟩)
  go_ret
  exact ⟨rfl, rfl⟩

set_option maxHeartbeats 400000 in
theorem I_CircuitValue {hi : Nat} (vars : Int) (v : Value) (gs : List GateL) (bits : Int) (r0 r1 : Bool) (w : World) (h : Gates hi w v gs) (hn0 : szG gs ≤ 1048576) (hR : fCircuitValue vars gs bits = (r0, r1)) :
    Calls Try.prog 20 #[.int .i64 vars, v, .int .i64 bits] w fun e w' => e = .returned (.tuple #[.bool r0, .bool r1]) ∧ Below w.heap.size w w' := by
  cases hg : circB vars gs with
  | false =>
    obtain ⟨rfl, rfl⟩ : r0 = false ∧ r1 = false := by simpa [fCircuitValue, hg, eq_comm] using hR
    clear hR
    go_enter Try.func20, Try.ntmps20
    go_wp2_with fail
    refine (i_IsCircuit vars v gs w h hn0).mono ?_
    rw [hg]
    rintro e w1 ⟨rfl, hb1⟩
    go_wp2_with fail
    go_ret2
    exact ⟨rfl, hb1⟩
  | true =>
    obtain ⟨n, hv, hn⟩ := varsB_nat (circ_parts hg).1
    cases hb : bitsIn vars bits with
    | false =>
      obtain ⟨rfl, rfl⟩ : r0 = false ∧ r1 = false := by simpa [fCircuitValue, hg, hb, eq_comm] using hR
      clear hR
      subst hv
      go_enter Try.func20, Try.ntmps20
      go_wp2_with fail
      refine (i_IsCircuit _ v gs w h hn0).mono ?_
      rw [hg]
      rintro e w1 ⟨rfl, hb1⟩
      go_wp2_with fail
      refine (i_bitsOk n bits _ hn).mono ?_
      rw [hb]
      rintro e w2 ⟨rfl, rfl⟩
      go_wp2_with fail
      go_ret2
      exact ⟨rfl, hb1⟩
    | true =>
      have h0 : 0 ≤ bits := by simp [bitsIn, inB] at hb; exact hb.1
      obtain ⟨hr0, rfl⟩ : r0 = valueG gs bits ∧ r1 = true := by simpa [fCircuitValue, hg, hb, eq_comm] using hR
      have HR := hide hr0
      clear hR hr0
      subst hv
      go_enter Try.func20, Try.ntmps20
      go_wp2_with fail
      refine (i_IsCircuit _ v gs w h hn0).mono ?_
      rw [hg]
      rintro e w1 ⟨rfl, hb1⟩
      go_wp2_with fail
      refine (i_bitsOk n bits _ hn).mono ?_
      rw [hb]
      rintro e w2 ⟨rfl, rfl⟩
      go_wp2_with fail
      refine (i_circuitValue _ v gs bits _ (h.below hb1) hg h0).mono ?_
      rintro e w3 ⟨rfl, hb3⟩
      go_wp2_with fail
      go_ret2
      exact ⟨by rw [HR.out]; rfl, hb1.trans (hb3.mono hb1.size)⟩

set_option maxHeartbeats 400000 in
theorem I_CountTrue {hi : Nat} (vars : Int) (v : Value) (gs : List GateL) (r0 : Int) (r1 : Bool) (w : World) (h : Gates hi w v gs) (hn0 : szG gs ≤ 1048576) (hR : fCountTrue vars gs = (r0, r1)) :
    Calls Try.prog 22 #[.int .i64 vars, v] w fun e w' => e = .returned (.tuple #[.int .i64 r0, .bool r1]) ∧ Below w.heap.size w w' := by
  cases hg : circB vars gs with
  | false =>
    obtain ⟨rfl, rfl⟩ : r0 = 0 ∧ r1 = false := by simpa [fCountTrue, hg, eq_comm] using hR
    clear hR
    go_enter Try.func22, Try.ntmps22
    go_wp2_with fail
    refine (i_IsCircuit vars v gs w h hn0).mono ?_
    rw [hg]
    rintro e w1 ⟨rfl, hb1⟩
    go_wp2_with fail
    go_ret2
    exact ⟨rfl, hb1⟩
  | true =>
    obtain ⟨n, hv, hn⟩ := varsB_nat (circ_parts hg).1
    subst hv
    obtain ⟨N, hN, hNe, hN1, hN2⟩ := pow_nat hn
    obtain ⟨hr0, rfl⟩ : r0 = (countL gs (rangeFrom 0 N) : Nat) ∧ r1 = true := by
      simp only [fCountTrue, hg, if_true, Int.toNat_natCast, ← hNe] at hR
      injection hR with h1 h2
      exact ⟨h1.symm, h2.symm⟩
    have HR := hide hr0
    clear hR hr0 hNe
    go_enter Try.func22, Try.ntmps22
    go_wp2_with fail
    refine (i_IsCircuit _ v gs w h hn0).mono ?_
    rw [hg]
    rintro e w1 ⟨rfl, hb1⟩
    have h1 := h.below hb1
    go_wp2_with fail
    go_loopw [6, 14] (fun q i wr => ∃ k m : Nat, k ≤ N ∧ m ≤ k ∧ i = .int .i64 k ∧ q = .int .i64 m ∧ Hid (countL gs (rangeFrom 0 N) = m + countL gs (rangeFrom k N)) ∧ Below w1.heap.size w1 wr) (fun _ i _ => N - (intOf i).toNat)
    case atStart => exact ⟨0, 0, by omega, by omega, rfl, rfl, by show _ = _; omega, Below.refl _ _⟩
    case round =>
      obtain ⟨k, m, hk, hm, rfl, rfl, hr, hq⟩ := hrel
      by_cases hlt : k < N
      · have hkr : rangeFrom k N = k :: rangeFrom (k + 1) N := rangeFrom_lt hlt
        have HV := hide (i_circuitValue _ v gs (k : Int) _ (h1.below hq) hg (by omega))
        cases hb : valueG gs (k : Int) with
        | true =>
          have HF := hide (show countL gs (rangeFrom 0 N) = (m + 1) + countL gs (rangeFrom (k + 1) N) by rw [hr.out, hkr]; simp [countL, hb]; omega)
          clear hkr
          go_wp2_with fail
          refine HV.out.mono ?_
          rw [hb]
          rintro e w2 ⟨rfl, hb2⟩
          go_wp2_with fail
          go_roundw
          case rel => exact ⟨k + 1, m + 1, by omega, by omega, by go_num, by go_num, HF.out, hq.trans (hb2.mono hq.size)⟩
          case measure => simp [intOf]; omega
        | false =>
          have HF := hide (show countL gs (rangeFrom 0 N) = m + countL gs (rangeFrom (k + 1) N) by rw [hr.out, hkr]; simp [countL, hb])
          clear hkr
          go_wp2_with fail
          refine HV.out.mono ?_
          rw [hb]
          rintro e w2 ⟨rfl, hb2⟩
          go_wp2_with fail
          go_roundw
          case rel => exact ⟨k + 1, m, by omega, by omega, by go_num, rfl, HF.out, hq.trans (hb2.mono hq.size)⟩
          case measure => simp [intOf]; omega
      · obtain rfl : k = N := by omega
        have HF := hide (show countL gs (rangeFrom 0 k) = m by rw [hr.out, rangeFrom_end]; rfl)
        go_wp2_with fail
        go_ret2
        exact ⟨by rw [HR.out, HF.out]; rfl, hb1.trans (hq.mono hb1.size)⟩

set_option maxHeartbeats 800000 in
theorem i_firstDifferent {hi hi' : Nat} (n : Nat) (va vb : Value) (a b : List GateL) (w : World) (h : Gates hi w va a) (h2 : Gates hi' w vb b) (hga : circB n a = true) (hgb : circB n b = true) (hn : n ≤ 12) :
    Calls Try.prog 49 #[.int .i64 n, va, vb] w fun e w' => e = .returned (.int .i64 (apartG n a b)) ∧ Below w.heap.size w w' := by
  obtain ⟨N, hN, hNe, hN1, hN2⟩ := pow_nat hn
  have HM := hide (show apartG n a b = apartL a b (rangeFrom 0 N) by unfold apartG; rw [hNe]; simp)
  clear hNe
  go_enter Try.func49, Try.ntmps49
  go_wp2_with fail
  go_loopw [10] (fun i wr => ∃ k : Nat, k ≤ N ∧ i = .int .i64 k ∧ Hid (apartL a b (rangeFrom 0 N) = apartL a b (rangeFrom k N)) ∧ Below w.heap.size w wr) (fun i _ => N - (intOf i).toNat)
  case atStart => exact ⟨0, by omega, rfl, rfl, Below.refl _ _⟩
  case round =>
    obtain ⟨k, hk, rfl, hr, hq⟩ := hrel
    by_cases hlt : k < N
    · have hkr : rangeFrom k N = k :: rangeFrom (k + 1) N := rangeFrom_lt hlt
      have HV := hide (i_circuitValue _ va a (k : Int) _ (h.below hq) hga (by omega))
      obtain ⟨x, hx⟩ : ∃ x, valueG a (k : Int) = x := ⟨_, rfl⟩
      obtain ⟨y, hy⟩ : ∃ y, valueG b (k : Int) = y := ⟨_, rfl⟩
      have HX := hide hx
      have HY := hide hy
      have HF1 : Hid (x = y → apartL a b (rangeFrom 0 N) = apartL a b (rangeFrom (k + 1) N)) := fun e => by rw [hr.out, hkr]; simp [apartL, hx, hy, e]
      have HF2 : Hid (¬ x = y → apartL a b (rangeFrom 0 N) = k) := fun e => by rw [hr.out, hkr]; simp [apartL, hx, hy, e]
      clear hkr hx hy
      go_wp2_with fail
      refine HV.out.mono ?_
      rw [HX.out]
      rintro e w2 ⟨rfl, hb2⟩
      have hq2 := hq.trans (hb2.mono hq.size)
      have HV2 := hide (i_circuitValue _ vb b (k : Int) _ (h2.below hq2) hgb (by omega))
      go_wp2_with fail
      refine HV2.out.mono ?_
      rw [HY.out]
      rintro e w3 ⟨rfl, hb3⟩
      have hq3 := hq2.trans (hb3.mono hq2.size)
      cases x <;> cases y
      · have HF := hide (HF1.out rfl)
        clear HF1 HF2
        go_wp2_with fail
        go_roundw
        case rel => exact ⟨k + 1, by omega, by go_num, HF.out, hq3⟩
        case measure => simp [intOf]; omega
      · have HF := hide (HF2.out (by decide))
        clear HF1 HF2
        go_wp2_with fail
        go_ret
        exact ⟨by rw [HM.out, HF.out]; rfl, hq3⟩
      · have HF := hide (HF2.out (by decide))
        clear HF1 HF2
        go_wp2_with fail
        go_ret
        exact ⟨by rw [HM.out, HF.out]; rfl, hq3⟩
      · have HF := hide (HF1.out rfl)
        clear HF1 HF2
        go_wp2_with fail
        go_roundw
        case rel => exact ⟨k + 1, by omega, by go_num, HF.out, hq3⟩
        case measure => simp [intOf]; omega
    · obtain rfl : k = N := by omega
      go_wp2_with fail
      go_ret
      exact ⟨by rw [HM.out, hr.out, rangeFrom_end]; rfl, hq⟩

set_option maxHeartbeats 400000 in
theorem I_SameValues {hi hi' : Nat} (vars : Int) (va : Value) (a : List GateL) (vb : Value) (b : List GateL) (r0 : Bool) (r1 : Bool) (w : World) (h : Gates hi w va a) (h2 : Gates hi' w vb b) (hn0 : szG a ≤ 1048576) (hn1 : szG b ≤ 1048576) (hR : fSameValues vars a b = (r0, r1)) :
    Calls Try.prog 24 #[.int .i64 vars, va, vb] w fun e w' => e = .returned (.tuple #[.bool r0, .bool r1]) ∧ Below w.heap.size w w' := by
  cases hga : circB vars a with
  | false =>
    obtain ⟨rfl, rfl⟩ : r0 = false ∧ r1 = false := by simpa [fSameValues, hga, eq_comm] using hR
    clear hR
    go_enter Try.func24, Try.ntmps24
    go_wp2_with fail
    refine (i_IsCircuit vars va a w h hn0).mono ?_
    rw [hga]
    rintro e w1 ⟨rfl, hb1⟩
    go_wp2_with fail
    go_ret2
    exact ⟨rfl, hb1⟩
  | true =>
    obtain ⟨n, hv, hn⟩ := varsB_nat (circ_parts hga).1
    subst hv
    cases hgb : circB n b with
    | false =>
      obtain ⟨rfl, rfl⟩ : r0 = false ∧ r1 = false := by simpa [fSameValues, hga, hgb, eq_comm] using hR
      clear hR
      go_enter Try.func24, Try.ntmps24
      go_wp2_with fail
      refine (i_IsCircuit _ va a w h hn0).mono ?_
      rw [hga]
      rintro e w1 ⟨rfl, hb1⟩
      have h2' := h2.below hb1
      go_wp2_with fail
      refine (i_IsCircuit _ vb b w1 h2' hn1).mono ?_
      rw [hgb]
      rintro e w2 ⟨rfl, hb2⟩
      go_wp2_with fail
      go_ret2
      exact ⟨rfl, hb1.trans (hb2.mono hb1.size)⟩
    | true =>
      have hR' := hR
      simp only [fSameValues, hga, hgb, if_true] at hR'
      obtain ⟨x, hx⟩ : ∃ x, apartG n a b = x := ⟨_, rfl⟩
      rw [hx] at hR'
      have HX := hide hx
      clear hR hx

      obtain ⟨rfl, rfl⟩ : r0 = decide (x < 0) ∧ r1 = true := by injection hR' with h1 h2; exact ⟨h1.symm, h2.symm⟩
      clear hR'
      go_enter Try.func24, Try.ntmps24
      go_wp2_with fail
      refine (i_IsCircuit _ va a w h hn0).mono ?_
      rw [hga]
      rintro e w1 ⟨rfl, hb1⟩
      have h2' := h2.below hb1
      go_wp2_with fail
      refine (i_IsCircuit _ vb b w1 h2' hn1).mono ?_
      rw [hgb]
      rintro e w2 ⟨rfl, hb2⟩
      have hb12 := hb1.trans (hb2.mono hb1.size)
      go_wp2_with fail
      refine (i_firstDifferent n va vb a b w2 (h.below hb12) (h2'.below hb2) hga hgb hn).mono ?_
      rw [HX.out]
      rintro e w3 ⟨rfl, hb3⟩
      go_wp2_with fail
      go_ret2
      exact ⟨rfl, hb12.trans (hb3.mono hb12.size)⟩

set_option maxHeartbeats 400000 in
theorem I_FirstDifferent {hi hi' : Nat} (vars : Int) (va : Value) (a : List GateL) (vb : Value) (b : List GateL) (r0 : Int) (r1 : Bool) (w : World) (h : Gates hi w va a) (h2 : Gates hi' w vb b) (hn0 : szG a ≤ 1048576) (hn1 : szG b ≤ 1048576) (hR : fFirstDifferent vars a b = (r0, r1)) :
    Calls Try.prog 30 #[.int .i64 vars, va, vb] w fun e w' => e = .returned (.tuple #[.int .i64 r0, .bool r1]) ∧ Below w.heap.size w w' := by
  cases hga : circB vars a with
  | false =>
    obtain ⟨rfl, rfl⟩ : r0 = 0 ∧ r1 = false := by simpa [fFirstDifferent, hga, eq_comm] using hR
    clear hR
    go_enter Try.func30, Try.ntmps30
    go_wp2_with fail
    refine (i_IsCircuit vars va a w h hn0).mono ?_
    rw [hga]
    rintro e w1 ⟨rfl, hb1⟩
    go_wp2_with fail
    go_ret2
    exact ⟨rfl, hb1⟩
  | true =>
    obtain ⟨n, hv, hn⟩ := varsB_nat (circ_parts hga).1
    subst hv
    cases hgb : circB n b with
    | false =>
      obtain ⟨rfl, rfl⟩ : r0 = 0 ∧ r1 = false := by simpa [fFirstDifferent, hga, hgb, eq_comm] using hR
      clear hR
      go_enter Try.func30, Try.ntmps30
      go_wp2_with fail
      refine (i_IsCircuit _ va a w h hn0).mono ?_
      rw [hga]
      rintro e w1 ⟨rfl, hb1⟩
      have h2' := h2.below hb1
      go_wp2_with fail
      refine (i_IsCircuit _ vb b w1 h2' hn1).mono ?_
      rw [hgb]
      rintro e w2 ⟨rfl, hb2⟩
      go_wp2_with fail
      go_ret2
      exact ⟨rfl, hb1.trans (hb2.mono hb1.size)⟩
    | true =>
      have hR' := hR
      simp only [fFirstDifferent, hga, hgb, if_true] at hR'
      obtain ⟨x, hx⟩ : ∃ x, apartG n a b = x := ⟨_, rfl⟩
      rw [hx] at hR'
      have HX := hide hx
      clear hR hx

      by_cases hx0 : x < 0
      · obtain ⟨rfl, rfl⟩ : r0 = 0 ∧ r1 = false := by rw [if_pos hx0] at hR'; injection hR' with h1 h2; exact ⟨h1.symm, h2.symm⟩
        clear hR'
        go_enter Try.func30, Try.ntmps30
        go_wp2_with fail
        refine (i_IsCircuit _ va a w h hn0).mono ?_
        rw [hga]
        rintro e w1 ⟨rfl, hb1⟩
        have h2' := h2.below hb1
        go_wp2_with fail
        refine (i_IsCircuit _ vb b w1 h2' hn1).mono ?_
        rw [hgb]
        rintro e w2 ⟨rfl, hb2⟩
        have hb12 := hb1.trans (hb2.mono hb1.size)
        go_wp2_with fail
        refine (i_firstDifferent n va vb a b w2 (h.below hb12) (h2'.below hb2) hga hgb hn).mono ?_
        rw [HX.out]
        rintro e w3 ⟨rfl, hb3⟩
        go_wp2_with fail
        go_ret2
        exact ⟨rfl, hb12.trans (hb3.mono hb12.size)⟩
      · obtain ⟨rfl, rfl⟩ : r0 = x ∧ r1 = true := by rw [if_neg hx0] at hR'; injection hR' with h1 h2; exact ⟨h1.symm, h2.symm⟩
        clear hR'
        go_enter Try.func30, Try.ntmps30
        go_wp2_with fail
        refine (i_IsCircuit _ va a w h hn0).mono ?_
        rw [hga]
        rintro e w1 ⟨rfl, hb1⟩
        have h2' := h2.below hb1
        go_wp2_with fail
        refine (i_IsCircuit _ vb b w1 h2' hn1).mono ?_
        rw [hgb]
        rintro e w2 ⟨rfl, hb2⟩
        have hb12 := hb1.trans (hb2.mono hb1.size)
        go_wp2_with fail
        refine (i_firstDifferent n va vb a b w2 (h.below hb12) (h2'.below hb2) hga hgb hn).mono ?_
        rw [HX.out]
        rintro e w3 ⟨rfl, hb3⟩
        go_wp2_with fail
        go_ret2
        exact ⟨rfl, hb12.trans (hb3.mono hb12.size)⟩

theorem s_l6BitsG (n : Nat) (bits : Int) (w : World) (hn : n ≤ 12) :
    Calls Try.prog 44 #[.int .i64 n, .int .i64 bits] w fun e w' => e = .returned (.bool (bitsIn n bits)) ∧ w = w' := by
  unfold bitsIn
  rw [Int.toNat_natCast]
  obtain ⟨N, hN, hNe, hN1, hN2⟩ := pow_nat hn
  rw [hN]
  clear hNe
  go_enter Try.func44, Try.ntmps44
  go_wp2_with (go_at_call 50; refine (s_l1In _ _ _ _).mono ?_; rintro e w1 ⟨rfl, rfl⟩)
  go_ret
  exact ⟨rfl, rfl⟩

set_option maxHeartbeats 400000 in
theorem S_CircuitValue {hi : Nat} (vars : Int) (v : Value) (gs : List GateL) (bits : Int) (r0 r1 : Bool) (w : World) (h : Gates hi w v gs) (hn0 : szG gs ≤ 1048576) (hR : fCircuitValue vars gs bits = (r0, r1)) :
    Calls Try.prog 19 #[.int .i64 vars, v, .int .i64 bits] w fun e w' => e = .returned (.tuple #[.bool r0, .bool r1]) ∧ Below w.heap.size w w' := by
  cases hg : circB vars gs with
  | false =>
    obtain ⟨rfl, rfl⟩ : r0 = false ∧ r1 = false := by simpa [fCircuitValue, hg, eq_comm] using hR
    clear hR
    go_enter Try.func19, Try.ntmps19
    go_wp2_with fail
    refine (s_l6Good vars v gs w h hn0).mono ?_
    rw [hg]
    rintro e w1 ⟨rfl, hb1⟩
    go_wp2_with fail
    go_ret2
    exact ⟨rfl, hb1⟩
  | true =>
    obtain ⟨n, hv, hn⟩ := varsB_nat (circ_parts hg).1
    cases hb : bitsIn vars bits with
    | false =>
      obtain ⟨rfl, rfl⟩ : r0 = false ∧ r1 = false := by simpa [fCircuitValue, hg, hb, eq_comm] using hR
      clear hR
      subst hv
      go_enter Try.func19, Try.ntmps19
      go_wp2_with fail
      refine (s_l6Good _ v gs w h hn0).mono ?_
      rw [hg]
      rintro e w1 ⟨rfl, hb1⟩
      go_wp2_with fail
      refine (s_l6BitsG n bits _ hn).mono ?_
      rw [hb]
      rintro e w2 ⟨rfl, rfl⟩
      go_wp2_with fail
      go_ret2
      exact ⟨rfl, hb1⟩
    | true =>
      have h0 : 0 ≤ bits := by simp [bitsIn, inB] at hb; exact hb.1
      obtain ⟨hr0, rfl⟩ : r0 = valueG gs bits ∧ r1 = true := by simpa [fCircuitValue, hg, hb, eq_comm] using hR
      have HR := hide hr0
      clear hR hr0
      subst hv
      go_enter Try.func19, Try.ntmps19
      go_wp2_with fail
      refine (s_l6Good _ v gs w h hn0).mono ?_
      rw [hg]
      rintro e w1 ⟨rfl, hb1⟩
      go_wp2_with fail
      refine (s_l6BitsG n bits _ hn).mono ?_
      rw [hb]
      rintro e w2 ⟨rfl, rfl⟩
      go_wp2_with fail
      refine (s_l6Value _ v gs bits _ (h.below hb1) hg h0).mono ?_
      rintro e w3 ⟨rfl, hb3⟩
      go_wp2_with fail
      go_ret2
      exact ⟨by rw [HR.out]; rfl, hb1.trans (hb3.mono hb1.size)⟩

set_option maxHeartbeats 400000 in
theorem S_CountTrue {hi : Nat} (vars : Int) (v : Value) (gs : List GateL) (r0 : Int) (r1 : Bool) (w : World) (h : Gates hi w v gs) (hn0 : szG gs ≤ 1048576) (hR : fCountTrue vars gs = (r0, r1)) :
    Calls Try.prog 21 #[.int .i64 vars, v] w fun e w' => e = .returned (.tuple #[.int .i64 r0, .bool r1]) ∧ Below w.heap.size w w' := by
  cases hg : circB vars gs with
  | false =>
    obtain ⟨rfl, rfl⟩ : r0 = 0 ∧ r1 = false := by simpa [fCountTrue, hg, eq_comm] using hR
    clear hR
    go_enter Try.func21, Try.ntmps21
    go_wp2_with fail
    refine (s_l6Good vars v gs w h hn0).mono ?_
    rw [hg]
    rintro e w1 ⟨rfl, hb1⟩
    go_wp2_with fail
    go_ret2
    exact ⟨rfl, hb1⟩
  | true =>
    obtain ⟨n, hv, hn⟩ := varsB_nat (circ_parts hg).1
    subst hv
    obtain ⟨N, hN, hNe, hN1, hN2⟩ := pow_nat hn
    obtain ⟨hr0, rfl⟩ : r0 = (countL gs (rangeFrom 0 N) : Nat) ∧ r1 = true := by
      simp only [fCountTrue, hg, if_true, Int.toNat_natCast, ← hNe] at hR
      injection hR with h1 h2
      exact ⟨h1.symm, h2.symm⟩
    have HR := hide hr0
    clear hR hr0 hNe
    go_enter Try.func21, Try.ntmps21
    go_wp2_with fail
    refine (s_l6Good _ v gs w h hn0).mono ?_
    rw [hg]
    rintro e w1 ⟨rfl, hb1⟩
    have h1 := h.below hb1
    go_wp2_with fail
    go_loopw [6, 7] (fun q i wr => ∃ k m : Nat, k ≤ N ∧ m ≤ k ∧ i = .int .i64 k ∧ q = .int .i64 m ∧ Hid (countL gs (rangeFrom 0 N) = m + countL gs (rangeFrom k N)) ∧ Below w1.heap.size w1 wr) (fun _ i _ => N - (intOf i).toNat)
    case atStart => exact ⟨0, 0, by omega, by omega, rfl, rfl, by show _ = _; omega, Below.refl _ _⟩
    case round =>
      obtain ⟨k, m, hk, hm, rfl, rfl, hr, hq⟩ := hrel
      by_cases hlt : k < N
      · have hkr : rangeFrom k N = k :: rangeFrom (k + 1) N := rangeFrom_lt hlt
        have HV := hide (s_l6Value _ v gs (k : Int) _ (h1.below hq) hg (by omega))
        cases hb : valueG gs (k : Int) with
        | true =>
          have HF := hide (show countL gs (rangeFrom 0 N) = (m + 1) + countL gs (rangeFrom (k + 1) N) by rw [hr.out, hkr]; simp [countL, hb]; omega)
          clear hkr
          go_wp2_with fail
          refine HV.out.mono ?_
          rw [hb]
          rintro e w2 ⟨rfl, hb2⟩
          go_wp2_with fail
          go_roundw
          case rel => exact ⟨k + 1, m + 1, by omega, by omega, by go_num, by go_num, HF.out, hq.trans (hb2.mono hq.size)⟩
          case measure => simp [intOf]; omega
        | false =>
          have HF := hide (show countL gs (rangeFrom 0 N) = m + countL gs (rangeFrom (k + 1) N) by rw [hr.out, hkr]; simp [countL, hb])
          clear hkr
          go_wp2_with fail
          refine HV.out.mono ?_
          rw [hb]
          rintro e w2 ⟨rfl, hb2⟩
          go_wp2_with fail
          go_roundw
          case rel => exact ⟨k + 1, m, by omega, by omega, by go_num, rfl, HF.out, hq.trans (hb2.mono hq.size)⟩
          case measure => simp [intOf]; omega
      · obtain rfl : k = N := by omega
        have HF := hide (show countL gs (rangeFrom 0 k) = m by rw [hr.out, rangeFrom_end]; rfl)
        go_wp2_with fail
        go_ret2
        exact ⟨by rw [HR.out, HF.out]; rfl, hb1.trans (hq.mono hb1.size)⟩

set_option maxHeartbeats 800000 in
theorem s_l6Apart {hi hi' : Nat} (n : Nat) (va vb : Value) (a b : List GateL) (w : World) (h : Gates hi w va a) (h2 : Gates hi' w vb b) (hga : circB n a = true) (hgb : circB n b = true) (hn : n ≤ 12) :
    Calls Try.prog 48 #[.int .i64 n, va, vb] w fun e w' => e = .returned (.int .i64 (apartG n a b)) ∧ Below w.heap.size w w' := by
  obtain ⟨N, hN, hNe, hN1, hN2⟩ := pow_nat hn
  have HM := hide (show apartG n a b = apartL a b (rangeFrom 0 N) by unfold apartG; rw [hNe]; simp)
  clear hNe
  go_enter Try.func48, Try.ntmps48
  go_wp2_with fail
  go_loopw [7] (fun i wr => ∃ k : Nat, k ≤ N ∧ i = .int .i64 k ∧ Hid (apartL a b (rangeFrom 0 N) = apartL a b (rangeFrom k N)) ∧ Below w.heap.size w wr) (fun i _ => N - (intOf i).toNat)
  case atStart => exact ⟨0, by omega, rfl, rfl, Below.refl _ _⟩
  case round =>
    obtain ⟨k, hk, rfl, hr, hq⟩ := hrel
    by_cases hlt : k < N
    · have hkr : rangeFrom k N = k :: rangeFrom (k + 1) N := rangeFrom_lt hlt
      have HV := hide (s_l6Value _ va a (k : Int) _ (h.below hq) hga (by omega))
      obtain ⟨x, hx⟩ : ∃ x, valueG a (k : Int) = x := ⟨_, rfl⟩
      obtain ⟨y, hy⟩ : ∃ y, valueG b (k : Int) = y := ⟨_, rfl⟩
      have HX := hide hx
      have HY := hide hy
      have HF1 : Hid (x = y → apartL a b (rangeFrom 0 N) = apartL a b (rangeFrom (k + 1) N)) := fun e => by rw [hr.out, hkr]; simp [apartL, hx, hy, e]
      have HF2 : Hid (¬ x = y → apartL a b (rangeFrom 0 N) = k) := fun e => by rw [hr.out, hkr]; simp [apartL, hx, hy, e]
      clear hkr hx hy
      go_wp2_with fail
      refine HV.out.mono ?_
      rw [HX.out]
      rintro e w2 ⟨rfl, hb2⟩
      have hq2 := hq.trans (hb2.mono hq.size)
      have HV2 := hide (s_l6Value _ vb b (k : Int) _ (h2.below hq2) hgb (by omega))
      go_wp2_with fail
      refine HV2.out.mono ?_
      rw [HY.out]
      rintro e w3 ⟨rfl, hb3⟩
      have hq3 := hq2.trans (hb3.mono hq2.size)
      cases x <;> cases y
      · have HF := hide (HF1.out rfl)
        clear HF1 HF2
        go_wp2_with fail
        go_roundw
        case rel => exact ⟨k + 1, by omega, by go_num, HF.out, hq3⟩
        case measure => simp [intOf]; omega
      · have HF := hide (HF2.out (by decide))
        clear HF1 HF2
        go_wp2_with fail
        go_ret
        exact ⟨by rw [HM.out, HF.out]; rfl, hq3⟩
      · have HF := hide (HF2.out (by decide))
        clear HF1 HF2
        go_wp2_with fail
        go_ret
        exact ⟨by rw [HM.out, HF.out]; rfl, hq3⟩
      · have HF := hide (HF1.out rfl)
        clear HF1 HF2
        go_wp2_with fail
        go_roundw
        case rel => exact ⟨k + 1, by omega, by go_num, HF.out, hq3⟩
        case measure => simp [intOf]; omega
    · obtain rfl : k = N := by omega
      go_wp2_with fail
      go_ret
      exact ⟨by rw [HM.out, hr.out, rangeFrom_end]; rfl, hq⟩

set_option maxHeartbeats 400000 in
theorem S_SameValues {hi hi' : Nat} (vars : Int) (va : Value) (a : List GateL) (vb : Value) (b : List GateL) (r0 : Bool) (r1 : Bool) (w : World) (h : Gates hi w va a) (h2 : Gates hi' w vb b) (hn0 : szG a ≤ 1048576) (hn1 : szG b ≤ 1048576) (hR : fSameValues vars a b = (r0, r1)) :
    Calls Try.prog 23 #[.int .i64 vars, va, vb] w fun e w' => e = .returned (.tuple #[.bool r0, .bool r1]) ∧ Below w.heap.size w w' := by
  cases hga : circB vars a with
  | false =>
    obtain ⟨rfl, rfl⟩ : r0 = false ∧ r1 = false := by simpa [fSameValues, hga, eq_comm] using hR
    clear hR
    go_enter Try.func23, Try.ntmps23
    go_wp2_with fail
    refine (s_l6Good vars va a w h hn0).mono ?_
    rw [hga]
    rintro e w1 ⟨rfl, hb1⟩
    go_wp2_with fail
    go_ret2
    exact ⟨rfl, hb1⟩
  | true =>
    obtain ⟨n, hv, hn⟩ := varsB_nat (circ_parts hga).1
    subst hv
    cases hgb : circB n b with
    | false =>
      obtain ⟨rfl, rfl⟩ : r0 = false ∧ r1 = false := by simpa [fSameValues, hga, hgb, eq_comm] using hR
      clear hR
      go_enter Try.func23, Try.ntmps23
      go_wp2_with fail
      refine (s_l6Good _ va a w h hn0).mono ?_
      rw [hga]
      rintro e w1 ⟨rfl, hb1⟩
      have h2' := h2.below hb1
      go_wp2_with fail
      refine (s_l6Good _ vb b w1 h2' hn1).mono ?_
      rw [hgb]
      rintro e w2 ⟨rfl, hb2⟩
      go_wp2_with fail
      go_ret2
      exact ⟨rfl, hb1.trans (hb2.mono hb1.size)⟩
    | true =>
      have hR' := hR
      simp only [fSameValues, hga, hgb, if_true] at hR'
      obtain ⟨x, hx⟩ : ∃ x, apartG n a b = x := ⟨_, rfl⟩
      rw [hx] at hR'
      have HX := hide hx
      clear hR hx

      obtain ⟨rfl, rfl⟩ : r0 = decide (x < 0) ∧ r1 = true := by injection hR' with h1 h2; exact ⟨h1.symm, h2.symm⟩
      clear hR'
      go_enter Try.func23, Try.ntmps23
      go_wp2_with fail
      refine (s_l6Good _ va a w h hn0).mono ?_
      rw [hga]
      rintro e w1 ⟨rfl, hb1⟩
      have h2' := h2.below hb1
      go_wp2_with fail
      refine (s_l6Good _ vb b w1 h2' hn1).mono ?_
      rw [hgb]
      rintro e w2 ⟨rfl, hb2⟩
      have hb12 := hb1.trans (hb2.mono hb1.size)
      go_wp2_with fail
      refine (s_l6Apart n va vb a b w2 (h.below hb12) (h2'.below hb2) hga hgb hn).mono ?_
      rw [HX.out]
      rintro e w3 ⟨rfl, hb3⟩
      go_wp2_with fail
      go_ret2
      exact ⟨rfl, hb12.trans (hb3.mono hb12.size)⟩

set_option maxHeartbeats 400000 in
theorem S_FirstDifferent {hi hi' : Nat} (vars : Int) (va : Value) (a : List GateL) (vb : Value) (b : List GateL) (r0 : Int) (r1 : Bool) (w : World) (h : Gates hi w va a) (h2 : Gates hi' w vb b) (hn0 : szG a ≤ 1048576) (hn1 : szG b ≤ 1048576) (hR : fFirstDifferent vars a b = (r0, r1)) :
    Calls Try.prog 29 #[.int .i64 vars, va, vb] w fun e w' => e = .returned (.tuple #[.int .i64 r0, .bool r1]) ∧ Below w.heap.size w w' := by
  cases hga : circB vars a with
  | false =>
    obtain ⟨rfl, rfl⟩ : r0 = 0 ∧ r1 = false := by simpa [fFirstDifferent, hga, eq_comm] using hR
    clear hR
    go_enter Try.func29, Try.ntmps29
    go_wp2_with fail
    refine (s_l6Good vars va a w h hn0).mono ?_
    rw [hga]
    rintro e w1 ⟨rfl, hb1⟩
    go_wp2_with fail
    go_ret2
    exact ⟨rfl, hb1⟩
  | true =>
    obtain ⟨n, hv, hn⟩ := varsB_nat (circ_parts hga).1
    subst hv
    cases hgb : circB n b with
    | false =>
      obtain ⟨rfl, rfl⟩ : r0 = 0 ∧ r1 = false := by simpa [fFirstDifferent, hga, hgb, eq_comm] using hR
      clear hR
      go_enter Try.func29, Try.ntmps29
      go_wp2_with fail
      refine (s_l6Good _ va a w h hn0).mono ?_
      rw [hga]
      rintro e w1 ⟨rfl, hb1⟩
      have h2' := h2.below hb1
      go_wp2_with fail
      refine (s_l6Good _ vb b w1 h2' hn1).mono ?_
      rw [hgb]
      rintro e w2 ⟨rfl, hb2⟩
      go_wp2_with fail
      go_ret2
      exact ⟨rfl, hb1.trans (hb2.mono hb1.size)⟩
    | true =>
      have hR' := hR
      simp only [fFirstDifferent, hga, hgb, if_true] at hR'
      obtain ⟨x, hx⟩ : ∃ x, apartG n a b = x := ⟨_, rfl⟩
      rw [hx] at hR'
      have HX := hide hx
      clear hR hx

      by_cases hx0 : x < 0
      · obtain ⟨rfl, rfl⟩ : r0 = 0 ∧ r1 = false := by rw [if_pos hx0] at hR'; injection hR' with h1 h2; exact ⟨h1.symm, h2.symm⟩
        clear hR'
        go_enter Try.func29, Try.ntmps29
        go_wp2_with fail
        refine (s_l6Good _ va a w h hn0).mono ?_
        rw [hga]
        rintro e w1 ⟨rfl, hb1⟩
        have h2' := h2.below hb1
        go_wp2_with fail
        refine (s_l6Good _ vb b w1 h2' hn1).mono ?_
        rw [hgb]
        rintro e w2 ⟨rfl, hb2⟩
        have hb12 := hb1.trans (hb2.mono hb1.size)
        go_wp2_with fail
        refine (s_l6Apart n va vb a b w2 (h.below hb12) (h2'.below hb2) hga hgb hn).mono ?_
        rw [HX.out]
        rintro e w3 ⟨rfl, hb3⟩
        go_wp2_with fail
        go_ret2
        exact ⟨rfl, hb12.trans (hb3.mono hb12.size)⟩
      · obtain ⟨rfl, rfl⟩ : r0 = x ∧ r1 = true := by rw [if_neg hx0] at hR'; injection hR' with h1 h2; exact ⟨h1.symm, h2.symm⟩
        clear hR'
        go_enter Try.func29, Try.ntmps29
        go_wp2_with fail
        refine (s_l6Good _ va a w h hn0).mono ?_
        rw [hga]
        rintro e w1 ⟨rfl, hb1⟩
        have h2' := h2.below hb1
        go_wp2_with fail
        refine (s_l6Good _ vb b w1 h2' hn1).mono ?_
        rw [hgb]
        rintro e w2 ⟨rfl, hb2⟩
        have hb12 := hb1.trans (hb2.mono hb1.size)
        go_wp2_with fail
        refine (s_l6Apart n va vb a b w2 (h.below hb12) (h2'.below hb2) hga hgb hn).mono ?_
        rw [HX.out]
        rintro e w3 ⟨rfl, hb3⟩
        go_wp2_with fail
        go_ret2
        exact ⟨rfl, hb12.trans (hb3.mono hb12.size)⟩

end Go.Proofs.Ytfipchccnbbapaa
