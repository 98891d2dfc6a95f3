/- The walks: gates, circuits. -/
import Derived.Test.YtfipchccnbbapaaGBase
import Derived.Test.YtfipchccnbbapaaClause
namespace Go.Proofs.Ytfipchccnbbapaa
open Go.RowKit
set_option linter.unusedVariables false

/-- is a gate at index i valid? -/
def gateB (vars i : Int) (g : GateL) : Bool :=
  if g.1 = 1 then inB g.2.1 1 vars && (g.2.2 == 0)
  else if g.1 = 2 ∨ g.1 = 3 then (g.2.1 == 0) && (g.2.2 == 0)
  else if g.1 = 4 then inB g.2.1 0 (i - 1) && (g.2.2 == 0)
  else if g.1 = 5 ∨ g.1 = 6 then inB g.2.1 0 (i - 1) && inB g.2.2 0 (i - 1)
  else false

theorem i_gateOk (vars : Int) (i : Nat) (g : GateL) (w : World) (hi : i ≤ 1048576) :
    Calls Try.prog 37 #[.int .i64 vars, .int .i64 i, gv g] w fun e w' => e = .returned (.bool (gateB vars i g)) ∧ Below w.heap.size w w' := by
  obtain ⟨k, a, b⟩ := g
  unfold gv gateB
  dsimp only
  have hb1 : ∀ o, Below w.heap.size w (w.alloc o) := fun o => (Below.refl _ _).alloc (Nat.le_refl _) o
  by_cases h1 : k = 1
  · subst h1
    cases hq : inB a 1 vars with
    | false =>
      go_enter Try.func37, Try.ntmps37
      go_wp2_with (first | (go_at_call 52; refine (i_isVar _ _ _).mono ?_; rintro e w' ⟨rfl, rfl⟩) | (go_at_call 39; refine (i_within _ _ _ _).mono ?_; rintro e w' ⟨rfl, rfl⟩))
      go_ret
      exact ⟨ret_bool (by simp), hb1 _⟩
    | true =>
      go_enter Try.func37, Try.ntmps37
      go_wp2_with (first | (go_at_call 52; refine (i_isVar _ _ _).mono ?_; rintro e w' ⟨rfl, rfl⟩) | (go_at_call 39; refine (i_within _ _ _ _).mono ?_; rintro e w' ⟨rfl, rfl⟩))
      go_ret
      exact ⟨ret_bool (by simp), hb1 _⟩
  by_cases h2 : k = 2
  · subst h2
    cases hq : (a == 0) with
    | false =>
      go_enter Try.func37, Try.ntmps37
      go_wp2_with (first | (go_at_call 52; refine (i_isVar _ _ _).mono ?_; rintro e w' ⟨rfl, rfl⟩) | (go_at_call 39; refine (i_within _ _ _ _).mono ?_; rintro e w' ⟨rfl, rfl⟩))
      go_ret
      exact ⟨ret_bool (by simp), hb1 _⟩
    | true =>
      go_enter Try.func37, Try.ntmps37
      go_wp2_with (first | (go_at_call 52; refine (i_isVar _ _ _).mono ?_; rintro e w' ⟨rfl, rfl⟩) | (go_at_call 39; refine (i_within _ _ _ _).mono ?_; rintro e w' ⟨rfl, rfl⟩))
      go_ret
      exact ⟨ret_bool (by simp), hb1 _⟩
  by_cases h3 : k = 3
  · subst h3
    cases hq : (a == 0) with
    | false =>
      go_enter Try.func37, Try.ntmps37
      go_wp2_with (first | (go_at_call 52; refine (i_isVar _ _ _).mono ?_; rintro e w' ⟨rfl, rfl⟩) | (go_at_call 39; refine (i_within _ _ _ _).mono ?_; rintro e w' ⟨rfl, rfl⟩))
      go_ret
      exact ⟨ret_bool (by simp), hb1 _⟩
    | true =>
      go_enter Try.func37, Try.ntmps37
      go_wp2_with (first | (go_at_call 52; refine (i_isVar _ _ _).mono ?_; rintro e w' ⟨rfl, rfl⟩) | (go_at_call 39; refine (i_within _ _ _ _).mono ?_; rintro e w' ⟨rfl, rfl⟩))
      go_ret
      exact ⟨ret_bool (by simp), hb1 _⟩
  by_cases h4 : k = 4
  · subst h4
    cases hq : inB a 0 ((i : Int) - 1) with
    | false =>
      go_enter Try.func37, Try.ntmps37
      go_wp2_with (first | (go_at_call 52; refine (i_isVar _ _ _).mono ?_; rintro e w' ⟨rfl, rfl⟩) | (go_at_call 39; refine (i_within _ _ _ _).mono ?_; rintro e w' ⟨rfl, rfl⟩))
      go_ret
      exact ⟨ret_bool (by simp), hb1 _⟩
    | true =>
      go_enter Try.func37, Try.ntmps37
      go_wp2_with (first | (go_at_call 52; refine (i_isVar _ _ _).mono ?_; rintro e w' ⟨rfl, rfl⟩) | (go_at_call 39; refine (i_within _ _ _ _).mono ?_; rintro e w' ⟨rfl, rfl⟩))
      go_ret
      exact ⟨ret_bool (by simp), hb1 _⟩
  by_cases h5 : k = 5
  · subst h5
    cases hq : inB a 0 ((i : Int) - 1) with
    | false =>
      go_enter Try.func37, Try.ntmps37
      go_wp2_with (first | (go_at_call 52; refine (i_isVar _ _ _).mono ?_; rintro e w' ⟨rfl, rfl⟩) | (go_at_call 39; refine (i_within _ _ _ _).mono ?_; rintro e w' ⟨rfl, rfl⟩))
      go_ret
      exact ⟨ret_bool (by simp), hb1 _⟩
    | true =>
      go_enter Try.func37, Try.ntmps37
      go_wp2_with (first | (go_at_call 52; refine (i_isVar _ _ _).mono ?_; rintro e w' ⟨rfl, rfl⟩) | (go_at_call 39; refine (i_within _ _ _ _).mono ?_; rintro e w' ⟨rfl, rfl⟩))
      go_ret
      exact ⟨ret_bool (by simp), hb1 _⟩
  by_cases h6 : k = 6
  · subst h6
    cases hq : inB a 0 ((i : Int) - 1) with
    | false =>
      go_enter Try.func37, Try.ntmps37
      go_wp2_with (first | (go_at_call 52; refine (i_isVar _ _ _).mono ?_; rintro e w' ⟨rfl, rfl⟩) | (go_at_call 39; refine (i_within _ _ _ _).mono ?_; rintro e w' ⟨rfl, rfl⟩))
      go_ret
      exact ⟨ret_bool (by simp), hb1 _⟩
    | true =>
      go_enter Try.func37, Try.ntmps37
      go_wp2_with (first | (go_at_call 52; refine (i_isVar _ _ _).mono ?_; rintro e w' ⟨rfl, rfl⟩) | (go_at_call 39; refine (i_within _ _ _ _).mono ?_; rintro e w' ⟨rfl, rfl⟩))
      go_ret
      exact ⟨ret_bool (by simp), hb1 _⟩
  have n1 : (k == 1) = false := by simpa using h1
  have n2 : (k == 2) = false := by simpa using h2
  have n3 : (k == 3) = false := by simpa using h3
  have n4 : (k == 4) = false := by simpa using h4
  have n5 : (k == 5) = false := by simpa using h5
  have n6 : (k == 6) = false := by simpa using h6
  go_enter Try.func37, Try.ntmps37
  go_wp2_with fail
  go_ret
  exact ⟨ret_bool (by simp), hb1 _⟩

theorem s_l6Gate (vars : Int) (i : Nat) (g : GateL) (w : World) (hi : i ≤ 1048576) :
    Calls Try.prog 59 #[.int .i64 vars, gv g, .int .i64 i] w fun e w' => e = .returned (.bool (gateB vars i g)) ∧ Below w.heap.size w w' := by
  obtain ⟨k, a, b⟩ := g
  unfold gv gateB
  dsimp only
  have hb1 : ∀ o, Below w.heap.size w (w.alloc o) := fun o => (Below.refl _ _).alloc (Nat.le_refl _) o
  by_cases h1 : k = 1
  · subst h1
    cases hq : inB a 1 vars with
    | false =>
      go_enter Try.func59, Try.ntmps59
      go_wp2_with (go_at_call 50; refine (s_l1In _ _ _ _).mono ?_; rintro e w' ⟨rfl, rfl⟩)
      go_ret
      exact ⟨ret_bool (by simp), hb1 _⟩
    | true =>
      go_enter Try.func59, Try.ntmps59
      go_wp2_with (go_at_call 50; refine (s_l1In _ _ _ _).mono ?_; rintro e w' ⟨rfl, rfl⟩)
      go_ret
      exact ⟨ret_bool (by simp), hb1 _⟩
  by_cases h2 : k = 2
  · subst h2
    cases hq : (a == 0) with
    | false =>
      go_enter Try.func59, Try.ntmps59
      go_wp2_with (go_at_call 50; refine (s_l1In _ _ _ _).mono ?_; rintro e w' ⟨rfl, rfl⟩)
      go_ret
      exact ⟨ret_bool (by simp), hb1 _⟩
    | true =>
      go_enter Try.func59, Try.ntmps59
      go_wp2_with (go_at_call 50; refine (s_l1In _ _ _ _).mono ?_; rintro e w' ⟨rfl, rfl⟩)
      go_ret
      exact ⟨ret_bool (by simp), hb1 _⟩
  by_cases h3 : k = 3
  · subst h3
    cases hq : (a == 0) with
    | false =>
      go_enter Try.func59, Try.ntmps59
      go_wp2_with (go_at_call 50; refine (s_l1In _ _ _ _).mono ?_; rintro e w' ⟨rfl, rfl⟩)
      go_ret
      exact ⟨ret_bool (by simp), hb1 _⟩
    | true =>
      go_enter Try.func59, Try.ntmps59
      go_wp2_with (go_at_call 50; refine (s_l1In _ _ _ _).mono ?_; rintro e w' ⟨rfl, rfl⟩)
      go_ret
      exact ⟨ret_bool (by simp), hb1 _⟩
  by_cases h4 : k = 4
  · subst h4
    cases hq : inB a 0 ((i : Int) - 1) with
    | false =>
      go_enter Try.func59, Try.ntmps59
      go_wp2_with (go_at_call 50; refine (s_l1In _ _ _ _).mono ?_; rintro e w' ⟨rfl, rfl⟩)
      go_ret
      exact ⟨ret_bool (by simp), hb1 _⟩
    | true =>
      go_enter Try.func59, Try.ntmps59
      go_wp2_with (go_at_call 50; refine (s_l1In _ _ _ _).mono ?_; rintro e w' ⟨rfl, rfl⟩)
      go_ret
      exact ⟨ret_bool (by simp), hb1 _⟩
  by_cases h5 : k = 5
  · subst h5
    cases hq : inB a 0 ((i : Int) - 1) with
    | false =>
      go_enter Try.func59, Try.ntmps59
      go_wp2_with (go_at_call 50; refine (s_l1In _ _ _ _).mono ?_; rintro e w' ⟨rfl, rfl⟩)
      go_ret
      exact ⟨ret_bool (by simp), hb1 _⟩
    | true =>
      go_enter Try.func59, Try.ntmps59
      go_wp2_with (go_at_call 50; refine (s_l1In _ _ _ _).mono ?_; rintro e w' ⟨rfl, rfl⟩)
      go_ret
      exact ⟨ret_bool (by simp), hb1 _⟩
  by_cases h6 : k = 6
  · subst h6
    cases hq : inB a 0 ((i : Int) - 1) with
    | false =>
      go_enter Try.func59, Try.ntmps59
      go_wp2_with (go_at_call 50; refine (s_l1In _ _ _ _).mono ?_; rintro e w' ⟨rfl, rfl⟩)
      go_ret
      exact ⟨ret_bool (by simp), hb1 _⟩
    | true =>
      go_enter Try.func59, Try.ntmps59
      go_wp2_with (go_at_call 50; refine (s_l1In _ _ _ _).mono ?_; rintro e w' ⟨rfl, rfl⟩)
      go_ret
      exact ⟨ret_bool (by simp), hb1 _⟩
  have n1 : (k == 1) = false := by simpa using h1
  have n2 : (k == 2) = false := by simpa using h2
  have n3 : (k == 3) = false := by simpa using h3
  have n4 : (k == 4) = false := by simpa using h4
  have n5 : (k == 5) = false := by simpa using h5
  have n6 : (k == 6) = false := by simpa using h6
  go_enter Try.func59, Try.ntmps59
  go_wp2_with fail
  go_ret
  exact ⟨ret_bool (by simp), hb1 _⟩

def gatesB (vars : Int) : Nat → List GateL → Bool
  | _, [] => true
  | k, g :: r => gateB vars k g && gatesB vars (k + 1) r
/-- is it a circuit? -/
def circB (vars : Int) (gs : List GateL) : Bool := varsB vars && (inB gs.length 1 200 && gatesB vars 0 gs)

set_option maxHeartbeats 400000 in
theorem i_IsCircuit {hi : Nat} (vars : Int) (v : Value) (gs : List GateL) (w : World) (h : Gates hi w v gs) (hn : szG gs ≤ 1048576) :
    Calls Try.prog 15 #[.int .i64 vars, v] w fun e w' => e = .returned (.bool (circB vars gs)) ∧ Below w.heap.size w w' := by
  obtain ⟨A, c, rfl, hc, hm, hrow⟩ := h
  unfold maxLen at hm
  unfold szG at hn
  go_enter Try.func15, Try.ntmps15
  go_wp2_with fail
  go_loopw [9] (fun i wr => ∃ k : Nat, k ≤ gs.length ∧ i = .int .i64 k ∧ Hid (gatesB vars 0 gs = gatesB vars k (gs.drop k)) ∧ Below w.heap.size w wr) (fun i _ => gs.length - (intOf i).toNat)
  case atStart => exact ⟨0, Nat.zero_le _, rfl, rfl, Below.refl _ _⟩
  case round =>
    obtain ⟨k, hk, rfl, hr, hbel⟩ := hrel
    by_cases hlt : k < gs.length
    · obtain ⟨b, off, ⟨g0, g1, g2⟩, rfl, hx, hc0, hc1, hc2⟩ := hrow.gate hlt
      replace hc0 := below_old hbel _ _ hc0
      replace hc1 := below_old hbel _ _ hc1
      replace hc2 := below_old hbel _ _ hc2
      have hal : ∀ o, Below wr.heap.size wr (wr.alloc o) := fun o => (Below.refl _ _).alloc (Nat.le_refl _) o
      have hkk : k ≤ 1048576 := by omega
      have HG := fun W => hide (i_gateOk vars k (g0, g1, g2) W hkk)
      unfold gv at HG
      cases hb : gateB vars k (g0, g1, g2) with
      | true =>
        have HF := hide (show gatesB vars 0 gs = gatesB vars (k + 1) (gs.drop (k + 1)) by rw [hr.out, hx]; simp [gatesB, hb])
        clear hx
        go_wp2_with (go_at_call 37; refine (HG _).out.mono ?_; rintro e w1 ⟨rfl, hb1⟩)
        go_roundw
        case rel => exact ⟨k + 1, by omega, by go_num, HF.out, (hbel.trans ((hal _).mono hbel.size)).trans (hb1.mono (Nat.le_trans hbel.size (hal _).size))⟩
        case measure => simp [intOf]; omega
      | false =>
        have HF := hide (show circB vars gs = false by unfold circB; rw [hr.out, hx]; simp [gatesB, hb])
        clear hx
        go_wp2_with (go_at_call 37; refine (HG _).out.mono ?_; rintro e w1 ⟨rfl, hb1⟩)
        go_ret
        exact ⟨by rw [HF.out]; rfl, (hbel.trans ((hal _).mono hbel.size)).trans (hb1.mono (Nat.le_trans hbel.size (hal _).size))⟩
    · obtain rfl : k = gs.length := by omega
      have HF := hide (show circB vars gs = (varsB vars && inB gs.length 1 200) by unfold circB; rw [hr.out, List.drop_length]; simp [gatesB])
      cases hv : varsB vars with
      | false =>
        go_wp2_with (first | (go_at_call 38; refine (i_varsOk _ _).mono ?_; rintro e w' ⟨rfl, rfl⟩) | (go_at_call 39; refine (i_within _ _ _ _).mono ?_; rintro e w' ⟨rfl, rfl⟩))
        go_ret
        exact ⟨by rw [HF.out, hv]; rfl, hbel⟩
      | true =>
        go_wp2_with (first | (go_at_call 38; refine (i_varsOk _ _).mono ?_; rintro e w' ⟨rfl, rfl⟩) | (go_at_call 39; refine (i_within _ _ _ _).mono ?_; rintro e w' ⟨rfl, rfl⟩))
        go_ret
        exact ⟨by rw [HF.out, hv]; rfl, hbel⟩

set_option maxHeartbeats 400000 in
theorem s_l6Good {hi : Nat} (vars : Int) (v : Value) (gs : List GateL) (w : World) (h : Gates hi w v gs) (hn : szG gs ≤ 1048576) :
    Calls Try.prog 35 #[.int .i64 vars, v] w fun e w' => e = .returned (.bool (circB vars gs)) ∧ Below w.heap.size w w' := by
  obtain ⟨A, c, rfl, hc, hm, hrow⟩ := h
  unfold maxLen at hm
  unfold szG at hn
  cases hv : varsB vars with
  | false =>
    go_enter Try.func35, Try.ntmps35
    go_wp2_with (first | (go_at_call 58; refine (s_l2Vars _ _).mono ?_; rintro e w' ⟨rfl, rfl⟩) | (go_at_call 50; refine (s_l1In _ _ _ _).mono ?_; rintro e w' ⟨rfl, rfl⟩))
    go_ret
    exact ⟨ret_bool (by simp [circB, hv]), Below.refl _ _⟩
  | true =>
    cases hl : inB gs.length 1 200 with
    | false =>
      go_enter Try.func35, Try.ntmps35
      go_wp2_with (first | (go_at_call 58; refine (s_l2Vars _ _).mono ?_; rintro e w' ⟨rfl, rfl⟩) | (go_at_call 50; refine (s_l1In _ _ _ _).mono ?_; rintro e w' ⟨rfl, rfl⟩))
      go_ret
      exact ⟨ret_bool (by simp [circB, hv, hl]), Below.refl _ _⟩
    | true =>
      have HC := hide (show circB vars gs = gatesB vars 0 gs by simp [circB, hv, hl])
      go_enter Try.func35, Try.ntmps35
      go_wp2_with (first | (go_at_call 58; refine (s_l2Vars _ _).mono ?_; rintro e w' ⟨rfl, rfl⟩) | (go_at_call 50; refine (s_l1In _ _ _ _).mono ?_; rintro e w' ⟨rfl, rfl⟩))
      clear hv hl
      go_loopw [5] (fun i wr => ∃ k : Nat, k ≤ gs.length ∧ i = .int .i64 k ∧ Hid (gatesB vars 0 gs = gatesB vars k (gs.drop k)) ∧ Below w.heap.size w wr) (fun i _ => gs.length - (intOf i).toNat)
      case atStart => exact ⟨0, Nat.zero_le _, rfl, rfl, Below.refl _ _⟩
      case round =>
        obtain ⟨k, hk, rfl, hr, hbel⟩ := hrel
        by_cases hlt : k < gs.length
        · obtain ⟨b, off, ⟨g0, g1, g2⟩, rfl, hx, hc0, hc1, hc2⟩ := hrow.gate hlt
          replace hc0 := below_old hbel _ _ hc0
          replace hc1 := below_old hbel _ _ hc1
          replace hc2 := below_old hbel _ _ hc2
          have hkk : k ≤ 1048576 := by omega
          have HG := fun W => hide (s_l6Gate vars k (g0, g1, g2) W hkk)
          unfold gv at HG
          cases hb : gateB vars k (g0, g1, g2) with
          | true =>
            have HF := hide (show gatesB vars 0 gs = gatesB vars (k + 1) (gs.drop (k + 1)) by rw [hr.out, hx]; simp [gatesB, hb])
            clear hx
            go_wp2_with (go_at_call 59; refine (HG _).out.mono ?_; rintro e w1 ⟨rfl, hb1⟩)
            go_roundw
            case rel => exact ⟨k + 1, by omega, by go_num, HF.out, hbel.trans (hb1.mono hbel.size)⟩
            case measure => simp [intOf]; omega
          | false =>
            have HF := hide (show gatesB vars 0 gs = false by rw [hr.out, hx]; simp [gatesB, hb])
            clear hx
            go_wp2_with (go_at_call 59; refine (HG _).out.mono ?_; rintro e w1 ⟨rfl, hb1⟩)
            go_ret
            exact ⟨by rw [HC.out, HF.out]; rfl, hbel.trans (hb1.mono hbel.size)⟩
        · obtain rfl : k = gs.length := by omega
          go_wp2_with fail
          go_ret
          exact ⟨by rw [HC.out, hr.out, List.drop_length]; rfl, hbel⟩

def fIsCircuit (vars : Int) (gs : List GateL) : Bool := circB vars gs
theorem I_IsCircuit {hi : Nat} (vars : Int) (v : Value) (gs : List GateL) (r0 : Bool) (w : World) (h : Gates hi w v gs) (hn0 : szG gs ≤ 1048576) (hR : fIsCircuit vars gs = r0) :
    Calls Try.prog 15 #[.int .i64 vars, v] w fun e w' => e = .returned (.bool r0) ∧ Below w.heap.size w w' :=
  (i_IsCircuit vars v gs w h hn0).mono fun e w' ⟨he, hq⟩ => ⟨by rw [he, ← hR]; rfl, hq⟩
theorem S_IsCircuit {hi : Nat} (vars : Int) (v : Value) (gs : List GateL) (r0 : Bool) (w : World) (h : Gates hi w v gs) (hn0 : szG gs ≤ 1048576) (hR : fIsCircuit vars gs = r0) :
    Calls Try.prog 13 #[.int .i64 vars, v] w fun e w' => e = .returned (.bool r0) ∧ Below w.heap.size w w' := by
  go_enter Try.func13, Try.ntmps13
  go_wp2_with (go_at_call 35; refine (s_l6Good _ _ gs _ h hn0).mono ?_; rintro e w1 ⟨rfl, hb1⟩)
  go_ret
  exact ⟨ret_bool hR, hb1⟩

end Go.Proofs.Ytfipchccnbbapaa
