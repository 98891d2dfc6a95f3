/- The walks: literals and clauses compared; the exported CompareClauses. -/
import Derived.Test.YtlipmbcjpmbjnaaClause
import Derived.Test.YtlipmbcjpmbjnaaBase
import Derived.Test.YtlipmbcjpmbjnaaOwnT
namespace Go.Proofs.Ytlipmbcjpmbjnaa
open Go.RowKit
set_option linter.unusedVariables false

def sgnI (x y : Int) : Int := if x < y then -1 else if y < x then 1 else 0
def firstNZ : List Int → Int
  | [] => 0
  | x :: r => if x = 0 then firstNZ r else x
def litC (a b : Int) : Int := firstNZ [sgnI (absW a) (absW b), sgnI b a]
def listC : List Int → List Int → Int
  | [], [] => 0
  | [], _ :: _ => -1
  | _ :: _, [] => 1
  | x :: r, y :: s => if litC x y = 0 then listC r s else litC x y
def cmpC (a b : List Int) : Int := firstNZ [sgnI a.length b.length, listC a b]
theorem listC_lt : ∀ (a b : List Int), a.length < b.length → ∀ (k : Nat), k = a.length → listC (a.drop k) (b.drop k) = -1
  | a, b, h, k, hk => by
    subst hk
    rw [List.drop_length, List.drop_eq_getElem_cons h]; rfl

theorem g_isNaN (x : Int) (w : World) : Calls Try.prog 119 #[.int .i64 x] w fun e w' => e = .returned (.bool false) ∧ w = w' := by
  go_enter Try.func119, Try.ntmps119
  go_wp2
  go_ret
  exact ⟨rfl, rfl⟩

theorem g_Compare (x y : Int) (w : World) : Calls Try.prog 86 #[.int .i64 x, .int .i64 y] w fun e w' => e = .returned (.int .i64 (sgnI x y)) ∧ w = w' := by
  by_cases h1 : x < y
  · have H1 := hide h1
    go_enter Try.func86, Try.ntmps86
    go_wp2_with (go_at_call 119; refine (g_isNaN _ _).mono ?_; rintro e w' ⟨rfl, rfl⟩)
    go_ret
    exact ⟨ret_int (by unfold sgnI; rw [if_pos H1.out]), rfl⟩
  · by_cases h2 : y < x
    · have H1 := hide h1
      have H2 := hide h2
      go_enter Try.func86, Try.ntmps86
      go_wp2_with (go_at_call 119; refine (g_isNaN _ _).mono ?_; rintro e w' ⟨rfl, rfl⟩)
      go_ret
      exact ⟨ret_int (by unfold sgnI; rw [if_neg (by have := H1.out; omega), if_pos H2.out]), rfl⟩
    · have H1 := hide h1
      have H2 := hide h2
      go_enter Try.func86, Try.ntmps86
      go_wp2_with (go_at_call 119; refine (g_isNaN _ _).mono ?_; rintro e w' ⟨rfl, rfl⟩)
      go_ret
      exact ⟨ret_int (by unfold sgnI; rw [if_neg (by have := H1.out; omega), if_neg (by have := H2.out; omega)]), rfl⟩

set_option maxHeartbeats 400000 in
theorem g_Or {hi : Nat} (v : Value) (zs : List Int) (w : World) (h : Ints hi w v zs) :
    Calls Try.prog 85 #[v] w fun e w' => e = .returned (.int .i64 (firstNZ zs)) ∧ w = w' := by
  obtain ⟨A, c, rfl, hc, hm, hrow⟩ := h
  unfold maxLen at hm
  go_enter Try.func85, Try.ntmps85
  go_wp2_with fail
  go_loop [8] (fun i => ∃ k : Nat, k ≤ zs.length ∧ i = .int .i64 k ∧ Hid (firstNZ zs = firstNZ (zs.drop k))) (fun i => zs.length - (intOf i).toNat)
  case atStart => exact ⟨0, Nat.zero_le _, rfl, rfl⟩
  case round =>
    obtain ⟨k, hk, rfl, hr⟩ := hrel
    by_cases hlt : k < zs.length
    · obtain ⟨b, off, y, rfl, hx, hcw⟩ := hrow.int hlt
      by_cases hb : y = 0
      · have HF := hide (show firstNZ zs = firstNZ (zs.drop (k + 1)) by rw [hr.out, hx]; simp [firstNZ, hb])
        clear hx
        subst hb
        go_wp2_with fail
        go_round
        case rel => exact ⟨k + 1, by omega, by go_num, HF.out⟩
        case measure => simp [intOf]; omega
      · have HF := hide (show firstNZ zs = y by rw [hr.out, hx]; simp [firstNZ, hb])
        have hb' : (y != 0) = true := by simpa using hb
        clear hx
        go_wp2_with fail
        go_ret
        exact ⟨by rw [HF.out]; rfl, rfl⟩
    · obtain rfl : k = zs.length := by omega
      go_wp2_with fail
      go_ret
      exact ⟨by rw [hr.out, List.drop_length]; rfl, rfl⟩

theorem Ints.lit2 (w : World) (x y : Int) : Ints (w.heap.size + 1) (w.alloc (.cells #[.int .i64 x, .int .i64 y] 3)) (.slice (some ⟨w.heap.size, 0, none⟩) 2 2) [x, y] := by
  refine ⟨_, 2, rfl, Nat.le_refl _, by simp [maxLen], fun _ => ⟨w.heap.size, 0, rfl, by omega, fun j u hu => ?_⟩⟩
  match j, hu with
  | 0, hu => simp at hu; subst hu; simp
  | 1, hu => simp at hu; subst hu; simp

theorem i_compareLiterals (a b : Int) (w : World) : Calls Try.prog 57 #[.int .i64 a, .int .i64 b] w fun e w' => e = .returned (.int .i64 (litC a b)) ∧ Below w.heap.size w w' := by
  have HL := hide (Ints.lit2 w (sgnI (absW a) (absW b)) (sgnI b a))
  have hal : ∀ o, Below w.heap.size w (w.alloc o) := fun o => (Below.refl _ _).alloc (Nat.le_refl _) o
  go_enter Try.func57, Try.ntmps57
  go_wp2_with (first | (go_at_call 71; refine (i_abs _ _).mono ?_; rintro e w' ⟨rfl, rfl⟩) | (go_at_call 86; refine (g_Compare _ _ _).mono ?_; rintro e w' ⟨rfl, rfl⟩) | (go_at_call 85; refine (g_Or _ _ _ HL.out).mono ?_; rintro e w' ⟨rfl, rfl⟩))
  go_ret
  exact ⟨rfl, hal _⟩

set_option maxHeartbeats 800000 in
theorem g_CompareFunc {hi hi' : Nat} (va vb : Value) (a b : List Int) (w : World) (h : Ints hi w va a) (h2 : Ints hi' w vb b) :
    Calls Try.prog 87 #[va, vb, .func (.func 57) #[] #[]] w fun e w' => e = .returned (.int .i64 (listC a b)) ∧ Below w.heap.size w w' := by
  have eg := Go.Proofs.enters_of Try.func57 (by kernel_rfl) rfl
  obtain ⟨A, c, rfl, hc, hm, hrow⟩ := h
  obtain ⟨A2, c2, rfl, hc2, hm2, hrow2⟩ := h2
  unfold maxLen at hm hm2
  go_enter Try.func87, Try.ntmps87
  go_wp2_with fail
  go_loopw [13] (fun i wr => ∃ k : Nat, k ≤ a.length ∧ k ≤ b.length ∧ i = .int .i64 k ∧ Hid (listC a b = listC (a.drop k) (b.drop k)) ∧ Below w.heap.size w wr) (fun i _ => a.length - (intOf i).toNat)
  case atStart => exact ⟨0, Nat.zero_le _, Nat.zero_le _, rfl, rfl, Below.refl _ _⟩
  case round =>
    obtain ⟨k, hk, hk2, rfl, hr, hbel⟩ := hrel
    by_cases hlt : k < a.length
    · obtain ⟨b1, off, x, rfl, hx, hcw⟩ := hrow.int hlt
      replace hcw := below_old hbel _ _ hcw
      by_cases hlt2 : k < b.length
      · obtain ⟨b2, off2, y, rfl, hy, hcw2⟩ := hrow2.int hlt2
        replace hcw2 := below_old hbel _ _ hcw2
        obtain ⟨q, hq⟩ : ∃ q, litC x y = q := ⟨_, rfl⟩
        have HC := hide ((i_compareLiterals x y wr))
        by_cases h0 : q = 0
        · have HF := hide (show listC a b = listC (a.drop (k + 1)) (b.drop (k + 1)) by rw [hr.out, hx, hy]; simp [listC, hq, h0])
          subst h0
          have HQ := hide hq
          clear hx hy hq
          go_wp2_with (go_at_call 57; refine HC.out.mono ?_; rintro e w1 ⟨rfl, hb1⟩; rw [HQ.out])
          go_roundw
          case rel => exact ⟨k + 1, by omega, by omega, by go_num, HF.out, hbel.trans (hb1.mono hbel.size)⟩
          case measure => simp [intOf]; omega
        · have HF := hide (show listC a b = q by rw [hr.out, hx, hy]; simp [listC, hq, h0])
          have hb' : (q != 0) = true := by simpa using h0
          have HQ := hide hq
          clear hx hy hq
          go_wp2_with (go_at_call 57; refine HC.out.mono ?_; rintro e w1 ⟨rfl, hb1⟩; rw [HQ.out])
          go_ret
          exact ⟨by rw [HF.out]; rfl, hbel.trans (hb1.mono hbel.size)⟩
      · have HF := hide (show listC a b = 1 by rw [hr.out, hx, show b.drop k = [] from List.drop_eq_nil_of_le (by omega)]; rfl)
        clear hx
        go_wp2_with fail
        go_ret
        exact ⟨by rw [HF.out]; rfl, hbel⟩
    · obtain rfl : k = a.length := by omega
      by_cases hlt2 : a.length < b.length
      · have HF := hide (show listC a b = -1 by rw [hr.out]; exact listC_lt a b hlt2 _ rfl)
        go_wp2_with fail
        go_ret
        exact ⟨by rw [HF.out]; rfl, hbel⟩
      · have HF := hide (show listC a b = 0 by rw [hr.out, List.drop_length, show b.drop a.length = [] from List.drop_eq_nil_of_le (by omega)]; rfl)
        go_wp2_with fail
        go_ret
        exact ⟨by rw [HF.out]; rfl, hbel⟩

theorem i_compareClauses {hi hi' : Nat} (va vb : Value) (a b : List Int) (w : World) (h : Ints hi w va a) (h2 : Ints hi' w vb b) :
    Calls Try.prog 49 #[va, vb] w fun e w' => e = .returned (.int .i64 (cmpC a b)) ∧ Below w.heap.size w w' := by
  have HC := hide (g_CompareFunc va vb a b w h h2)
  obtain ⟨A, c, rfl, -⟩ := h
  obtain ⟨A2, c2, rfl, -⟩ := h2
  have HL := fun w1 => hide (Ints.lit2 w1 (sgnI a.length b.length) (listC a b))
  have hal : ∀ (w1 : World) o, Below w1.heap.size w1 (w1.alloc o) := fun w1 o => (Below.refl _ _).alloc (Nat.le_refl _) o
  go_enter Try.func49, Try.ntmps49
  go_wp2_with (first | (go_at_call 86; refine (g_Compare _ _ _).mono ?_; rintro e w' ⟨rfl, rfl⟩) | (go_at_call 87; refine HC.out.mono ?_; rintro e w1 ⟨rfl, hb1⟩) | (go_at_call 85; refine (g_Or _ _ _ (HL w1).out).mono ?_; rintro e w' ⟨rfl, rfl⟩))
  go_ret
  exact ⟨rfl, hb1.trans ((hal w1 _).mono hb1.size)⟩

/-! the reference -/
/-- a callee at a region that draws its order, behind some draws -/
theorem quietE2 {P : Program} {f : FuncId} {args : Array Value} {w : World} {a n : Nat} {v : Value}
    (h : Calls P f args (w.drewN (a + n)) fun e w' => e = .returned v ∧ w.drewN (a + n) = w') : Calls P f args (w.drewN (a + n)) fun e w'' => e = .returned v ∧ ∃ m, w'' = w.drewN (a + m) :=
  h.mono fun _ _ ⟨he, hm⟩ => ⟨he, n, hm.symm⟩

def keyI (l : Int) : Int := if l < 0 then -2 * l + 1 else 2 * l
def beforeL : List Int → List Int → Bool
  | x :: r, y :: s => if x = y then beforeL r s else decide (keyI x < keyI y)
  | _, _ => false
def beforeB (a b : List Int) : Bool := if a.length = b.length then beforeL a b else decide (a.length < b.length)

theorem s_l2Key (l : Int) (w : World) (hl : -12 ≤ l ∧ l ≤ 12) : Calls Try.prog 141 #[.int .i64 l] w fun e w' => e = .returned (.int .i64 (keyI l)) ∧ w = w' := by
  by_cases h : l < 0
  · have H := hide h
    go_enter Try.func141, Try.ntmps141
    go_wp2
    go_ret
    exact ⟨ret_int (by unfold keyI; rw [if_pos H.out]), rfl⟩
  · have H := hide h
    go_enter Try.func141, Try.ntmps141
    go_wp2
    go_ret
    exact ⟨ret_int (by unfold keyI; rw [if_neg (by have := H.out; omega)]), rfl⟩

set_option maxHeartbeats 800000 in
theorem s_l2Before {hi hi' : Nat} (va vb : Value) (a b : List Int) (w : World) (h : Ints hi w va a) (h2 : Ints hi' w vb b) (ha : ∀ l ∈ a, l ≠ 0 ∧ -12 ≤ l ∧ l ≤ 12) (hb : ∀ l ∈ b, l ≠ 0 ∧ -12 ≤ l ∧ l ≤ 12) :
    Calls Try.prog 108 #[va, vb] w fun e w' => e = .returned (.bool (beforeB a b)) ∧ Quiet w w' := by
  obtain ⟨A, c, rfl, hc, hm, hrow⟩ := h
  obtain ⟨A2, c2, rfl, hc2, hm2, hrow2⟩ := h2
  unfold maxLen at hm hm2
  have HA := hide ha
  have HB := hide hb
  clear ha hb
  by_cases hlen : a.length = b.length
  · have HR := hide (show beforeB a b = beforeL a b by unfold beforeB; rw [if_pos hlen])
    rw [← hlen] at hc2
    have HN := hide hlen
    rw [← hlen]
    clear hlen
    go_enter Try.func108, Try.ntmps108
    go_wp2_with fail
    go_loopw [5] (fun i wr => ∃ k : Nat, k ≤ a.length ∧ i = .int .i64 k ∧ Hid (beforeL a b = beforeL (a.drop k) (b.drop k)) ∧ Quiet w wr) (fun i _ => a.length - (intOf i).toNat)
    case atStart => exact ⟨0, Nat.zero_le _, rfl, rfl, Quiet.refl _⟩
    case round =>
      obtain ⟨k, hk, rfl, hr, hq⟩ := hrel
      by_cases hlt : k < a.length
      · obtain ⟨b1, off, x, rfl, hx, hcw⟩ := hrow.int hlt
        obtain ⟨b2, off2, y, rfl, hy, hcw2⟩ := hrow2.int (k := k) (by rw [← HN.out]; exact hlt)
        rw [← hq.cell] at hcw hcw2
        have HX := hide (HA.out x (List.mem_of_getElem? (get_of_drop hx))).2
        have HY := hide (HB.out y (List.mem_of_getElem? (get_of_drop hy))).2
        by_cases he : x = y
        · have HF := hide (show beforeL a b = beforeL (a.drop (k + 1)) (b.drop (k + 1)) by rw [hr.out, hx, hy]; simp [beforeL, he])
          subst he
          clear hx hy
          go_wp2_with fail
          go_quiet (fail)
          go_wp2_with fail
          go_roundw
          case rel => exact ⟨k + 1, by omega, by go_num, HF.out, hq.drewN _⟩
          case measure => simp [intOf]; omega
        · have HF := hide (show beforeL a b = decide (keyI x < keyI y) by rw [hr.out, hx, hy]; simp [beforeL, he])
          have he' : (x != y) = true := by simpa using he
          clear hx hy
          go_wp2_with fail
          go_quiet (fail)
          go_wp2_with fail
          go_quiet ((go_at_call 141; exact quietE2 (s_l2Key _ _ (by first | exact HX.out | exact HY.out))))
          go_wp2_with fail
          go_ret
          exact ⟨by rw [HR.out, HF.out]; rfl, (hq.drewN _).drewN _⟩
      · obtain rfl : k = a.length := by omega
        go_wp2_with fail
        go_ret
        exact ⟨by rw [HR.out, hr.out, List.drop_length]; rfl, hq⟩
  · have HR := hide (show beforeB a b = decide (a.length < b.length) by unfold beforeB; rw [if_neg hlen])
    have hd : ((a.length : Int) != (b.length : Int)) = true := by simp; omega
    go_enter Try.func108, Try.ntmps108
    go_wp2_with fail
    go_ret
    exact ⟨by rw [HR.out]; simp, Quiet.refl _⟩

/-! the plain law -/
theorem key_lit {x y : Int} (hx : x ≠ 0 ∧ -12 ≤ x ∧ x ≤ 12) (hy : y ≠ 0 ∧ -12 ≤ y ∧ y ≤ 12) : litC x y = if x = y then 0 else if keyI x < keyI y then -1 else 1 := by
  unfold litC firstNZ firstNZ firstNZ sgnI keyI
  rw [absW_small (by omega), absW_small (by omega)]
  repeat' split
  all_goals omega
theorem listC_before : ∀ (a b : List Int), a.length = b.length → (∀ l ∈ a, l ≠ 0 ∧ -12 ≤ l ∧ l ≤ 12) → (∀ l ∈ b, l ≠ 0 ∧ -12 ≤ l ∧ l ≤ 12) →
    listC a b = if beforeL a b then -1 else if beforeL b a then 1 else 0
  | [], [], _, _, _ => rfl
  | [], _ :: _, h, _, _ => by simp at h
  | _ :: _, [], h, _, _ => by simp at h
  | x :: r, y :: s, h, ha, hb => by
    have ih := listC_before r s (by simpa using h) (fun l hl => ha l (List.mem_cons_of_mem _ hl)) (fun l hl => hb l (List.mem_cons_of_mem _ hl))
    have h1 := ha x (by simp)
    have h2 := hb y (by simp)
    unfold listC
    rw [key_lit h1 h2, ih]
    by_cases he : x = y
    · subst he; simp [beforeL]
    · have he' : ¬ y = x := fun e => he e.symm
      simp only [he, if_false, beforeL, he']
      have hk : keyI x ≠ keyI y := by unfold keyI; split <;> split <;> omega
      by_cases hlt : keyI x < keyI y
      · simp [hlt]
      · rw [if_neg hlt]
        have : keyI y < keyI x := by omega
        simp [hlt, this]
theorem cmpC_before {a b : List Int} (ha : ∀ l ∈ a, l ≠ 0 ∧ -12 ≤ l ∧ l ≤ 12) (hb : ∀ l ∈ b, l ≠ 0 ∧ -12 ≤ l ∧ l ≤ 12) :
    cmpC a b = if beforeB a b then -1 else if beforeB b a then 1 else 0 := by
  unfold cmpC beforeB firstNZ firstNZ firstNZ sgnI
  by_cases h : a.length = b.length
  · rw [if_pos h, if_pos h.symm, listC_before a b h ha hb]
    rw [if_neg (show ¬((a.length : Int) < b.length) by omega), if_neg (show ¬((b.length : Int) < a.length) by omega)]
    cases beforeL a b <;> cases beforeL b a <;> simp
  · have h' : ¬ b.length = a.length := fun e => h e.symm
    rw [if_neg h, if_neg h']
    by_cases hl : a.length < b.length
    · rw [if_pos (show (a.length : Int) < b.length by omega)]; simp [hl]
    · rw [if_neg (show ¬ (a.length : Int) < b.length by omega), if_pos (show (b.length : Int) < a.length by omega)]
      have : b.length < a.length := by omega
      simp [hl, this]

def fCompareClauses (vars : Int) (a b : List Int) : Int × Bool := if clauseB vars a && clauseB vars b then (cmpC a b, true) else (0, false)

end Go.Proofs.Ytlipmbcjpmbjnaa
