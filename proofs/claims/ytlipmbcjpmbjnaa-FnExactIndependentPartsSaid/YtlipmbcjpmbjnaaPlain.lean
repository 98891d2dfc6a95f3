/- Plain Lean functions on ints and lists that the program and the reference both compute. No program in sight. -/
import Derived.Lib.Hide
import Derived.Below
import Derived.IntWalk
import Derived.Laws.BitsAllLaws
import Derived.Laws.BitsLemmas
namespace Go.Proofs.Ytlipmbcjpmbjnaa
open Go.RowKit

/-- low ≤ n ≤ high -/
def inB (n low high : Int) : Bool := decide (low ≤ n) && decide (n ≤ high)
/-- the negative, wrapped -/
def negW (l : Int) : Int := wrap64 (-l)
def absW (l : Int) : Int := max l (negW l)
def varW (l : Int) : Int := if l < 0 then negW l else l
def litB (vars l : Int) : Bool := decide (l ≠ 0) && inB l (negW vars) vars
def varsB (vars : Int) : Bool := inB vars 0 12

/-- a clause from a place on, behind the literal p -/
def risesI (vars : Int) : Option Int → List Int → Bool
  | _, [] => true
  | none, l :: r => litB vars l && risesI vars (some l) r
  | some p, l :: r => litB vars l && !decide (absW l ≤ absW p) && risesI vars (some l) r
/-- the same, as the reference computes it -/
def risesS (vars : Int) : Option Int → List Int → Bool
  | _, [] => true
  | none, l :: r => litB vars l && risesS vars (some l) r
  | some p, l :: r => litB vars l && !decide (varW l ≤ varW p) && risesS vars (some l) r

def clauseB (vars : Int) (c : List Int) : Bool := varsB vars && risesS vars none c

theorem negW_in {l : Int} (h : -9223372036854775807 ≤ l ∧ l ≤ 9223372036854775807) : negW l = -l := by
  unfold negW; exact IntWalk.wrap64_in _ (by omega)

theorem litB_iff {vars l : Int} (hv : varsB vars = true) : litB vars l = true ↔ l ≠ 0 ∧ -vars ≤ l ∧ l ≤ vars := by
  have hv' : 0 ≤ vars ∧ vars ≤ 12 := by simpa [varsB, inB] using hv
  unfold litB inB
  rw [negW_in (by omega)]
  simp

theorem absW_small {l : Int} (h : -12 ≤ l ∧ l ≤ 12) : absW l = (l.natAbs : Int) := by
  unfold absW; rw [negW_in (by omega)]; omega
theorem varW_small {l : Int} (h : -12 ≤ l ∧ l ≤ 12) : varW l = (l.natAbs : Int) := by
  unfold varW; rw [negW_in (by omega)]; split <;> omega

theorem rises_eq {vars : Int} (hv : varsB vars = true) : ∀ (c : List Int) (p : Option Int), (∀ q, p = some q → litB vars q = true) → risesI vars p c = risesS vars p c := by
  have hv' : 0 ≤ vars ∧ vars ≤ 12 := by simpa [varsB, inB] using hv
  intro c
  induction c with
  | nil => intro p _; cases p <;> rfl
  | cons l r ih =>
    intro p hp
    cases p with
    | none =>
      cases hl : litB vars l with
      | false => simp [risesI, risesS, hl]
      | true => simp [risesI, risesS, hl, ih (some l) (fun q hq => by injection hq with hq; rw [← hq]; exact hl)]
    | some q =>
      cases hl : litB vars l with
      | false => simp [risesI, risesS, hl]
      | true =>
        have h1 := (litB_iff hv).1 hl
        have h2 := (litB_iff hv).1 (hp q rfl)
        simp [risesI, risesS, hl, ih (some l) (fun q hq => by injection hq with hq; rw [← hq]; exact hl), absW_small (l := l) (by omega), absW_small (l := q) (by omega), varW_small (l := l) (by omega), varW_small (l := q) (by omega)]

theorem clauseB_impl (vars : Int) (c : List Int) : (risesI vars none c && varsB vars) = clauseB vars c := by
  unfold clauseB
  cases hv : varsB vars with
  | false => simp
  | true => simp [rises_eq hv c none (fun q hq => by cases hq)]

/-- the element ahead of place k -/
def prevAt (zs : List Int) : Nat → Option Int
  | 0 => none
  | k + 1 => zs[k]?

theorem prevAt_pos {zs : List Int} {k : Nat} (h : 0 < k) : prevAt zs k = zs[k - 1]? := by
  cases k with
  | zero => omega
  | succ k => rfl

theorem get_of_drop {α : Type} {zs : List α} {k : Nat} {x : α} (h : zs.drop k = x :: zs.drop (k + 1)) : zs[k]? = some x := by
  have := congrArg (fun l => l[0]?) h
  simpa [List.getElem?_drop] using this

theorem within_ok (n low high : Int) : (if low ≤ n then decide (n ≤ high) else false) = inB n low high := by
  unfold inB; split <;> simp [*]

/-- is the number in the list? -/
def hasI (zs : List Int) (x : Int) : Bool := zs.contains x
/-- the first place, from k on, or -1 -/
def idxI (x : Int) : List Int → Nat → Int
  | [], _ => -1
  | y :: r, k => if x = y then (k : Int) else idxI x r (k + 1)
theorem idxI_has (x : Int) : ∀ (zs : List Int) (k : Nat), decide (0 ≤ idxI x zs k) = hasI zs x
  | [], _ => rfl
  | y :: r, k => by
    by_cases h : x = y
    · simp [idxI, hasI, h]
    · simp [idxI, hasI, h, idxI_has x r (k + 1)]
theorem idxI_lo (x : Int) : ∀ (zs : List Int) (k : Nat), -1 ≤ idxI x zs k
  | [], _ => by simp [idxI]
  | y :: r, k => by
    unfold idxI
    split
    · omega
    · exact idxI_lo x r (k + 1)
/-- the first true place, from k on, or -1 -/
def firstT : List Bool → Nat → Int
  | [], _ => -1
  | true :: _, k => (k : Int)
  | false :: r, k => firstT r (k + 1)
theorem firstT_any : ∀ (bs : List Bool) (k : Nat), decide (0 ≤ firstT bs k) = bs.any id
  | [], _ => rfl
  | true :: r, k => by simp [firstT]
  | false :: r, k => by
    have := firstT_any r (k + 1)
    simp [firstT] at this ⊢
    exact this
theorem firstT_lo : ∀ (bs : List Bool) (k : Nat), -1 ≤ firstT bs k
  | [], _ => by simp [firstT]
  | true :: r, k => by
    show -1 ≤ (k : Int)
    omega
  | false :: r, k => by simp [firstT]; exact firstT_lo r (k + 1)

/-- is a part of b? -/
def subI (b a : List Int) : Bool := a.all fun l => hasI b l
/-- a clause without a variable's literal, as the reference has it -/
def withoutI (v : Int) (c : List Int) : List Int := c.filter fun l => varW l != v
/-- 1, -1 or 0 for a clause under an assignment -/
def valueI (a : List Int) : Int → List Int → Int
  | v, [] => v
  | v, l :: r => if hasI a l then 1 else if hasI a (negW l) then valueI a v r else valueI a 0 r

theorem clauseB_vars {vars : Int} {c : List Int} (h : clauseB vars c = true) : varsB vars = true := by
  unfold clauseB at h; simp at h; exact h.1
theorem risesS_lits {vars : Int} : ∀ (c : List Int) (p : Option Int), risesS vars p c = true → ∀ l ∈ c, litB vars l = true
  | [], _, _ => by simp
  | x :: r, p, h => by
    intro l hl
    cases p with
    | none =>
      simp [risesS] at h
      rcases List.mem_cons.1 hl with rfl | hl
      · exact h.1
      · exact risesS_lits r _ h.2 l hl
    | some q =>
      simp [risesS] at h
      rcases List.mem_cons.1 hl with rfl | hl
      · exact h.1.1
      · exact risesS_lits r _ h.2 l hl
theorem clauseB_lits {vars : Int} {c : List Int} (h : clauseB vars c = true) : ∀ l ∈ c, litB vars l = true := by
  have hv := clauseB_vars h
  unfold clauseB at h
  simp [hv] at h
  exact risesS_lits c none h
theorem clauseB_small {vars : Int} {c : List Int} (h : clauseB vars c = true) : ∀ l ∈ c, l ≠ 0 ∧ -12 ≤ l ∧ l ≤ 12 := by
  intro l hl
  have hv := clauseB_vars h
  have hv' : 0 ≤ vars ∧ vars ≤ 12 := by simpa [varsB, inB] using hv
  have := (litB_iff hv).1 (clauseB_lits h l hl)
  omega
theorem without_abs {c : List Int} (h : ∀ l ∈ c, l ≠ 0 ∧ -12 ≤ l ∧ l ≤ 12) (v : Int) : (c.filter fun l => !(absW l == v)) = withoutI v c := by
  unfold withoutI
  refine List.filter_congr fun l hl => ?_
  have := h l hl
  rw [absW_small (by omega), varW_small (by omega)]
  rfl

/-- the k-th bit, as the program reckons it -/
def bitB (bits : Int) (k : Nat) : Bool := Go.bits BinOp.and IntKind.i64 (bits / 2 ^ k) 1 == 1
/-- the first n literals of the total assignment of a number -/
def totalL (bits : Int) : Nat → List Int
  | 0 => []
  | n + 1 => totalL bits n ++ [if bitB bits n then (n : Int) + 1 else -((n : Int) + 1)]
theorem totalL_length (bits : Int) : ∀ n, (totalL bits n).length = n
  | 0 => rfl
  | n + 1 => by simp [totalL, totalL_length bits n]

theorem pow_le {n : Nat} (h : n ≤ 12) : (1 : Int) ≤ 2 ^ n ∧ (2 : Int) ^ n ≤ 4096 := by
  have h1 : (2 : Nat) ^ n ≤ 2 ^ 12 := Nat.pow_le_pow_right (by decide) h
  have h2 : 0 < (2 : Nat) ^ n := Nat.pow_pos (by decide)
  have h3 : ((2 ^ n : Nat) : Int) = (2 : Int) ^ n := Int.natCast_pow 2 n
  have h4 : (2 : Nat) ^ 12 = 4096 := by decide
  omega
/-- is a number the bits of so many variables? -/
def bitsOkB (vars bits : Int) : Bool := inB bits 0 (2 ^ vars.toNat - 1)
def fTotalOf (vars bits : Int) : List Int × Bool := if varsB vars && bitsOkB vars bits then (totalL bits vars.toNat, true) else ([], false)

theorem subI_any (b a : List Int) : (!(a.map fun l => !hasI b l).any id) = subI b a := by
  unfold subI
  induction a with
  | nil => rfl
  | cons x r ih =>
    simp only [List.map_cons, List.any_cons, List.all_cons, id, ← ih]
    cases hasI b x <;> simp
theorem valueI_has {a : List Int} {v : Int} {l : Int} {r : List Int} (h : hasI a l = true) : valueI a v (l :: r) = 1 := by simp [valueI, h]
theorem valueI_neg {a : List Int} {v : Int} {l : Int} {r : List Int} (h : hasI a l = false) (h2 : hasI a (negW l) = true) : valueI a v (l :: r) = valueI a v r := by simp [valueI, h, h2]
theorem valueI_open {a : List Int} {v : Int} {l : Int} {r : List Int} (h : hasI a l = false) (h2 : hasI a (negW l) = false) : valueI a v (l :: r) = valueI a 0 r := by simp [valueI, h, h2]
def orI (a b : Int) : Int := Go.bits BinOp.or IntKind.i64 a b
/-- the number of the true variables -/
def bitsL : Int → List Int → Int
  | acc, [] => acc
  | acc, l :: r => if 0 < l then bitsL (orI acc (2 ^ (l - 1).toNat)) r else bitsL acc r
theorem bitsL_pos {acc : Int} {m : Nat} {r : List Int} : bitsL acc (((m : Int) + 1) :: r) = bitsL (orI acc (2 ^ m)) r := by
  rw [bitsL, if_pos (by omega), show ((m : Int) + 1 - 1).toNat = m from by omega]
theorem bitsL_neg {acc l : Int} {r : List Int} (h : ¬ 0 < l) : bitsL acc (l :: r) = bitsL acc r := by
  rw [bitsL, if_neg h]
def fBitsOfTotal (vars : Int) (a : List Int) : Int × Bool := if clauseB vars a && ((a.length : Int) == vars) then (bitsL 0 a, true) else (0, false)
def fIsPart (vars : Int) (a b : List Int) : Bool × Bool := if clauseB vars a && clauseB vars b then (subI b a, true) else (false, false)
def fDoesExtend (vars : Int) (a b : List Int) : Bool × Bool := fIsPart vars a b
def fValueOfClause (vars : Int) (c a : List Int) : Int × Bool := if clauseB vars c && clauseB vars a then (valueI a (-1) c, true) else (0, false)
def fRemoveVar (vars : Int) (c : List Int) (v : Int) : List Int × Bool := if clauseB vars c && inB v 1 vars then (withoutI v c, true) else ([], false)
def fUnsetVar (vars : Int) (c : List Int) (v : Int) : List Int × Bool := fRemoveVar vars c v
theorem fRemoveVar_len {vars : Int} {c : List Int} {v : Int} {r0 : List Int} {r1 : Bool} (hn : c.length ≤ 1048576) (hR : fRemoveVar vars c v = (r0, r1)) : r0.length ≤ 1048576 := by
  unfold fRemoveVar at hR
  split at hR
  · injection hR with h1 h2
    rw [← h1]
    exact Nat.le_trans (List.length_filter_le _ _) hn
  · injection hR with h1 h2
    rw [← h1]; simp
theorem fUnsetVar_len {vars : Int} {c : List Int} {v : Int} {r0 : List Int} {r1 : Bool} (hn : c.length ≤ 1048576) (hR : fUnsetVar vars c v = (r0, r1)) : r0.length ≤ 1048576 := fRemoveVar_len hn hR

/-- a valid formula -/
def allCl (vars : Int) (t : List (List Int)) : Bool := t.all (clauseB vars)
def goodB (f : Int × List (List Int)) : Bool := varsB f.1 && (decide (f.2.length ≤ 60) && allCl f.1 f.2)
theorem goodB_parts {f : Int × List (List Int)} (h : goodB f = true) : varsB f.1 = true ∧ f.2.length ≤ 60 ∧ ∀ c ∈ f.2, clauseB f.1 c = true := by
  unfold goodB allCl at h
  simp at h
  exact ⟨h.1, h.2.1, h.2.2⟩
theorem allCl_cons (vars : Int) (c : List Int) (r : List (List Int)) : allCl vars (c :: r) = (clauseB vars c && allCl vars r) := by simp [allCl]

/-- is a literal true for bits? -/
def trueL (bits : Int) (l : Int) : Bool := bitB bits (varW l - 1).toNat == decide (0 < l)
def trueB (bits : Int) (c : List Int) : Bool := c.any (trueL bits)
def allB (bits : Int) (t : List (List Int)) : Bool := t.all (trueB bits)
theorem trueB_cons (bits l : Int) (r : List Int) : trueB bits (l :: r) = (trueL bits l || trueB bits r) := by simp [trueB]
theorem allB_cons (bits : Int) (c : List Int) (r : List (List Int)) : allB bits (c :: r) = (trueB bits c && allB bits r) := by simp [allB]
theorem lit_var {l : Int} (h : l ≠ 0 ∧ -12 ≤ l ∧ l ≤ 12) : ∃ m : Nat, m ≤ 11 ∧ varW l = (m : Int) + 1 ∧ absW l = (m : Int) + 1 := by
  refine ⟨l.natAbs - 1, by omega, ?_, ?_⟩
  · rw [varW_small (by omega)]; omega
  · rw [absW_small (by omega)]; omega
theorem trueL_at {bits l : Int} {m : Nat} (h : varW l = (m : Int) + 1) : trueL bits l = (bitB bits m == decide (0 < l)) := by
  unfold trueL; rw [h, show ((m : Int) + 1 - 1).toNat = m from by omega]

/-- the numbers from k on, below N -/
def rangeFrom (k N : Nat) : List Nat := List.range' k (N - k)
theorem rangeFrom_lt {k N : Nat} (h : k < N) : rangeFrom k N = k :: rangeFrom (k + 1) N := by
  unfold rangeFrom
  rw [show N - k = (N - (k + 1)) + 1 from by omega, List.range'_succ]
theorem rangeFrom_end (N : Nat) : rangeFrom N N = [] := by simp [rangeFrom]
def modelsL (t : List (List Int)) (l : List Nat) : List Nat := l.filter fun k => allB (k : Int) t
def modelsF (f : Int × List (List Int)) : List Nat := modelsL f.2 (rangeFrom 0 (2 ^ f.1.toNat))
theorem modelsL_yes {t : List (List Int)} {k : Nat} {r : List Nat} (h : allB (k : Int) t = true) : modelsL t (k :: r) = k :: modelsL t r := by simp [modelsL, h]
theorem modelsL_no {t : List (List Int)} {k : Nat} {r : List Nat} (h : allB (k : Int) t = false) : modelsL t (k :: r) = modelsL t r := by simp [modelsL, h]
/-- the least model, or -1 -/
def firstF (f : Int × List (List Int)) : Int := match (modelsF f).head? with
  | some b => (b : Int)
  | none => -1
def firstL (l : List Nat) : Int := match l.head? with
  | some b => (b : Int)
  | none => -1
theorem firstF_eq (f : Int × List (List Int)) : firstF f = firstL (modelsF f) := rfl
theorem firstL_lo (l : List Nat) : -1 ≤ firstL l := by unfold firstL; split <;> omega
theorem firstL_nil (l : List Nat) : decide (0 ≤ firstL l) = !l.isEmpty := by
  cases l with
  | nil => rfl
  | cons x r => simp [firstL]
def satB (f : Int × List (List Int)) : Bool := !(modelsF f).isEmpty
def impliesL (t : List (List Int)) (c : List Int) (l : List Nat) : Bool := l.all fun k => trueB (k : Int) c || !allB (k : Int) t
def impliesF (f : Int × List (List Int)) (c : List Int) : Bool := impliesL f.2 c (rangeFrom 0 (2 ^ f.1.toNat))
def equivL (t u : List (List Int)) (l : List Nat) : Bool := l.all fun k => allB (k : Int) t == allB (k : Int) u

theorem pow_nat {n : Nat} (h : n ≤ 12) : ∃ N : Nat, (2 : Int) ^ n = (N : Int) ∧ N = 2 ^ n ∧ 1 ≤ N ∧ N ≤ 4096 := by
  obtain ⟨h1, h2⟩ := pow_le h
  have h3 : ((2 ^ n : Nat) : Int) = (2 : Int) ^ n := Int.natCast_pow 2 n
  refine ⟨2 ^ n, h3.symm, rfl, ?_, ?_⟩ <;> omega
theorem goodB_small {f : Int × List (List Int)} (h : goodB f = true) : ∀ c ∈ f.2, ∀ l ∈ c, l ≠ 0 ∧ -12 ≤ l ∧ l ≤ 12 := fun c hc => clauseB_small ((goodB_parts h).2.2 c hc)
theorem varsB_nat {vars : Int} (h : varsB vars = true) : ∃ n : Nat, vars = (n : Int) ∧ n ≤ 12 := by
  have h' : 0 ≤ vars ∧ vars ≤ 12 := by simpa [varsB, inB] using h
  exact ⟨vars.toNat, by omega, by omega⟩

/-- what a search over models does to a state -/
def runM {σ : Type} (t : List (List Int)) (step : σ → Nat → σ) (cont : σ → Nat → Bool) : List Nat → σ → σ
  | [], s => s
  | b :: r, s => if allB (b : Int) t then (if cont s b then runM t step cont r (step s b) else step s b) else runM t step cont r s
theorem runM_no {σ : Type} {t : List (List Int)} {step : σ → Nat → σ} {cont : σ → Nat → Bool} {b : Nat} {r : List Nat} {s : σ} (h : allB (b : Int) t = false) : runM t step cont (b :: r) s = runM t step cont r s := by simp [runM, h]
theorem runM_on {σ : Type} {t : List (List Int)} {step : σ → Nat → σ} {cont : σ → Nat → Bool} {b : Nat} {r : List Nat} {s : σ} (h : allB (b : Int) t = true) (h2 : cont s b = true) : runM t step cont (b :: r) s = runM t step cont r (step s b) := by simp [runM, h, h2]
theorem runM_stop {σ : Type} {t : List (List Int)} {step : σ → Nat → σ} {cont : σ → Nat → Bool} {b : Nat} {r : List Nat} {s : σ} (h : allB (b : Int) t = true) (h2 : cont s b = false) : runM t step cont (b :: r) s = step s b := by simp [runM, h, h2]
theorem runM_count (t : List (List Int)) : ∀ (l : List Nat) (s : Nat), runM t (fun s _ => s + 1) (fun _ _ => true) l s = s + (modelsL t l).length
  | [], s => rfl
  | b :: r, s => by
    cases h : allB (b : Int) t with
    | true => rw [runM_on h rfl, runM_count t r (s + 1), modelsL_yes h]; simp; omega
    | false => rw [runM_no h, runM_count t r s, modelsL_no h]
theorem runM_found (t : List (List Int)) : ∀ (l : List Nat), runM t (fun (_ : Bool) _ => true) (fun _ _ => false) l false = !(modelsL t l).isEmpty
  | [] => rfl
  | b :: r => by
    cases h : allB (b : Int) t with
    | true => rw [runM_stop h rfl, modelsL_yes h]; rfl
    | false => rw [runM_no h, runM_found t r, modelsL_no h]
theorem runM_first (t : List (List Int)) : ∀ (l : List Nat), runM t (fun (_ : Int) b => (b : Int)) (fun _ _ => false) l (-1) = firstL (modelsL t l)
  | [] => rfl
  | b :: r => by
    cases h : allB (b : Int) t with
    | true => rw [runM_stop h rfl, modelsL_yes h]; rfl
    | false => rw [runM_no h, runM_first t r, modelsL_no h]
/-- the models, gathered until there are more than 300 -/
theorem runM_all (t : List (List Int)) : ∀ (l : List Nat) (s : List Int), s.length ≤ 300 → runM t (fun (s : List Int) b => s ++ [(b : Int)]) (fun s _ => decide (s.length + 1 ≤ 300)) l s = (s ++ (modelsL t l).map fun (k : Nat) => (k : Int)).take 301
  | [], s, h => by simp [runM, modelsL]; rw [List.take_of_length_le (by omega)]
  | b :: r, s, h => by
    cases hb : allB (b : Int) t with
    | true =>
      rw [modelsL_yes hb]
      by_cases h3 : s.length + 1 ≤ 300
      · rw [runM_on hb (by simpa using h3), runM_all t r (s ++ [(b : Int)]) (by simpa using h3)]
        simp
      · rw [runM_stop hb (by simpa using h3)]
        have hs : s.length = 300 := by omega
        rw [List.take_append, hs]
        simp [List.take_of_length_le, hs]
    | false => rw [runM_no hb, runM_all t r s h, modelsL_no hb]

end Go.Proofs.Ytlipmbcjpmbjnaa
