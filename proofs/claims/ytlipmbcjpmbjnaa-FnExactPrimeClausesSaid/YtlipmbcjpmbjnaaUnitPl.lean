/- Plain laws: the open literals of unit clauses, sorted, each once. -/
import Derived.Test.YtlipmbcjpmbjnaaCmpC
import Derived.Test.YtlipmbcjpmbjnaaPurePl
namespace Go.Proofs.Ytlipmbcjpmbjnaa
open Go.RowKit
set_option linter.unusedVariables false

def leftL (a c : List Int) : List Int := c.filter fun l => !hasI a (wrap64 (-l))
def unitL (a c : List Int) : Int := if valueI a (-1) c = 0 then (if (leftL a c).length = 1 then (leftL a c).headD 0 else 0) else 0
def unitsL (a : List Int) (t : List (List Int)) : List Int := (t.map (unitL a)).filter fun l => l != 0
/-- before, in the order of literals -/
def litLt (x y : Int) : Bool := decide (litC x y < 0)
theorem litLt_iff (x y : Int) : litLt x y = true ↔ absW x < absW y ∨ (absW x = absW y ∧ y < x) := by
  unfold litLt litC firstNZ firstNZ firstNZ sgnI
  simp only [decide_eq_true_eq]
  split <;> split <;> (try split) <;> (try split) <;> omega
theorem absW_eq {x y : Int} (h : absW x = absW y) : True := trivial
theorem litLt_irrefl (x : Int) : litLt x x = false := by
  cases h : litLt x x with
  | false => rfl
  | true => have := (litLt_iff x x).1 h; omega
theorem litLt_trans (x y z : Int) (h1 : litLt x y = true) (h2 : litLt y z = true) : litLt x z = true := by
  rw [litLt_iff] at h1 h2 ⊢
  omega
theorem litLt_tri (x y : Int) (h1 : litLt x y = false) (h2 : litLt y x = false) : x = y := by
  have a1 : ¬ (absW x < absW y ∨ (absW x = absW y ∧ y < x)) := fun h => by rw [(litLt_iff x y).2 h] at h1; cases h1
  have a2 : ¬ (absW y < absW x ∨ (absW y = absW x ∧ x < y)) := fun h => by rw [(litLt_iff y x).2 h] at h2; cases h2
  omega
theorem litLt_swo : Sort.SWO litLt := ⟨litLt_irrefl, litLt_trans, fun x y z h1 h2 => by
  cases h3 : litLt x z with
  | false => rfl
  | true =>
    cases h4 : litLt y x with
    | true => have := litLt_trans y x z h4 h3; rw [this] at h2; cases h2
    | false =>
      obtain rfl := litLt_tri x y h1 h4
      rw [h3] at h2; cases h2⟩
section
variable {α : Type} [Inhabited α] [DecidableEq α] (lt : α → α → Bool) (hirr : ∀ x, lt x x = false) (htr : ∀ x y z, lt x y = true → lt y z = true → lt x z = true) (htri : ∀ x y, lt x y = false → lt y x = false → x = y)
omit [Inhabited α] [DecidableEq α] in
include hirr htr in
theorem asc_extR : ∀ (a b : List α), a.Pairwise (fun x y => lt x y = true) → b.Pairwise (fun x y => lt x y = true) → (∀ z, z ∈ a ↔ z ∈ b) → a = b
  | [], [], _, _, _ => rfl
  | [], y :: b, _, _, h => absurd ((h y).2 (by simp)) (by simp)
  | x :: a, [], _, _, h => absurd ((h x).1 (by simp)) (by simp)
  | x :: a, y :: b, h1, h2, h => by
    obtain ⟨p1, p2⟩ := List.pairwise_cons.1 h1
    obtain ⟨q1, q2⟩ := List.pairwise_cons.1 h2
    have e : x = y := by
      rcases List.mem_cons.1 ((h x).1 (by simp)) with e | e
      · exact e
      · rcases List.mem_cons.1 ((h y).2 (by simp)) with e' | e'
        · exact e'.symm
        · have := htr _ _ _ (p1 y e') (q1 x e); rw [hirr] at this; cases this
    subst e
    rw [asc_extR a b p2 q2 fun z => ?_]
    constructor
    · intro hz
      rcases List.mem_cons.1 ((h z).1 (List.mem_cons_of_mem _ hz)) with e | e
      · have := p1 z hz; rw [e, hirr] at this; cases this
      · exact e
    · intro hz
      rcases List.mem_cons.1 ((h z).2 (List.mem_cons_of_mem _ hz)) with e | e
      · have := q1 z hz; rw [e, hirr] at this; cases this
      · exact e
include htri in
theorem compact_ascR (L : List α) (hs : L.Pairwise (fun x y => lt y x = false)) : ∀ m, m ≤ L.length → (Lib.compactUpTo L.toArray m).Pairwise (fun x y => lt x y = true) ∧ ∀ z, z ∈ Lib.compactUpTo L.toArray m ↔ z ∈ L.take m
  | 0, _ => by simp [Lib.compactUpTo]
  | m + 1, hm => by
    obtain ⟨h1, h2⟩ := compact_ascR L hs m (by omega)
    have hget : L.toArray[m]! = L[m] := by simp [getElem!_pos, show m < L.length from hm]
    have hget1 : L.toArray[m - 1]! = L[m - 1]'(by omega) := by simp [getElem!_pos, show m - 1 < L.length by omega]
    rw [Lib.compactUpTo_succ, hget]
    have htk : L.take (m + 1) = L.take m ++ [L[m]] := by rw [List.take_add_one, List.getElem?_eq_getElem hm]; rfl
    have hso : ∀ i j (hi : i < L.length) (hj : j < L.length), i < j → lt L[j] L[i] = false := fun i j hi hj hij => List.pairwise_iff_getElem.1 hs i j hi hj hij
    by_cases hk : Lib.keeps L.toArray m = true
    · rw [if_pos hk]
      have hne : m = 0 ∨ L[m] ≠ L[m - 1]'(by omega) := by
        have := hk
        simp only [Lib.keeps, decide_eq_true_eq] at this
        rcases this with h | h
        · exact .inl h
        · rw [hget, hget1] at h
          exact .inr h
      refine ⟨List.pairwise_append.2 ⟨h1, List.pairwise_singleton _ _, fun a ha b hb => ?_⟩, fun z => ?_⟩
      · rw [List.mem_singleton.1 hb]
        have ha' := (h2 a).1 ha
        obtain ⟨i, hi, rfl⟩ := List.mem_iff_getElem.1 ha'
        have hi' : i < m := by simp at hi; omega
        rw [List.getElem_take]
        cases hl : lt L[i] L[m] with
        | true => rfl
        | false =>
          have e1 := htri _ _ hl (hso i m (by omega) hm hi')
          rcases hne with h0 | hne
          · omega
          · rcases Nat.lt_or_ge i (m - 1) with hlt | hge
            · have a1 := hso i (m - 1) (by omega) (by omega) hlt
              rw [e1] at a1
              exact absurd (htri _ _ (hso (m - 1) m (by omega) hm (by omega)) a1) hne
            · obtain rfl : i = m - 1 := by omega
              exact absurd e1.symm hne
      · rw [htk, List.mem_append, List.mem_append, h2]
    · rw [if_neg hk, List.append_nil]
      refine ⟨h1, fun z => ?_⟩
      have hk' : ¬ (m = 0 ∨ L.toArray[m]! ≠ L.toArray[m - 1]!) := by simpa [Lib.keeps] using hk
      have h0 : m ≠ 0 := fun e => hk' (.inl e)
      have he : L[m] = L[m - 1]'(by omega) := by
        rw [hget, hget1] at hk'
        exact Classical.byContradiction fun e => hk' (.inr e)
      rw [htk, List.mem_append, h2, List.mem_singleton]
      constructor
      · exact .inl
      · rintro (h | h)
        · exact h
        · rw [h, he]
          exact List.mem_iff_getElem.2 ⟨m - 1, by simp; omega, by rw [List.getElem_take]⟩
end
def sortU (L : List Int) : List Int := L.mergeSort fun x y => !litLt y x
theorem sortU_len (L : List Int) : (sortU L).length = L.length := List.length_mergeSort L
theorem sortU_asc (L : List Int) : (sortU L).Pairwise fun x y => litLt y x = false := by
  have := List.pairwise_mergeSort (le := fun (x y : Int) => !litLt y x) (by
    intro a b c h1 h2
    have h1 : litLt b a = false := by simpa using h1
    have h2 : litLt c b = false := by simpa using h2
    simpa using litLt_swo.ntrans c b a h2 h1) (by
    intro a b
    cases h1 : litLt b a with
    | false => simp
    | true =>
      cases h2 : litLt a b with
      | false => simp
      | true => have := litLt_trans a b a h2 h1; rw [litLt_irrefl] at this; cases this) L
  exact this.imp (by simp)
/-- the literals 1, -1, 2, -2 .. -/
def cand (k n : Nat) : List Int := (oneTo k n).flatMap fun v => [v, -v]
theorem cand_mem {k n : Nat} {z : Int} : z ∈ cand k n ↔ z ≠ 0 ∧ (k : Int) < z.natAbs ∧ z.natAbs ≤ n := by
  unfold cand oneTo
  rw [List.mem_flatMap]
  constructor
  · rintro ⟨v, hv, hz⟩
    obtain ⟨i, hi, rfl⟩ := List.mem_map.1 hv
    unfold rangeFrom at hi
    rw [List.mem_range'_1] at hi
    simp at hz
    omega
  · rintro ⟨h0, h1, h2⟩
    refine ⟨(z.natAbs : Int), List.mem_map.2 ⟨z.natAbs - 1, ?_, by omega⟩, by simp; omega⟩
    unfold rangeFrom
    rw [List.mem_range'_1]
    omega
theorem cand_asc (n : Nat) (hn : n ≤ 12) : ∀ (d k : Nat), n - k = d → k ≤ n → (cand k n).Pairwise fun x y => litLt x y = true
  | 0, k, hd, hk => by
    obtain rfl : k = n := by omega
    unfold cand; rw [oneTo_end]; simp
  | d + 1, k, hd, hk => by
    have ih := cand_asc n hn d (k + 1) (by omega) (by omega)
    have hc : cand k n = ((k : Int) + 1) :: -((k : Int) + 1) :: cand (k + 1) n := by unfold cand; rw [oneTo_lt (by omega)]; rfl
    have hlt : ∀ z ∈ cand (k + 1) n, ∀ x : Int, x.natAbs = k + 1 → litLt x z = true := fun z hz x hx => by
      have h := cand_mem.1 hz
      rw [litLt_iff, absW_small (by omega), absW_small (by omega)]
      omega
    rw [hc]
    refine List.pairwise_cons.2 ⟨fun z hz => ?_, List.pairwise_cons.2 ⟨fun z hz => hlt z hz _ (by omega), ih⟩⟩
    rcases List.mem_cons.1 hz with rfl | hz
    · rw [litLt_iff, absW_small (by omega), absW_small (by omega)]; omega
    · exact hlt z hz _ (by omega)
theorem unitL_mem {a c : List Int} (h : unitL a c ≠ 0) : unitL a c ∈ c := by
  unfold unitL at h ⊢
  split at h
  · rename_i h1
    split at h
    · rename_i h2
      rw [if_pos h1, if_pos h2]
      match hl : leftL a c, h2 with
      | [x], _ =>
        have : x ∈ leftL a c := by rw [hl]; simp
        unfold leftL at this
        simpa using (List.mem_filter.1 this).1
    · exact absurd rfl h
  · exact absurd rfl h
def fUnitLiterals (f : CnfL) (a : List Int) : List Int × Bool := if goodB f && clauseB f.1 a then (Lib.compact (sortU (unitsL a f.2)), true) else ([], false)
theorem units_eq {n : Nat} {t : List (List Int)} (a : List Int) (hg : goodB ((n : Int), t) = true) (hn : n ≤ 12) : Lib.compact (sortU (unitsL a t)) = (cand 0 n).filter fun l => (unitsL a t).contains l := by
  have hlit : ∀ c ∈ t, ∀ l ∈ c, l ≠ 0 ∧ -(n : Int) ≤ l ∧ l ≤ n := fun c hc l hl => (litB_iff (goodB_parts hg).1).1 (clauseB_lits ((goodB_parts hg).2.2 c hc) l hl)
  obtain ⟨h1, h2⟩ := compact_ascR litLt litLt_tri (sortU (unitsL a t)) (sortU_asc _) (sortU (unitsL a t)).length (Nat.le_refl _)
  refine asc_extR litLt litLt_irrefl litLt_trans _ _ h1 (List.Pairwise.filter _ (cand_asc n hn n 0 (by omega) (by omega))) fun z => ?_
  rw [show Lib.compact (sortU (unitsL a t)) = Lib.compactUpTo (sortU (unitsL a t)).toArray (sortU (unitsL a t)).length from rfl, h2, List.take_length, List.mem_filter, cand_mem]
  have hm : z ∈ sortU (unitsL a t) ↔ z ∈ unitsL a t := by unfold sortU; exact List.mem_mergeSort
  rw [hm]
  constructor
  · intro hz
    refine ⟨?_, by simpa using hz⟩
    obtain ⟨h3, h4⟩ := List.mem_filter.1 hz
    obtain ⟨c, hc, rfl⟩ := List.mem_map.1 h3
    have h0 : unitL a c ≠ 0 := by simpa using h4
    have := hlit c hc _ (unitL_mem h0)
    omega
  · rintro ⟨_, hz⟩
    simpa using hz
theorem unitsL_len (a : List Int) (t : List (List Int)) : (unitsL a t).length ≤ t.length := by
  unfold unitsL
  exact Nat.le_trans (List.length_filter_le _ _) (by simp)
theorem fUnitLiterals_len {f : CnfL} {a r0 : List Int} {r1 : Bool} (hn : szC f ≤ 1048576) (hn1 : a.length ≤ 1048576) (hR : fUnitLiterals f a = (r0, r1)) : r0.length ≤ 1048576 := by
  unfold fUnitLiterals at hR
  split at hR
  · rename_i hg
    injection hR with h1 _
    have h2 := goodB_len (f := f) (by simp at hg; exact hg.1)
    have h3 := Lib.compact_length_le (sortU (unitsL a f.2))
    rw [sortU_len] at h3
    have h4 := unitsL_len a f.2
    rw [← h1]; omega
  · injection hR with h1 _; rw [← h1]; simp

end Go.Proofs.Ytlipmbcjpmbjnaa
