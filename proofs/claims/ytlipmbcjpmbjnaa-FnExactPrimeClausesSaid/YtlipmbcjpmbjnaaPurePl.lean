/- Plain law: the literals that occur in one sign alone. -/
import Derived.Test.YtlipmbcjpmbjnaaVars
namespace Go.Proofs.Ytlipmbcjpmbjnaa
open Go.RowKit
set_option linter.unusedVariables false

def occB (t : List (List Int)) (l : Int) : Bool := t.any fun c => hasI c l
def pureV (t : List (List Int)) (v : Int) : List Int := (if occB t v && !occB t (-v) then [v] else []) ++ (if occB t (-v) && !occB t v then [-v] else [])
def pureW (t : List (List Int)) (v : Int) : List Int := if occB t (-v) then (if occB t v then [] else [-v]) else [v]
/-- the numbers 1 .. n -/
def oneTo (k n : Nat) : List Int := (rangeFrom k n).map fun (i : Nat) => (i : Int) + 1
theorem oneTo_lt {k n : Nat} (h : k < n) : oneTo k n = ((k : Int) + 1) :: oneTo (k + 1) n := by unfold oneTo; rw [rangeFrom_lt h]; rfl
theorem oneTo_end (n : Nat) : oneTo n n = [] := by unfold oneTo; rw [rangeFrom_end]; rfl
theorem occB_iff (t : List (List Int)) (l : Int) : occB t l = true ↔ ∃ c ∈ t, l ∈ c := by
  unfold occB hasI
  simp [List.any_eq_true]
theorem pureV_len (t : List (List Int)) (v : Int) : (pureV t v).length ≤ 1 := by
  unfold pureV
  cases occB t v <;> cases occB t (-v) <;> simp
theorem pureW_len (t : List (List Int)) (v : Int) : (pureW t v).length ≤ 1 := by
  unfold pureW
  cases occB t v <;> cases occB t (-v) <;> simp
theorem varsL_eq {n : Nat} {t : List (List Int)} (hg : goodB ((n : Int), t) = true) : varsL t = (oneTo 0 n).filter fun v => occB t v || occB t (-v) := by
  have hlit : ∀ c ∈ t, ∀ l ∈ c, l ≠ 0 ∧ -(n : Int) ≤ l ∧ l ≤ n := fun c hc l hl => (litB_iff (goodB_parts hg).1).1 (clauseB_lits ((goodB_parts hg).2.2 c hc) l hl)
  have hsm := goodB_small hg
  refine asc_ext _ _ (putAll_asc _ _ (by simp)) ?_ fun z => ?_
  · refine List.Pairwise.filter _ ?_
    unfold oneTo
    refine List.pairwise_map.2 ?_
    refine (List.pairwise_lt_range' (s := 0) (n := n - 0)).imp ?_
    intro a b h; omega
  · unfold varsL
    rw [putAll_mem, List.mem_filter]
    constructor
    · rintro (h | h)
      · obtain ⟨l, hl, rfl⟩ := List.mem_map.1 h
        obtain ⟨c, hc, hl⟩ := List.mem_flatten.1 hl
        have h1 := hlit c hc l hl
        have h2 := varW_small (l := l) (by have := hsm c hc l hl; omega)
        refine ⟨List.mem_map.2 ⟨(l.natAbs - 1), ?_, by rw [h2]; omega⟩, ?_⟩
        · unfold rangeFrom
          rw [List.mem_range'_1]
          omega
        · rcases Int.lt_or_le l 0 with hl0 | hl0
          · have : -varW l = l := by rw [h2]; omega
            rw [this, (occB_iff t l).2 ⟨c, hc, hl⟩]; simp
          · have : varW l = l := by rw [h2]; omega
            rw [this, (occB_iff t l).2 ⟨c, hc, hl⟩]; simp
      · cases h
    · rintro ⟨h1, h2⟩
      obtain ⟨i, hi, rfl⟩ := List.mem_map.1 h1
      left
      rcases Bool.or_eq_true_iff.1 h2 with h2 | h2
      · obtain ⟨c, hc, hl⟩ := (occB_iff _ _).1 h2
        exact List.mem_map.2 ⟨_, List.mem_flatten.2 ⟨c, hc, hl⟩, by rw [varW_small (by have := hsm c hc _ hl; omega)]; omega⟩
      · obtain ⟨c, hc, hl⟩ := (occB_iff _ _).1 h2
        exact List.mem_map.2 ⟨_, List.mem_flatten.2 ⟨c, hc, hl⟩, by rw [varW_small (by have := hsm c hc _ hl; omega)]; omega⟩
theorem flatMap_filter {α β : Type} (p : α → Bool) (f g : α → List β) : ∀ L : List α, (∀ x ∈ L, p x = true → f x = g x) → (∀ x ∈ L, p x = false → g x = []) → (L.filter p).flatMap f = L.flatMap g
  | [], _, _ => rfl
  | x :: r, h1, h2 => by
    have ih := flatMap_filter p f g r (fun y hy => h1 y (List.mem_cons_of_mem _ hy)) (fun y hy => h2 y (List.mem_cons_of_mem _ hy))
    cases hp : p x with
    | true => simp only [List.filter_cons, hp, if_true, List.flatMap_cons, ih, h1 x (by simp) hp]
    | false => rw [List.filter_cons_of_neg (by simp [hp]), List.flatMap_cons, ih, h2 x (by simp) hp]; rfl
theorem pure_eq {n : Nat} {t : List (List Int)} (hg : goodB ((n : Int), t) = true) : (varsL t).flatMap (pureW t) = (oneTo 0 n).flatMap (pureV t) := by
  rw [varsL_eq hg]
  refine flatMap_filter _ _ _ _ (fun v _ hv => ?_) (fun v _ hv => ?_)
  · unfold pureW pureV
    revert hv
    cases occB t v <;> cases occB t (-v) <;> simp
  · unfold pureV
    revert hv
    cases occB t v <;> cases occB t (-v) <;> simp
def fPureLiterals (f : CnfL) : List Int × Bool := if goodB f then ((varsL f.2).flatMap (pureW f.2), true) else ([], false)
theorem flatMap_len1 {f : Int → List Int} (hf : ∀ x, (f x).length ≤ 1) : ∀ L : List Int, (L.flatMap f).length ≤ L.length
  | [] => by simp
  | x :: r => by
    have := flatMap_len1 hf r
    have := hf x
    rw [List.flatMap_cons, List.length_append, List.length_cons]; omega
theorem fPureLiterals_len {f : CnfL} {r0 : List Int} {r1 : Bool} (hn : szC f ≤ 1048576) (hR : fPureLiterals f = (r0, r1)) : r0.length ≤ 1048576 := by
  unfold fPureLiterals at hR
  split at hR
  · rename_i hg
    injection hR with h1 _
    have h2 := putAll_len (f.2.flatten.map varW) []
    have h3 := goodB_flat hg
    rw [List.length_map, List.length_nil] at h2
    have h4 := flatMap_len1 (pureW_len f.2) (varsL f.2)
    rw [← h1]; unfold varsL at h4 ⊢; omega
  · injection hR with h1 _; rw [← h1]; simp
theorem varsL_mem {n : Nat} {t : List (List Int)} (hg : goodB ((n : Int), t) = true) : ∀ v ∈ varsL t, ∃ m : Nat, m < n ∧ v = (m : Int) + 1 := by
  intro v hv
  rw [varsL_eq hg] at hv
  obtain ⟨i, hi, rfl⟩ := List.mem_map.1 (List.mem_filter.1 hv).1
  unfold rangeFrom at hi
  rw [List.mem_range'_1] at hi
  exact ⟨i, by omega, rfl⟩

end Go.Proofs.Ytlipmbcjpmbjnaa
