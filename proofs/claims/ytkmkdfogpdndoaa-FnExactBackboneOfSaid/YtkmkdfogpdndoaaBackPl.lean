/- Plain laws: the literals that all models of a formula have. No program in sight. -/
import Derived.Test.YtkmkdfogpdndoaaPlain
import Derived.Test.YtkmkdfogpdndoaaTab
namespace Go.Proofs.Ytkmkdfogpdndoaa
open Go.RowKit
set_option linter.unusedVariables false

/-- the literals that follow, as the reference lists them -/
def backL (t : List (List Int)) (L : List Nat) : Nat → List Int
  | 0 => []
  | k + 1 => (backL t L k ++ (if impliesL t [(k : Int) + 1] L then [(k : Int) + 1] else [])) ++ (if impliesL t [-((k : Int) + 1)] L then [-((k : Int) + 1)] else [])
def fBackboneOf (f : CnfL) : List Int × Bool := if goodB f then (if satB f then (backL f.2 (rangeFrom 0 (2 ^ f.1.toNat)) f.1.toNat, true) else ([], false)) else ([], false)
theorem backL_len (t : List (List Int)) (L : List Nat) : ∀ n, (backL t L n).length ≤ 2 * n
  | 0 => by simp [backL]
  | k + 1 => by
    have := backL_len t L k
    unfold backL
    split <;> split <;> simp <;> omega
theorem fBackboneOf_len {f : CnfL} {r0 : List Int} {r1 : Bool} (hn : szC f ≤ 1048576) (hR : fBackboneOf f = (r0, r1)) : r0.length ≤ 1048576 := by
  unfold fBackboneOf at hR
  split at hR
  · rename_i hg
    obtain ⟨n, hn, hn2⟩ := varsB_nat (goodB_parts hg).1
    split at hR
    · injection hR with h1 _
      have := backL_len f.2 (rangeFrom 0 (2 ^ f.1.toNat)) f.1.toNat
      rw [← h1]; omega
    · injection hR with h1 _; rw [← h1]; simp
  · injection hR with h1 _; rw [← h1]; simp
theorem bit_lit {b : Nat} {k : Nat} (hk : k ≤ 11) : trueB (b : Int) [(k : Int) + 1] = bitB b k ∧ trueB (b : Int) [-((k : Int) + 1)] = !bitB b k := by
  have h1 : varW ((k : Int) + 1) = (k : Int) + 1 := by rw [varW_small (by omega)]; omega
  have h2 : varW (-((k : Int) + 1)) = (k : Int) + 1 := by rw [varW_small (by omega)]; omega
  constructor
  · simp only [trueB, List.any_cons, List.any_nil, Bool.or_false]
    rw [trueL_at h1, decide_eq_true (by omega)]
    simp
  · simp only [trueB, List.any_cons, List.any_nil, Bool.or_false]
    rw [trueL_at h2, decide_eq_false (by omega)]
    simp
theorem implies_no {t : List (List Int)} {c : List Int} {L : List Nat} {b : Nat} (hb : b ∈ L) (ht : allB (b : Int) t = true) (hc : trueB (b : Int) c = false) : impliesL t c L = false := by
  cases h : impliesL t c L with
  | false => rfl
  | true =>
    unfold impliesL at h
    have := List.all_eq_true.1 h b hb
    rw [ht, hc] at this
    simp at this
theorem back_eq {t : List (List Int)} {L : List Nat} {b : Nat} (hb : b ∈ L) (ht : allB (b : Int) t = true) : ∀ n, n ≤ 12 → (totalL (b : Int) n).filter (fun l => impliesL t [l] L) = backL t L n
  | 0, _ => rfl
  | k + 1, hk => by
    obtain ⟨h1, h2⟩ := bit_lit (b := b) (k := k) (by omega)
    rw [totalL, List.filter_append, back_eq hb ht k (by omega), backL]
    cases hbit : bitB (b : Int) k with
    | true =>
      rw [hbit] at h2
      rw [implies_no hb ht (c := [-((k : Int) + 1)]) (by rw [h2]; rfl)]
      cases h : impliesL t [(k : Int) + 1] L <;> simp [h]
    | false =>
      rw [hbit] at h1
      rw [implies_no hb ht (c := [(k : Int) + 1]) (by rw [h1])]
      cases h : impliesL t [-((k : Int) + 1)] L <;> simp [h]
def backStep (s : List Int) (b : Nat) : List Int := s.filter fun l => trueB (b : Int) [l]
theorem runM_back (t : List (List Int)) : ∀ (L : List Nat) (s : List Int), runM t backStep (fun _ _ => true) L s = s.filter fun l => impliesL t [l] L
  | [], s => by
    have : (fun l => impliesL t [l] []) = fun _ => true := by funext l; rfl
    rw [this]; exact (List.filter_eq_self.2 fun _ _ => rfl).symm
  | b :: r, s => by
    rw [runM]
    cases h : allB (b : Int) t with
    | true =>
      simp only [if_true]
      rw [runM_back t r, backStep, List.filter_filter]
      congr 1
      funext l
      simp [impliesL, h, Bool.and_comm]
    | false =>
      simp only [Bool.false_eq_true, if_false]
      rw [runM_back t r]
      congr 1
      funext l
      simp [impliesL, h]

end Go.Proofs.Ytkmkdfogpdndoaa
