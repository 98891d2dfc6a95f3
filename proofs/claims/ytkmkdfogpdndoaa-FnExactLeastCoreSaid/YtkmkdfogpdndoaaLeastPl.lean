/- Plain laws: all choices of so many numbers, in order; the first one that serves. No program in sight. -/
import Derived.Test.YtkmkdfogpdndoaaCoreC
namespace Go.Proofs.Ytkmkdfogpdndoaa
open Go.RowKit
set_option linter.unusedVariables false

/-- ascending lists of m of the numbers from k on, below n, in order -/
def chs (n : Nat) : Nat → Nat → List (List Nat)
  | 0, _ => [[]]
  | m + 1, k => (rangeFrom k n).flatMap fun i => (chs n m (i + 1)).map (i :: ·)
theorem chs_mem (n : Nat) : ∀ (m k : Nat), ∀ l ∈ chs n m k, l.length = m ∧ ∀ x ∈ l, k ≤ x ∧ x < n
  | 0, k, l, h => by simp [chs] at h; subst h; simp
  | m + 1, k, l, h => by
    rw [chs, List.mem_flatMap] at h
    obtain ⟨i, hi, h⟩ := h
    obtain ⟨r, hr, rfl⟩ := List.mem_map.1 h
    obtain ⟨h1, h2⟩ := rangeFrom_mem hi
    obtain ⟨h3, h4⟩ := chs_mem n m (i + 1) r hr
    refine ⟨by simp [h3], fun x hx => ?_⟩
    rcases List.mem_cons.1 hx with rfl | hx
    · exact ⟨h1, h2⟩
    · have := h4 x hx; omega
theorem chs_step (n m k : Nat) (hk : k < n) : chs n (m + 1) k = (chs n m (k + 1)).map (k :: ·) ++ chs n (m + 1) (k + 1) := by
  rw [chs, rangeFrom_lt hk, List.flatMap_cons, ← chs]
theorem chs_end (n m k : Nat) (hk : n ≤ k) : chs n (m + 1) k = [] := by
  rw [chs]
  have : rangeFrom k n = [] := by unfold rangeFrom; rw [show n - k = 0 from by omega]; rfl
  rw [this]; rfl
theorem chs_len (n : Nat) : ∀ (d m k : Nat), n - k = d → (chs n m k).length ≤ 2 ^ d
  | d, 0, k, _ => by simp [chs]; exact Nat.one_le_two_pow
  | 0, m + 1, k, h => by rw [chs_end n m k (by omega)]; simp
  | d + 1, m + 1, k, h => by
    rw [chs_step n m k (by omega), List.length_append, List.length_map, Nat.pow_succ]
    have h1 := chs_len n d m (k + 1) (by omega)
    have h2 := chs_len n d (m + 1) (k + 1) (by omega)
    omega
/-- the first that serves, of sizes in order -/
def leastF (p : List Nat → Bool) (n : Nat) : List Nat → Option (List Nat)
  | [] => none
  | m :: r => match (chs n m 0).find? p with
    | some l => some l
    | none => leastF p n r
theorem leastF_mem (p : List Nat → Bool) (n : Nat) : ∀ (L : List Nat) (l : List Nat), leastF p n L = some l → l.length ∈ L ∧ ∀ x ∈ l, x < n
  | [], l, h => by simp [leastF] at h
  | m :: r, l, h => by
    rw [leastF] at h
    split at h
    · rename_i l' hl
      injection h with h
      subst h
      obtain ⟨h1, h2⟩ := chs_mem n m 0 _ (List.mem_of_find?_eq_some hl)
      exact ⟨by simp [h1], fun x hx => (h2 x hx).2⟩
    · obtain ⟨h1, h2⟩ := leastF_mem p n r l h
      exact ⟨List.mem_cons_of_mem _ h1, h2⟩
def fLeastCore (f : CnfL) : List Int × Bool :=
  if goodB f then (if decide (f.2.length ≤ 12) then (if satB f then ([], false) else
    (match leastF (fun l => coreB f.1 f.2 (castL l)) f.2.length (rangeFrom 0 (f.2.length + 1)) with
    | some l => (castL l, true)
    | none => ([], false))) else ([], false)) else ([], false)
theorem fLeastCore_len {f : CnfL} {r0 : List Int} {r1 : Bool} (hn : szC f ≤ 1048576) (hR : fLeastCore f = (r0, r1)) : r0.length ≤ 1048576 := by
  unfold fLeastCore at hR
  split at hR
  · split at hR
    · rename_i hl
      have hl : f.2.length ≤ 12 := by simpa using hl
      split at hR
      · injection hR with h1 _; rw [← h1]; simp
      · split at hR
        · rename_i l hm
          injection hR with h1 _
          obtain ⟨h2, _⟩ := leastF_mem _ _ _ _ hm
          have := rangeFrom_mem h2
          rw [← h1]; simp [castL]; omega
        · injection hR with h1 _; rw [← h1]; simp
    · injection hR with h1 _; rw [← h1]; simp
  · injection hR with h1 _; rw [← h1]; simp

end Go.Proofs.Ytkmkdfogpdndoaa
