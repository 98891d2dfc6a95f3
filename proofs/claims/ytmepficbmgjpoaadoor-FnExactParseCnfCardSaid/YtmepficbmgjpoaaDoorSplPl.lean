/- Plain laws on a text cut at a byte: what the program and the reference compute. No program in sight. -/
import Derived.Lib.Split
import Derived.Lib.Hide
namespace Go.Proofs.YtmepficbmgjpoaaDoor
open Go.Lib
set_option linter.unusedVariables false

/-- the parts between bytes b; cur: the part that is begun -/
def spl (b : UInt8) : List UInt8 → List UInt8 → List (List UInt8)
  | cur, [] => [cur]
  | cur, c :: r => if c = b then cur :: spl b [] r else spl b (cur ++ [c]) r
theorem split_miss {s sep : List UInt8} (h : index s sep = -1) : split s sep = [s] := by
  unfold split
  cases count s sep with
  | zero => rfl
  | succ k => rw [splitK, if_pos (beq_iff_eq.2 h)]
theorem split_hit {s sep : List UInt8} {i : Nat} (h1 : 1 ≤ sep.length) (h : index s sep = i) : split s sep = s.take i :: split (s.drop (i + sep.length)) sep := by
  have hc : count s sep = count (s.drop (i + sep.length)) sep + 1 := by
    rw [count_hit (fun e => by rw [e] at h1; simp at h1) h]; omega
  unfold split
  rw [hc, splitK, if_neg (by rw [h]; simp), h]
  simp
theorem spl_split (b : UInt8) : ∀ (l cur : List UInt8), ∃ p ps, split l [b] = p :: ps ∧ spl b cur l = (cur ++ p) :: ps
  | [], cur => ⟨[], [], split_miss rfl, by simp [spl]⟩
  | c :: r, cur => by
    by_cases hc : c = b
    · subst hc
      have h0 : index (c :: r) [c] = (0 : Nat) := by simp [index]
      obtain ⟨p, ps, h1, h2⟩ := spl_split c r []
      refine ⟨[], p :: ps, ?_, ?_⟩
      · rw [split_hit (by simp) h0]
        simp [h1]
      · rw [spl, if_pos rfl, h2]; simp
    · obtain ⟨p, ps, h1, h2⟩ := spl_split b r (cur ++ [c])
      have hpre : ([b].isPrefixOf (c :: r)) = false := by
        simp [List.isPrefixOf]
        exact fun e => hc e.symm
      rw [spl, if_neg hc, h2]
      by_cases hm : index r [b] = -1
      · have h0 : index (c :: r) [b] = -1 := by
          rw [index, hpre, hm]; rfl
        rw [split_miss hm] at h1
        injection h1 with e1 e2
        subst e1 e2
        exact ⟨c :: r, [], split_miss h0, by simp⟩
      · obtain ⟨i, hi⟩ : ∃ i : Nat, index r [b] = i := ⟨(index r [b]).toNat, by have := index_ge r [b]; omega⟩
        have h0 : index (c :: r) [b] = ((i + 1 : Nat) : Int) := by
          rw [index, hpre, hi]
          have : ((i : Int) == -1) = false := by rw [beq_eq_false_iff_ne]; omega
          simp [this]
        rw [split_hit (by simp) hi] at h1
        injection h1 with e1 e2
        refine ⟨c :: p, ps, ?_, by simp⟩
        rw [split_hit (by simp) h0, ← e1, ← e2]
        simp
theorem spl_eq (b : UInt8) (l : List UInt8) : spl b [] l = split l [b] := by
  obtain ⟨p, ps, h1, h2⟩ := spl_split b l []
  rw [h2, h1]; simp
theorem spl_ne (b : UInt8) (cur l : List UInt8) : spl b cur l ≠ [] := by
  obtain ⟨p, ps, h1, h2⟩ := spl_split b l cur
  rw [h2]; simp

end Go.Proofs.YtmepficbmgjpoaaDoor
