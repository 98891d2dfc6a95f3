/- The walks: CoreOf. -/
import Derived.Test.YtlipmbcjpmbjnaaCoreB
namespace Go.Proofs.Ytlipmbcjpmbjnaa
open Go.RowKit
set_option linter.unusedVariables false

abbrev castL (l : List Nat) : List Int := l.map fun (k : Nat) => (k : Int)
def idxK (k : Nat) : List Int := castL (List.range k)
def upK (k : Nat) : List Int := (List.range k).map fun (j : Nat) => (j : Int) + 1
theorem idxK_length (k : Nat) : (idxK k).length = k := by simp [idxK]
theorem upK_length (k : Nat) : (upK k).length = k := by simp [upK]
theorem idxK_succ (k : Nat) : idxK (k + 1) = idxK k ++ [(k : Int)] := by simp [idxK, List.range_succ]
theorem upK_succ (k : Nat) : upK (k + 1) = upK k ++ [(k : Int) + 1] := by simp [upK, List.range_succ]
theorem idxK_range (n : Nat) : idxK n = castL (rangeFrom 0 n) := by simp [idxK, rangeFrom, List.range_eq_range']
theorem rangeFrom_mem {k n x : Nat} (h : x ∈ rangeFrom k n) : k ≤ x ∧ x < n := by
  unfold rangeFrom at h
  have := List.mem_range'_1.1 h
  omega
theorem rangeFrom_len (k n : Nat) : (rangeFrom k n).length = n - k := by simp [rangeFrom]

theorem satB_nil (n : Nat) : satB ((n : Int), []) = true := by
  unfold satB modelsF modelsL
  have h1 : 0 < 2 ^ n := Nat.pow_pos (by decide)
  have : rangeFrom 0 (2 ^ ((n : Int), ([] : List (List Int))).1.toNat) = 0 :: rangeFrom 1 (2 ^ n) := by simp only [Int.toNat_natCast]; exact rangeFrom_lt h1
  rw [this]
  simp [allB]

def coreF (vars : Int) (t : List (List Int)) : List Int → List Nat → List Int
  | pre, [] => pre
  | pre, k :: r => if coreB vars t (pre ++ castL r) then coreF vars t pre r else coreF vars t (pre ++ [(k : Int)]) r
theorem coreF_len (vars : Int) (t : List (List Int)) : ∀ (l : List Nat) (pre : List Int), (coreF vars t pre l).length ≤ pre.length + l.length
  | [], pre => by simp [coreF]
  | k :: r, pre => by
    unfold coreF
    split
    · have := coreF_len vars t r pre; simp; omega
    · have := coreF_len vars t r (pre ++ [(k : Int)]); simp at this ⊢; omega
def fCoreOf (f : CnfL) : List Int × Bool := if goodB f then (if satB f then ([], false) else (coreF f.1 f.2 [] (rangeFrom 0 f.2.length), true)) else ([], false)
theorem fCoreOf_len {f : CnfL} {r0 : List Int} {r1 : Bool} (hn : szC f ≤ 1048576) (hR : fCoreOf f = (r0, r1)) : r0.length ≤ 1048576 := by
  unfold fCoreOf at hR
  split at hR
  · split at hR
    · injection hR with h1 _; rw [← h1]; simp
    · injection hR with h1 _
      have := coreF_len f.1 f.2 (rangeFrom 0 f.2.length) []
      rw [rangeFrom_len] at this
      unfold szC at hn
      rw [← h1]; simp at this; omega
  · injection hR with h1 _; rw [← h1]; simp
theorem skip_mid {pre : List Int} {x : Int} {r : List Int} {k : Nat} (hk : pre.length = k) : skipL (pre ++ x :: r) k = pre ++ r := by
  unfold skipL
  rw [List.take_left' hk, show pre ++ x :: r = (pre ++ [x]) ++ r by simp, List.drop_left' (by simp [hk])]
theorem idxI_mid {x : Int} {r : List Int} : ∀ (pre : List Int) (j : Nat), (∀ y ∈ pre, y < x) → idxI x (pre ++ x :: r) j = ((j + pre.length : Nat) : Int)
  | [], j, _ => by simp [idxI]
  | y :: s, j, h => by
    have hy : ¬ (x = y) := by have := h y (by simp); omega
    simp only [List.cons_append, idxI, hy, if_false]
    rw [idxI_mid s (j + 1) (fun z hz => h z (List.mem_cons_of_mem _ hz))]
    simp only [List.length_cons]
    omega

/-- the list half turned down by one -/
def midK (k n : Nat) : List Int := idxK k ++ (upK n).drop k
theorem midK_cons {k n : Nat} (h : k < n) : midK k n = idxK k ++ ((k : Int) + 1) :: (upK n).drop (k + 1) := by
  unfold midK
  rw [List.drop_eq_getElem_cons (by rw [upK_length]; exact h)]
  simp [upK]
theorem midK_next {k n : Nat} : idxK k ++ (k : Int) :: (upK n).drop (k + 1) = midK (k + 1) n := by
  unfold midK
  rw [idxK_succ]
  simp
theorem ic_set {pre r : List Int} {x y : Int} {k : Nat} (hk : pre.length = k) : (ic (pre ++ x :: r)).set k (.int .i64 y) = ic (pre ++ y :: r) := by
  simp only [ic, List.map_append, List.map_cons]
  rw [List.set_append_right _ _ (by simp [hk])]
  simp [hk]

def lenV : Value → Nat
  | .slice _ n _ => n
  | _ => 0

end Go.Proofs.Ytlipmbcjpmbjnaa
