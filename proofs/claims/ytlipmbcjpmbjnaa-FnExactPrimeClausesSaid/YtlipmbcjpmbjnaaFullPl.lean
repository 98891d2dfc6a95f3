/- Plain laws on the families of all signed clauses. No program in sight. -/
import Derived.Test.YtlipmbcjpmbjnaaPl2
namespace Go.Proofs.Ytlipmbcjpmbjnaa
open Go.RowKit
set_option linter.unusedVariables false

def signStep (out : List (List Int)) (v : Int) : List (List Int) := out.flatMap fun c => [c ++ [v], c ++ [-v]]
/-- as the program builds the clauses -/
def signL : List Int → List (List Int) → List (List Int)
  | [], out => out
  | v :: r, out => signL r (signStep out v)
/-- the clause of a number's bits, as the reference builds it -/
def maskC : List Int → Nat → List Int
  | [], _ => []
  | v :: r, b => (if b.testBit r.length then -v else v) :: maskC r b
def maskT (l : List Int) : List (List Int) := (List.range (2 ^ l.length)).map (maskC l)
theorem maskC_len : ∀ (l : List Int) (b : Nat), (maskC l b).length = l.length
  | [], _ => rfl
  | v :: r, b => by simp [maskC, maskC_len r b]
theorem maskC_mod : ∀ (l : List Int) (a b : Nat), (∀ j, j < l.length → a.testBit j = b.testBit j) → maskC l a = maskC l b
  | [], _, _, _ => rfl
  | v :: r, a, b, h => by
    simp only [maskC]
    rw [h r.length (by simp), maskC_mod r a b fun j hj => h j (by simp only [List.length_cons]; omega)]
theorem signL_eq : ∀ (l : List Int) (out : List (List Int)), signL l out = out.flatMap fun c => (maskT l).map (c ++ ·)
  | [], out => by
    simp [signL, maskT, maskC]
  | v :: r, out => by
    rw [signL, signL_eq r]
    unfold signStep
    rw [List.flatMap_assoc]
    congr 1
    funext c
    have hT : maskT (v :: r) = (maskT r).map (v :: ·) ++ (maskT r).map (-v :: ·) := by
      unfold maskT
      rw [List.length_cons, Nat.pow_succ, Nat.mul_two, List.range_add, List.map_append, List.map_map, List.map_map, List.map_map]
      congr 1
      · apply List.map_congr_left
        intro b hb
        have hb : b < 2 ^ r.length := by simpa using hb
        simp [maskC, Nat.testBit_lt_two_pow hb]
      · apply List.map_congr_left
        intro b hb
        have hb : b < 2 ^ r.length := by simpa using hb
        have h1 : (2 ^ r.length + b).testBit r.length = true := by
          rw [Nat.testBit_two_pow_add_eq, Nat.testBit_lt_two_pow hb]; rfl
        simp only [Function.comp, maskC]
        rw [h1, maskC_mod r (2 ^ r.length + b) b fun j hj => Nat.testBit_two_pow_add_gt hj b]
        rfl
    rw [hT]
    simp [List.map_append, List.map_map, Function.comp_def, List.flatMap]
theorem signL_nil (l : List Int) : signL l [[]] = maskT l := by
  rw [signL_eq]; simp [List.flatMap]
theorem maskC_drop : ∀ (l : List Int) (b k : Nat), k < l.length → (maskC l b).drop k = (if b.testBit (l.length - 1 - k) then -(l.getD k 0) else l.getD k 0) :: (maskC l b).drop (k + 1)
  | [], _, k, h => by simp at h
  | v :: r, b, 0, _ => by simp [maskC]
  | v :: r, b, k + 1, h => by
    have h' : k < r.length := by simpa using h
    rw [maskC, List.drop_succ_cons, maskC_drop r b k h', List.drop_succ_cons]
    simp only [List.length_cons, List.getD_cons_succ]
    rw [show r.length + 1 - 1 - (k + 1) = r.length - 1 - k from by omega]
theorem maskC_mem : ∀ (l : List Int) (b : Nat), ∀ x ∈ maskC l b, x ∈ l ∨ -x ∈ l
  | [], _ => by simp [maskC]
  | v :: r, b => by
    intro x hx
    rw [maskC] at hx
    rcases List.mem_cons.1 hx with rfl | hx
    · split <;> simp
    · rcases maskC_mem r b x hx with h | h
      · exact .inl (List.mem_cons_of_mem _ h)
      · exact .inr (List.mem_cons_of_mem _ h)
theorem maskC_small {l : List Int} (h : ∀ x ∈ l, x ≠ 0 ∧ -12 ≤ x ∧ x ≤ 12) (b : Nat) : ∀ x ∈ maskC l b, x ≠ 0 ∧ -12 ≤ x ∧ x ≤ 12 := by
  intro x hx
  rcases maskC_mem l b x hx with h1 | h1
  · exact h x h1
  · have := h _ h1; omega
theorem maskC_rise : ∀ (l : List Int) (b : Nat), (∀ x ∈ l, x ≠ 0 ∧ -12 ≤ x ∧ x ≤ 12) → l.Pairwise (fun x y => varW x < varW y) → (maskC l b).Pairwise (fun x y => varW x < varW y)
  | [], _, _, _ => by simp [maskC]
  | v :: r, b, hs, hp => by
    obtain ⟨h1, h2⟩ := List.pairwise_cons.1 hp
    rw [maskC]
    have hsr : ∀ x ∈ r, x ≠ 0 ∧ -12 ≤ x ∧ x ≤ 12 := fun x hx => hs x (List.mem_cons_of_mem _ hx)
    have hv := hs v (by simp)
    refine List.pairwise_cons.2 ⟨fun y hy => ?_, maskC_rise r b hsr h2⟩
    have hy2 := maskC_small hsr b y hy
    have hvv : varW (if b.testBit r.length then -v else v) = (v.natAbs : Int) := by
      split
      · rw [varW_small (by omega)]; omega
      · rw [varW_small (by omega)]
    rw [hvv, varW_small (by omega)]
    rcases maskC_mem r b y hy with h3 | h3
    · have := h1 y h3
      rw [varW_small (by omega), varW_small (by omega)] at this
      omega
    · have := h1 _ h3
      rw [varW_small (by omega), varW_small (by omega)] at this
      omega
theorem bit_fin : ∀ b : Fin 32, ∀ k : Fin 5, bitB (b.val : Int) k.val = b.val.testBit k.val := by decide +kernel
theorem bit_test {b k : Nat} (hb : b < 32) (hk : k < 5) : bitB (b : Int) k = b.testBit k := bit_fin ⟨b, hb⟩ ⟨k, hk⟩
def negCnt (c : List Int) : Nat := (c.filter fun l => decide (l < 0)).length
theorem negCnt_snoc (c : List Int) (x : Int) : negCnt (c ++ [x]) = negCnt c + (if x < 0 then 1 else 0) := by
  unfold negCnt
  rw [List.filter_append]
  by_cases h : x < 0 <;> simp [h]
theorem negCnt_le (c : List Int) : negCnt c ≤ c.length := List.length_filter_le _ _
/-- does the reference keep a clause? -/
def keepB (kind : Nat) (c : List Int) : Bool := decide (kind = 2) || decide (negCnt c % 2 = kind)
/-- the clauses whose number of negative literals is even (odd) -/
def xorT (l : List Int) (odd : Bool) : List (List Int) := (maskT l).filter fun c => decide (negCnt c % 2 = 0) == odd

end Go.Proofs.Ytlipmbcjpmbjnaa
