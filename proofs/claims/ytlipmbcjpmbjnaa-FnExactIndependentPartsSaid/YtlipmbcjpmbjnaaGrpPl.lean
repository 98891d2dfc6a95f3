/- Plain laws: the parts of a formula: classes of clauses that meet, by leaders as the program has them and by search as the reference does. -/
import Derived.Test.YtlipmbcjpmbjnaaVarsPl
namespace Go.Proofs.Ytlipmbcjpmbjnaa
open Go.RowKit
set_option linter.unusedVariables false

/-- two classes put together: the greater leader's members follow the lesser leader -/
def relab (M : Nat → Nat) (x y : Nat) : Nat → Nat := fun j => if M j = max x y then min x y else M j
def labK (mt : Nat → Nat → Bool) (i : Nat) : Nat → (Nat → Nat) → Nat → Nat
  | 0, M => M
  | k + 1, M => if mt i k = true then relab (labK mt i k M) (labK mt i k M i) (labK mt i k M k) else labK mt i k M
def labI (mt : Nat → Nat → Bool) : Nat → Nat → Nat
  | 0 => id
  | i + 1 => labK mt i i (labI mt i)

structure Lab (M : Nat → Nat) : Prop where
  le : ∀ j, M j ≤ j
  fix : ∀ j, M (M j) = M j
theorem Lab.id_ : Lab id := ⟨fun _ => Nat.le_refl _, fun _ => rfl⟩
theorem Lab.relab {M : Nat → Nat} (h : Lab M) {x y : Nat} (hx : M x = x) (hy : M y = y) : Lab (relab M x y) := by
  have hm : M (min x y) = min x y := by rcases Nat.le_total x y with h1 | h1 <;> simp [h1, hx, hy]
  refine ⟨fun j => ?_, fun j => ?_⟩
  · have := h.le j
    unfold Go.Proofs.Ytlipmbcjpmbjnaa.relab
    split <;> omega
  · unfold Go.Proofs.Ytlipmbcjpmbjnaa.relab
    by_cases hj : M j = max x y
    · simp only [if_pos hj, hm]
      split <;> rfl
    · simp only [if_neg hj, h.fix j]
theorem relab_same {M : Nat → Nat} {x y a b : Nat} (h : M a = M b) : relab M x y a = relab M x y b := by unfold relab; rw [h]
theorem relab_join {M : Nat → Nat} {i k : Nat} : relab M (M i) (M k) i = relab M (M i) (M k) k := by
  unfold relab
  by_cases h1 : M i = max (M i) (M k)
  · rw [if_pos h1]; split <;> omega
  · rw [if_neg h1]; split <;> omega
theorem relab_resp {M : Nat → Nat} {x y : Nat} {S : Nat → Prop} (h : ∀ j, S (M j) ↔ S j) (hxy : S x ↔ S y) : ∀ j, S (relab M x y j) ↔ S j := by
  intro j
  unfold relab
  split
  · rename_i hj
    rw [← h j, hj]
    rcases Nat.le_total x y with h1 | h1
    · rw [Nat.min_eq_left h1, Nat.max_eq_right h1]; exact hxy
    · rw [Nat.min_eq_right h1, Nat.max_eq_left h1]; exact hxy.symm
  · exact h j

theorem labK_lab (mt : Nat → Nat → Bool) (i : Nat) {M : Nat → Nat} (h : Lab M) : ∀ k, Lab (labK mt i k M)
  | 0 => h
  | k + 1 => by
    have h1 := labK_lab mt i h k
    rw [labK]
    split
    · exact h1.relab (h1.fix _) (h1.fix _)
    · exact h1
theorem labI_lab (mt : Nat → Nat → Bool) : ∀ i, Lab (labI mt i)
  | 0 => Lab.id_
  | i + 1 => labK_lab mt i (labI_lab mt i) i
theorem labK_same (mt : Nat → Nat → Bool) (i : Nat) {M : Nat → Nat} {a b : Nat} (h : M a = M b) : ∀ k, labK mt i k M a = labK mt i k M b
  | 0 => h
  | k + 1 => by
    have h1 := labK_same mt i h k
    rw [labK]
    split
    · exact relab_same h1
    · exact h1
theorem labK_joins (mt : Nat → Nat → Bool) (i : Nat) (M : Nat → Nat) : ∀ n k, k < n → mt i k = true → labK mt i n M i = labK mt i n M k
  | n + 1, k, hk, hm => by
    rw [labK]
    by_cases e : k = n
    · subst e
      rw [if_pos hm]
      exact relab_join
    · have h1 := labK_joins mt i M n k (by omega) hm
      split
      · exact relab_same h1
      · exact h1
theorem labI_joins (mt : Nat → Nat → Bool) : ∀ n i k, i < n → k < i → mt i k = true → labI mt n i = labI mt n k
  | n + 1, i, k, hi, hk, hm => by
    rw [labI]
    by_cases e : i = n
    · subst e
      exact labK_joins mt i _ i k hk hm
    · exact labK_same mt n (labI_joins mt n i k (by omega) hk hm) n
theorem labK_resp (mt : Nat → Nat → Bool) (i : Nat) {M : Nat → Nat} {S : Nat → Prop} (h : ∀ j, S (M j) ↔ S j) : ∀ n, (∀ k, k < n → mt i k = true → (S i ↔ S k)) → ∀ j, S (labK mt i n M j) ↔ S j
  | 0, _ => h
  | n + 1, hS => by
    have h1 := labK_resp mt i h n fun k hk => hS k (by omega)
    rw [labK]
    split
    · rename_i hm
      refine relab_resp h1 ?_
      rw [h1, h1]
      exact hS n (by omega) hm
    · exact h1
theorem labI_resp (mt : Nat → Nat → Bool) {S : Nat → Prop} : ∀ n, (∀ i k, i < n → k < i → mt i k = true → (S i ↔ S k)) → ∀ j, S (labI mt n j) ↔ S j
  | 0, _ => fun j => Iff.rfl
  | n + 1, hS => labK_resp mt n (labI_resp mt n fun i k hi => hS i k (by omega)) n fun k hk => hS n k (by omega) hk

/-- what a search from a leader finds is the leader's class -/
theorem search_all (mt : Nat → Nat → Bool) (hsym : ∀ a b, mt a b = mt b a) (n r : Nat) (line : List Nat) (hr : r ∈ line) (hin : ∀ a ∈ line, a < n ∧ labI mt n a = r) (hcl : ∀ a ∈ line, ∀ k, k < n → mt a k = true → k ∈ line) :
    ∀ j, j ∈ line ↔ (j < n ∧ labI mt n j = r) := by
  intro j
  refine ⟨hin j, fun ⟨hj, hM⟩ => ?_⟩
  have := labI_resp mt (S := fun a => a ∈ line) n (fun i k hi hk hm => ⟨fun h => hcl i h k (by omega) hm, fun h => hcl k h i hi (by rw [hsym]; exact hm)⟩) j
  rw [hM] at this
  exact this.1 hr
theorem search_adds (mt : Nat → Nat → Bool) (hsym : ∀ a b, mt a b = mt b a) {n a k : Nat} (ha : a < n) (hk : k < n) (hm : mt a k = true) : labI mt n k = labI mt n a := by
  rcases Nat.lt_trichotomy a k with h | rfl | h
  · exact labI_joins mt n k a hk h (by rw [hsym]; exact hm)
  · rfl
  · exact (labI_joins mt n a k ha h hm).symm

/-- the members of a class, the classes by their leaders -/
def partOf (M : Nat → Nat) (n r : Nat) : List Nat := (List.range n).filter fun j => M j == r
def leads (M : Nat → Nat) (n : Nat) : List Nat := (List.range n).filter fun r => M r == r
def castL (l : List Nat) : List Int := l.map fun (j : Nat) => (j : Int)
def partsL (M : Nat → Nat) (n : Nat) : List (List Int) := (leads M n).map fun r => castL (partOf M n r)

theorem castL_mem (l : List Nat) (j : Nat) : (j : Int) ∈ castL l ↔ j ∈ l := by
  unfold castL
  rw [List.mem_map]
  constructor
  · rintro ⟨k, hk, e⟩
    obtain rfl : k = j := by omega
    exact hk
  · exact fun h => ⟨j, h, rfl⟩
theorem castL_nat {l : List Nat} {z : Int} (h : z ∈ castL l) : ∃ j : Nat, z = j ∧ j ∈ l := by
  unfold castL at h
  obtain ⟨k, hk, rfl⟩ := List.mem_map.1 h
  exact ⟨k, rfl, hk⟩
theorem castL_length (l : List Nat) : (castL l).length = l.length := by simp [castL]
theorem castL_snoc (l : List Nat) (j : Nat) : castL (l ++ [j]) = castL l ++ [(j : Int)] := by simp [castL]
theorem partOf_mem (M : Nat → Nat) (n r j : Nat) : j ∈ partOf M n r ↔ j < n ∧ M j = r := by
  unfold partOf
  rw [List.mem_filter, List.mem_range]
  simp
theorem leads_mem (M : Nat → Nat) (n r : Nat) : r ∈ leads M n ↔ r < n ∧ M r = r := by
  unfold leads
  rw [List.mem_filter, List.mem_range]
  simp
theorem range_asc (n : Nat) : (List.range n).Pairwise (· < ·) := List.pairwise_lt_range
theorem partOf_asc (M : Nat → Nat) (n r : Nat) : (castL (partOf M n r)).Pairwise (· < ·) := by
  unfold castL partOf
  rw [List.pairwise_map]
  exact ((range_asc n).filter _).imp fun h => by omega
/-- the line of a search, sorted, is the class -/
theorem part_sorted (mt : Nat → Nat → Bool) (hsym : ∀ a b, mt a b = mt b a) (n r : Nat) (line : List Nat) (hr : r ∈ line) (hin : ∀ a ∈ line, a < n ∧ labI mt n a = r) (hcl : ∀ a ∈ line, ∀ k, k < n → mt a k = true → k ∈ line) :
    putAll (castL line) [] = castL (partOf (labI mt n) n r) := by
  refine asc_ext _ _ (putAll_asc _ _ List.Pairwise.nil) (partOf_asc _ _ _) fun z => ?_
  rw [putAll_mem]
  constructor
  · rintro (h | h)
    · obtain ⟨j, rfl, hj⟩ := castL_nat h
      exact (castL_mem _ _).2 ((partOf_mem _ _ _ _).2 (hin j hj))
    · cases h
  · intro h
    obtain ⟨j, rfl, hj⟩ := castL_nat h
    exact .inl ((castL_mem _ _).2 ((search_all mt hsym n r line hr hin hcl j).2 ((partOf_mem _ _ _ _).1 hj)))

/-- the leaders' chain, as the program keeps it -/
structure Chain (L M : Nat → Nat) : Prop where
  le : ∀ j, L j ≤ j
  up : ∀ j, M (L j) = M j
  top : ∀ j, L j = j ↔ M j = j
theorem Chain.id_ : Chain id id := ⟨fun _ => Nat.le_refl _, fun _ => rfl, fun _ => Iff.rfl⟩
def upd (L : Nat → Nat) (a b : Nat) : Nat → Nat := fun j => if j = a then b else L j
theorem Chain.relab {L M : Nat → Nat} (h : Chain L M) (hM : Lab M) {x y : Nat} (hx : M x = x) (hy : M y = y) : Chain (upd L (max x y) (min x y)) (relab M x y) := by
  have hm : M (min x y) = min x y := by rcases Nat.le_total x y with h1 | h1 <;> simp [h1, hx, hy]
  have hm2 : M (max x y) = max x y := by rcases Nat.le_total x y with h1 | h1 <;> simp [h1, hx, hy]
  refine ⟨fun j => ?_, fun j => ?_, fun j => ?_⟩
  · have := h.le j
    unfold upd
    split <;> omega
  · unfold upd
    by_cases hj : j = max x y
    · rw [if_pos hj, hj]
      unfold Go.Proofs.Ytlipmbcjpmbjnaa.relab
      rw [hm, hm2, if_pos rfl]
      split <;> rfl
    · rw [if_neg hj]
      exact relab_same (h.up j)
  · unfold upd
    by_cases hj : j = max x y
    · rw [if_pos hj, hj]
      unfold Go.Proofs.Ytlipmbcjpmbjnaa.relab
      rw [hm2, if_pos rfl]
    · rw [if_neg hj, h.top]
      unfold Go.Proofs.Ytlipmbcjpmbjnaa.relab
      have := hM.le j
      by_cases hjm : M j = max x y
      · rw [if_pos hjm]; omega
      · rw [if_neg hjm]

/-- two clauses have literals of one variable -/
def mtC (t : List (List Int)) (i k : Nat) : Bool := (t.getD i []).any fun a => (t.getD k []).any fun b => varW a == varW b
theorem mtC_sym (t : List (List Int)) (i k : Nat) : mtC t i k = mtC t k i := by
  have key : ∀ a b : List Int, (a.any fun x => b.any fun y => varW x == varW y) = true → (b.any fun x => a.any fun y => varW x == varW y) = true := by
    intro a b h
    simp only [List.any_eq_true, beq_iff_eq] at h ⊢
    obtain ⟨x, hx, y, hy, e⟩ := h
    exact ⟨y, hy, x, hx, e.symm⟩
  unfold mtC
  exact Bool.eq_iff_iff.2 ⟨key _ _, key _ _⟩
def fIndependentParts (f : CnfL) : List (List Int) × Bool := if goodB f then (partsL (labI (mtC f.2) f.2.length) f.2.length, true) else ([], false)

/-- how many leaders lie below -/
theorem leads_succ (M : Nat → Nat) (n : Nat) : leads M (n + 1) = leads M n ++ (if M n = n then [n] else []) := by
  unfold leads
  rw [List.range_succ, List.filter_append]
  congr 1
  simp only [List.filter_cons, List.filter_nil, beq_iff_eq]
theorem partOf_succ (M : Nat → Nat) (n r : Nat) : partOf M (n + 1) r = partOf M n r ++ (if M n = r then [n] else []) := by
  unfold partOf
  rw [List.range_succ, List.filter_append]
  congr 1
  simp only [List.filter_cons, List.filter_nil, beq_iff_eq]

end Go.Proofs.Ytlipmbcjpmbjnaa
