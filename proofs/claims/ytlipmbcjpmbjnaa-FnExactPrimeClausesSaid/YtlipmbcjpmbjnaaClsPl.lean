/- Plain laws: the order of clauses is total; clauses put to their places one by one are the clauses sorted, each once. -/
import Derived.Test.YtlipmbcjpmbjnaaUnitPl
namespace Go.Proofs.Ytlipmbcjpmbjnaa
open Go.RowKit
set_option linter.unusedVariables false

theorem litC_zero (x y : Int) : litC x y = 0 ↔ x = y := by
  constructor
  · intro h
    refine litLt_tri x y ?_ ?_
    · unfold litLt; rw [h]; rfl
    · cases h1 : litLt y x with
      | false => rfl
      | true =>
        have h2 := (litLt_iff y x).1 h1
        unfold litC firstNZ firstNZ firstNZ sgnI at h
        split at h <;> split at h <;> (try split at h) <;> (try split at h) <;> omega
  · rintro rfl
    unfold litC firstNZ firstNZ firstNZ sgnI
    simp
theorem litC_neg (x y : Int) : litC x y < 0 ↔ litLt x y = true := by unfold litLt; simp
/-- before, in the order of lists of literals -/
def listLt (a b : List Int) : Bool := decide (listC a b < 0)
theorem listLt_nil (y : Int) (s : List Int) : listLt [] (y :: s) = true := rfl
theorem listLt_cons_nil (x : Int) (r b : List Int) (h : b = []) : listLt (x :: r) b = false := by subst h; rfl
theorem listLt_cons (x y : Int) (r s : List Int) : listLt (x :: r) (y :: s) = if x = y then listLt r s else litLt x y := by
  unfold listLt
  rw [listC]
  by_cases h : x = y
  · rw [if_pos ((litC_zero x y).2 h), if_pos h]
  · rw [if_neg (fun e => h ((litC_zero x y).1 e)), if_neg h]; rfl
theorem listLt_irrefl : ∀ a, listLt a a = false
  | [] => rfl
  | x :: r => by rw [listLt_cons, if_pos rfl]; exact listLt_irrefl r
theorem listLt_trans : ∀ a b c, listLt a b = true → listLt b c = true → listLt a c = true
  | [], [], c, h, _ => by cases h
  | [], y :: s, [], _, h => by cases h
  | [], y :: s, z :: u, _, _ => rfl
  | x :: r, [], c, h, _ => by cases h
  | x :: r, y :: s, [], _, h => by cases h
  | x :: r, y :: s, z :: u, h1, h2 => by
    rw [listLt_cons] at h1 h2 ⊢
    by_cases e1 : x = y
    · subst e1
      rw [if_pos rfl] at h1
      by_cases e2 : x = z
      · rw [if_pos e2] at h2 ⊢; exact listLt_trans r s u h1 h2
      · rw [if_neg e2] at h2 ⊢; exact h2
    · rw [if_neg e1] at h1
      by_cases e2 : y = z
      · subst e2
        rw [if_neg e1]; exact h1
      · rw [if_neg e2] at h2
        have h3 := litLt_trans x y z h1 h2
        have e3 : x ≠ z := fun e => by subst e; have := litLt_trans x y x h1 h2; rw [litLt_irrefl] at this; cases this
        rw [if_neg e3]; exact h3
theorem listLt_tri : ∀ a b, listLt a b = false → listLt b a = false → a = b
  | [], [], _, _ => rfl
  | [], y :: s, h, _ => by cases h
  | x :: r, [], _, h => by cases h
  | x :: r, y :: s, h1, h2 => by
    rw [listLt_cons] at h1 h2
    by_cases e : x = y
    · subst e
      rw [if_pos rfl] at h1 h2
      rw [listLt_tri r s h1 h2]
    · rw [if_neg e] at h1
      rw [if_neg (fun x => e x.symm)] at h2
      exact absurd (litLt_tri x y h1 h2) e
def clsLt (a b : List Int) : Bool := decide (cmpC a b < 0)
theorem clsLt_iff (a b : List Int) : clsLt a b = true ↔ a.length < b.length ∨ (a.length = b.length ∧ listLt a b = true) := by
  unfold clsLt cmpC listLt firstNZ firstNZ firstNZ sgnI
  simp only [decide_eq_true_eq]
  split <;> split <;> (try split) <;> (try split) <;> omega
theorem clsLt_irrefl (a : List Int) : clsLt a a = false := by
  cases h : clsLt a a with
  | false => rfl
  | true =>
    rcases (clsLt_iff a a).1 h with h | ⟨_, h⟩
    · omega
    · rw [listLt_irrefl] at h; cases h
theorem clsLt_trans (a b c : List Int) (h1 : clsLt a b = true) (h2 : clsLt b c = true) : clsLt a c = true := by
  rw [clsLt_iff] at h1 h2 ⊢
  rcases h1 with h1 | ⟨h1, h1'⟩
  · rcases h2 with h2 | ⟨h2, _⟩ <;> (left; omega)
  · rcases h2 with h2 | ⟨h2, h2'⟩
    · left; omega
    · right; exact ⟨by omega, listLt_trans a b c h1' h2'⟩
theorem clsLt_tri (a b : List Int) (h1 : clsLt a b = false) (h2 : clsLt b a = false) : a = b := by
  have a1 : ¬ (a.length < b.length ∨ (a.length = b.length ∧ listLt a b = true)) := fun h => by rw [(clsLt_iff a b).2 h] at h1; cases h1
  have a2 : ¬ (b.length < a.length ∨ (b.length = a.length ∧ listLt b a = true)) := fun h => by rw [(clsLt_iff b a).2 h] at h2; cases h2
  have hl : a.length = b.length := by omega
  refine listLt_tri a b ?_ ?_
  · cases h : listLt a b with
    | false => rfl
    | true => exact absurd (.inr ⟨hl, h⟩) a1
  · cases h : listLt b a with
    | false => rfl
    | true => exact absurd (.inr ⟨hl.symm, h⟩) a2
theorem clsLt_swo : Sort.SWO clsLt := ⟨clsLt_irrefl, clsLt_trans, fun x y z h1 h2 => by
  cases h3 : clsLt x z with
  | false => rfl
  | true =>
    cases h4 : clsLt y x with
    | true => have := clsLt_trans y x z h4 h3; rw [this] at h2; cases h2
    | false =>
      obtain rfl := clsLt_tri x y h1 h4
      rw [h3] at h2; cases h2⟩
/-- a clause to its place, once -/
def putC (x : List Int) : List (List Int) → List (List Int)
  | [] => [x]
  | y :: r => if clsLt y x then y :: putC x r else if y = x then y :: r else x :: y :: r
theorem putC_skip (x : List Int) : ∀ (zs : List (List Int)) (k : Nat), (∀ y ∈ zs.take k, clsLt y x = true) → putC x zs = zs.take k ++ putC x (zs.drop k)
  | zs, 0, _ => by simp
  | [], k + 1, _ => by simp
  | y :: r, k + 1, h => by
    have h1 : clsLt y x = true := h y (by simp)
    simp only [putC, if_pos h1, List.take_succ_cons, List.drop_succ_cons, List.cons_append]
    rw [putC_skip x r k (fun z hz => h z (by simp [hz]))]
theorem putC_len (x : List Int) : ∀ zs : List (List Int), (putC x zs).length ≤ zs.length + 1
  | [] => by simp [putC]
  | y :: r => by
    have := putC_len x r
    unfold putC
    split
    · simp; omega
    · split <;> simp
theorem putC_mem (x z : List Int) : ∀ zs : List (List Int), z ∈ putC x zs ↔ z = x ∨ z ∈ zs
  | [] => by simp [putC]
  | y :: r => by
    have := putC_mem x z r
    unfold putC
    split
    · simp [this]; constructor <;> (intro h; rcases h with h | h | h <;> simp [h])
    · split
      · rename_i h; subst h; simp
      · simp
theorem putC_asc (x : List Int) : ∀ zs : List (List Int), zs.Pairwise (fun a b => clsLt a b = true) → (putC x zs).Pairwise (fun a b => clsLt a b = true)
  | [], _ => by simp [putC]
  | y :: r, h => by
    obtain ⟨h1, h2⟩ := List.pairwise_cons.1 h
    unfold putC
    split
    · rename_i hy
      refine List.pairwise_cons.2 ⟨fun z hz => ?_, putC_asc x r h2⟩
      rcases (putC_mem x z r).1 hz with rfl | hz
      · exact hy
      · exact h1 z hz
    · split
      · exact h
      · rename_i hy hne
        have hxy : clsLt x y = true := by
          cases h9 : clsLt x y with
          | true => rfl
          | false => exact absurd (clsLt_tri y x (by simpa using hy) h9) hne
        refine List.pairwise_cons.2 ⟨fun z hz => ?_, h⟩
        rcases List.mem_cons.1 hz with rfl | hz
        · exact hxy
        · exact clsLt_trans _ _ _ hxy (h1 z hz)
def putAllC (L : List (List Int)) (acc : List (List Int)) : List (List Int) := L.foldl (fun a x => putC x a) acc
theorem putAllC_asc : ∀ (L acc : List (List Int)), acc.Pairwise (fun a b => clsLt a b = true) → (putAllC L acc).Pairwise (fun a b => clsLt a b = true)
  | [], acc, h => h
  | x :: L, acc, h => putAllC_asc L (putC x acc) (putC_asc x acc h)
theorem putAllC_mem (z : List Int) : ∀ (L acc : List (List Int)), z ∈ putAllC L acc ↔ z ∈ L ∨ z ∈ acc
  | [], acc => by simp [putAllC]
  | x :: L, acc => by
    rw [show putAllC (x :: L) acc = putAllC L (putC x acc) from rfl, putAllC_mem z L, putC_mem]
    simp only [List.mem_cons]
    constructor
    · rintro (h | h | h)
      · exact .inl (.inr h)
      · exact .inl (.inl h)
      · exact .inr h
    · rintro ((h | h) | h)
      · exact .inr (.inl h)
      · exact .inl h
      · exact .inr (.inr h)
theorem putAllC_len : ∀ (L acc : List (List Int)), (putAllC L acc).length ≤ acc.length + L.length
  | [], acc => by simp [putAllC]
  | x :: L, acc => by
    have h1 := putAllC_len L (putC x acc)
    have h2 := putC_len x acc
    rw [show putAllC (x :: L) acc = putAllC L (putC x acc) from rfl]
    simp; omega

end Go.Proofs.Ytlipmbcjpmbjnaa
