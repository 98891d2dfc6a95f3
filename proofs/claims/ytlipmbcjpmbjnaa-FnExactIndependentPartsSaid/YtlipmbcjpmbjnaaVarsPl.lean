/- Plain laws: numbers put to their places one by one are the numbers sorted, each once. -/
import Derived.Test.YtlipmbcjpmbjnaaPutN
import Derived.Lib.SlicesCompact
namespace Go.Proofs.Ytlipmbcjpmbjnaa
open Go.RowKit
set_option linter.unusedVariables false

def putAll (L : List Int) (acc : List Int) : List Int := L.foldl (fun a x => putI x a) acc
theorem putAll_nil (acc : List Int) : putAll [] acc = acc := rfl
theorem putAll_cons (x : Int) (L acc : List Int) : putAll (x :: L) acc = putAll L (putI x acc) := rfl
theorem putAll_append (L M acc : List Int) : putAll (L ++ M) acc = putAll M (putAll L acc) := by simp [putAll]
theorem putAll_asc : ∀ (L acc : List Int), acc.Pairwise (· < ·) → (putAll L acc).Pairwise (· < ·)
  | [], acc, h => h
  | x :: L, acc, h => putAll_asc L (putI x acc) (putI_asc x acc h)
theorem putAll_mem (z : Int) : ∀ (L acc : List Int), z ∈ putAll L acc ↔ z ∈ L ∨ z ∈ acc
  | [], acc => by simp [putAll]
  | x :: L, acc => by
    rw [putAll_cons, putAll_mem z L, putI_mem]
    simp only [List.mem_cons]
    constructor
    · rintro (h | h | h)
      · exact .inl (.inr h)
      · exact .inl (.inl h)
      · exact .inr h
    · rintro ((h | h) | h)
      · exact .inr (.inl h)
      · exact .inl h
      · exact .inr (.inr h)
theorem putAll_len : ∀ (L acc : List Int), (putAll L acc).length ≤ acc.length + L.length
  | [], acc => by simp [putAll]
  | x :: L, acc => by
    have h1 := putAll_len L (putI x acc)
    have h2 := putI_len x acc
    rw [putAll_cons]
    simp; omega
/-- two ascending lists of the same numbers are one -/
theorem asc_ext : ∀ (a b : List Int), a.Pairwise (· < ·) → b.Pairwise (· < ·) → (∀ z, z ∈ a ↔ z ∈ b) → a = b
  | [], [], _, _, _ => rfl
  | [], y :: b, _, _, h => absurd ((h y).2 (by simp)) (by simp)
  | x :: a, [], _, _, h => absurd ((h x).1 (by simp)) (by simp)
  | x :: a, y :: b, h1, h2, h => by
    obtain ⟨p1, p2⟩ := List.pairwise_cons.1 h1
    obtain ⟨q1, q2⟩ := List.pairwise_cons.1 h2
    have e : x = y := by
      rcases List.mem_cons.1 ((h x).1 (by simp)) with e | e
      · exact e
      · rcases List.mem_cons.1 ((h y).2 (by simp)) with e' | e'
        · exact e'.symm
        · have := p1 y e'; have := q1 x e; omega
    subst e
    rw [asc_ext a b p2 q2 fun z => ?_]
    constructor
    · intro hz
      rcases List.mem_cons.1 ((h z).1 (List.mem_cons_of_mem _ hz)) with e | e
      · have := p1 z hz; omega
      · exact e
    · intro hz
      rcases List.mem_cons.1 ((h z).2 (List.mem_cons_of_mem _ hz)) with e | e
      · have := q1 z hz; omega
      · exact e
theorem compact_asc (L : List Int) (hs : L.Pairwise (· ≤ ·)) : ∀ m, m ≤ L.length → (Lib.compactUpTo L.toArray m).Pairwise (· < ·) ∧ ∀ z, z ∈ Lib.compactUpTo L.toArray m ↔ z ∈ L.take m
  | 0, _ => by simp [Lib.compactUpTo]
  | m + 1, hm => by
    obtain ⟨h1, h2⟩ := compact_asc L hs m (by omega)
    have hget : L.toArray[m]! = L[m] := by simp [getElem!_pos, show m < L.length from hm]
    rw [Lib.compactUpTo_succ, hget]
    have htk : L.take (m + 1) = L.take m ++ [L[m]] := by rw [List.take_add_one, List.getElem?_eq_getElem hm]; rfl
    have hle : ∀ z ∈ L.take m, z ≤ L[m] := fun z hz => by
      obtain ⟨i, hi, rfl⟩ := List.mem_iff_getElem.1 hz
      have hi' : i < m := by simp at hi; omega
      rw [List.getElem_take]
      exact List.pairwise_iff_getElem.1 hs i m (by omega) hm hi'
    by_cases hk : Lib.keeps L.toArray m = true
    · rw [if_pos hk]
      have hne : m = 0 ∨ L[m] ≠ L[m - 1] := by
        have := hk
        simp only [Lib.keeps, decide_eq_true_eq] at this
        rcases this with h | h
        · exact .inl h
        · refine .inr ?_
          rw [hget] at h
          have h9 : L.toArray[m - 1]! = L[m - 1] := by simp [getElem!_pos, show m - 1 < L.length by omega]
          rw [h9] at h; exact h
      refine ⟨List.pairwise_append.2 ⟨h1, List.pairwise_singleton _ _, fun a ha b hb => ?_⟩, fun z => ?_⟩
      · rw [List.mem_singleton.1 hb]
        have ha' := (h2 a).1 ha
        obtain ⟨i, hi, rfl⟩ := List.mem_iff_getElem.1 ha'
        have hi' : i < m := by simp at hi; omega
        rw [List.getElem_take]
        rcases hne with h0 | hne
        · omega
        · have a1 : L[i] ≤ L[m - 1] := by
            rcases Nat.lt_or_ge i (m - 1) with h | h
            · exact List.pairwise_iff_getElem.1 hs i (m - 1) (by omega) (by omega) h
            · obtain rfl : i = m - 1 := by omega
              exact Int.le_refl _
          have a2 : L[m - 1] ≤ L[m] := List.pairwise_iff_getElem.1 hs (m - 1) m (by omega) hm (by omega)
          omega
      · rw [htk, List.mem_append, List.mem_append, h2]
    · rw [if_neg hk, List.append_nil]
      refine ⟨h1, fun z => ?_⟩
      have hk' : ¬ (m = 0 ∨ L.toArray[m]! ≠ L.toArray[m - 1]!) := by simpa [Lib.keeps] using hk
      have h0 : m ≠ 0 := fun e => hk' (.inl e)
      have he : L[m] = L[m - 1] := by
        rw [hget] at hk'
        have h9 : L.toArray[m - 1]! = L[m - 1] := by simp [getElem!_pos, show m - 1 < L.length by omega]
        rw [h9] at hk'
        exact Classical.byContradiction fun e => hk' (.inr e)
      rw [htk, List.mem_append, h2, List.mem_singleton]
      constructor
      · exact .inl
      · rintro (h | h)
        · exact h
        · rw [h, he]
          exact List.mem_iff_getElem.2 ⟨m - 1, by simp; omega, by rw [List.getElem_take]⟩
def sortI (L : List Int) : List Int := L.mergeSort fun x y => decide (x ≤ y)
theorem sortI_asc (L : List Int) : (sortI L).Pairwise (· ≤ ·) := by
  have := List.pairwise_mergeSort (le := fun (x y : Int) => decide (x ≤ y)) (by intro a b c; simp; omega) (by intro a b; simp; omega) L
  exact this.imp (by simp)
theorem sortI_len (L : List Int) : (sortI L).length = L.length := List.length_mergeSort L
theorem compact_sort (L : List Int) : Lib.compact (sortI L) = putAll L [] := by
  obtain ⟨h1, h2⟩ := compact_asc (sortI L) (sortI_asc L) (sortI L).length (Nat.le_refl _)
  refine asc_ext _ _ h1 (putAll_asc L [] (by simp)) fun z => ?_
  rw [show Lib.compact (sortI L) = Lib.compactUpTo (sortI L).toArray (sortI L).length from rfl, h2, List.take_length, putAll_mem]
  simp [sortI]

end Go.Proofs.Ytlipmbcjpmbjnaa
