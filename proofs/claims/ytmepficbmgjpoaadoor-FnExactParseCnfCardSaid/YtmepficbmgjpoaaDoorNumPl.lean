/- Plain laws on decimal numerals: what the program and the reference read. No program in sight. -/
import Derived.Lib.AtoiAll
import Derived.Lib.Atoi
import Derived.Lib.ItoaLen
import Derived.Lib.Hide
namespace Go.Proofs.YtmepficbmgjpoaaDoor
open Go.Lib
set_option linter.unusedVariables false

def withinN (n : Int) : Bool := decide (-999999 ≤ n) && decide (n ≤ 999999)
/-- the number that a text spells, as the program finds it -/
def readI (l : List UInt8) : Option Int := match atoiAll l with
  | .ok v => if withinN v && (itoa v == l) then some v else none
  | _ => none
/-- what stands behind the sign -/
def magL (l : List UInt8) : List UInt8 := if 1 < l.length ∧ l.head? = some 45 then l.tail else l
def sgnN (l : List UInt8) (m : Nat) : Int := if (magL l).length < l.length then -(m : Int) else m
/-- .. as the reference finds it -/
def readS (l : List UInt8) : Option Int :=
  if 1 ≤ (magL l).length ∧ (magL l).length ≤ 6 then
    match decFrom 0 (magL l) with
    | none => none
    | some m => if itoa (sgnN l m) = l then some (sgnN l m) else none
  else none

theorem digitVal_of {d : Nat} (h : d < 10) : digitVal (UInt8.ofNat (48 + d)) = some d := by
  have h1 : (UInt8.ofNat (48 + d)).toNat = 48 + d := by rw [UInt8.toNat_ofNat']; omega
  unfold digitVal
  rw [h1, if_pos (by omega)]
  congr 1; omega
theorem decFrom_append : ∀ (a b : List UInt8) (acc : Nat), decFrom acc (a ++ b) = (decFrom acc a).bind fun n => decFrom n b
  | [], b, acc => by simp [decFrom]
  | c :: r, b, acc => by
    simp only [List.cons_append, decFrom]
    cases digitVal c with
    | none => rfl
    | some d => exact decFrom_append r b _
theorem decFrom_digits (u : Nat) : decFrom 0 (decDigits u) = some u := by
  induction u using Nat.strongRecOn with
  | _ u ih =>
    by_cases h : u < 10
    · rw [decDigits, dif_pos h]
      have e := digitVal_of h
      simp only [decFrom, e]
      simp
    · rw [decDigits, dif_neg h, decFrom_append, ih (u / 10) (by omega)]
      simp only [Option.bind_some, decFrom, digitVal_of (Nat.mod_lt u (by decide : 0 < 10))]
      congr 1; omega
theorem decFrom_mono : ∀ (l : List UInt8) (acc v : Nat), decFrom acc l = some v → acc ≤ v
  | [], acc, v, h => by simp [decFrom] at h; omega
  | c :: r, acc, v, h => by
    simp only [decFrom] at h
    cases hd : digitVal c with
    | none => simp [hd] at h
    | some d =>
      simp only [hd] at h
      have := decFrom_mono r _ v h
      omega
theorem decFrom_lt : ∀ (l : List UInt8) (acc v : Nat), decFrom acc l = some v → v < (acc + 1) * 10 ^ l.length
  | [], acc, v, h => by simp [decFrom] at h; simp; omega
  | c :: r, acc, v, h => by
    simp only [decFrom] at h
    cases hd : digitVal c with
    | none => simp [hd] at h
    | some d =>
      simp only [hd] at h
      have h1 := decFrom_lt r _ v h
      have h2 : d < 10 := by
        unfold digitVal at hd
        split at hd
        · injection hd with hd; omega
        · cases hd
      have h3 : (acc * 10 + d + 1) * 10 ^ r.length ≤ (acc * 10 + 10) * 10 ^ r.length := Nat.mul_le_mul_right _ (by omega)
      rw [List.length_cons, Nat.pow_succ]
      have h4 : (acc + 1) * (10 ^ r.length * 10) = (acc * 10 + 10) * 10 ^ r.length := by
        rw [Nat.mul_comm (10 ^ r.length) 10, ← Nat.mul_assoc]; congr 1; omega
      omega
theorem parse_of_dec : ∀ (l : List UInt8) (acc v : Nat), decFrom acc l = some v → v ≤ 999999 → parseUint10 acc l = .ok v
  | [], acc, v, h, _ => by simp [decFrom] at h; simp [parseUint10, h]
  | c :: r, acc, v, h, hv => by
    simp only [decFrom] at h
    cases hd : digitVal c with
    | none => simp [hd] at h
    | some d =>
      simp only [hd] at h
      have h1 := decFrom_mono r _ v h
      unfold digitVal at hd
      split at hd
      · rename_i hc
        injection hd with hd
        rw [parseUint10, if_pos hc, if_neg (by omega), if_neg (by omega), hd]
        exact parse_of_dec r _ v h hv
      · cases hd
theorem decDigits_byte (u : Nat) : ∀ c ∈ decDigits u, 48 ≤ c.toNat ∧ c.toNat ≤ 57 := by
  induction u using Nat.strongRecOn with
  | _ u ih =>
    have hb : ∀ d, d < 10 → 48 ≤ (UInt8.ofNat (48 + d)).toNat ∧ (UInt8.ofNat (48 + d)).toNat ≤ 57 := fun d hd => by
      rw [UInt8.toNat_ofNat']; omega
    by_cases h : u < 10
    · rw [decDigits, dif_pos h]
      intro c hc
      obtain rfl := List.mem_singleton.1 hc
      exact hb u h
    · rw [decDigits, dif_neg h]
      intro c hc
      rcases List.mem_append.1 hc with hc | hc
      · exact ih (u / 10) (by omega) c hc
      · obtain rfl := List.mem_singleton.1 hc
        exact hb _ (Nat.mod_lt u (by decide))
theorem nDigits_le : ∀ (k u : Nat), u < 10 ^ (k + 1) → nDigits u ≤ k + 1
  | 0, u, h => by rw [nDigits_small (by simpa using h)]; omega
  | k + 1, u, h => by
    by_cases h10 : u < 10
    · rw [nDigits_small h10]; omega
    · rw [nDigits_big h10]
      have := nDigits_le k (u / 10) (by rw [Nat.pow_succ] at h; omega)
      omega
theorem decDigits_cons (u : Nat) : ∃ c r, decDigits u = c :: r ∧ 48 ≤ c.toNat ∧ c.toNat ≤ 57 := by
  cases h : decDigits u with
  | nil =>
    have := decDigits_length u
    have h1 := nDigits_pos u
    rw [h] at this
    simp at this
    omega
  | cons c r => exact ⟨c, r, rfl, decDigits_byte u c (by rw [h]; simp)⟩
theorem atoiAll_itoa {n : Int} (h : withinN n = true) : atoiAll (itoa n) = .ok n := by
  have hn : -999999 ≤ n ∧ n ≤ 999999 := by simpa [withinN] using h
  by_cases h0 : n < 0
  · obtain ⟨u, rfl⟩ : ∃ u : Nat, n = -(u : Int) := ⟨n.natAbs, by omega⟩
    rw [itoa_neg u (by omega)]
    have hp := parse_of_dec _ 0 u (decFrom_digits u) (by omega)
    obtain ⟨c, r, hc, _⟩ := decDigits_cons u
    have hne : decDigits u ≠ [] := by rw [hc]; simp
    simp [atoiAll, parseMag, hne, hp]
    omega
  · obtain ⟨u, rfl⟩ : ∃ u : Nat, n = (u : Int) := ⟨n.toNat, by omega⟩
    rw [itoa_nonneg]
    have hp := parse_of_dec _ 0 u (decFrom_digits u) (by omega)
    obtain ⟨c, r, hc, h1, h2⟩ := decDigits_cons u
    rw [hc] at hp ⊢
    have e1 : ¬ (c.toNat = 43 ∨ c.toNat = 45) := by omega
    have e2 : ¬ c.toNat = 45 := by omega
    simp only [atoiAll, parseMag, if_neg e1, hp, if_neg (List.cons_ne_nil c r)]
    simp [e2]
    omega
theorem readI_iff {l : List UInt8} {n : Int} : readI l = some n ↔ withinN n = true ∧ itoa n = l := by
  constructor
  · intro h
    unfold readI at h
    split at h
    · split at h
      · rename_i hc
        injection h with h
        subst h
        simpa using hc
      · cases h
    · cases h
  · rintro ⟨h1, rfl⟩
    simp [readI, atoiAll_itoa h1, h1]
theorem readS_iff {l : List UInt8} {n : Int} : readS l = some n ↔ withinN n = true ∧ itoa n = l := by
  constructor
  · intro h
    unfold readS at h
    split at h
    · rename_i hlen
      split at h
      · cases h
      · rename_i m hm
        by_cases hi : itoa (sgnN l m) = l
        · rw [if_pos hi] at h
          injection h with h
          rw [h] at hi
          refine ⟨?_, hi⟩
          have h1 := decFrom_lt _ _ _ hm
          have h2 : (10 : Nat) ^ (magL l).length ≤ 10 ^ 6 := Nat.pow_le_pow_right (by decide) hlen.2
          have h3 : m ≤ 999999 := by omega
          unfold withinN
          simp only [Bool.and_eq_true, decide_eq_true_eq]
          unfold sgnN at h
          split at h <;> omega
        · rw [if_neg hi] at h
          cases h
    · cases h
  · rintro ⟨h1, rfl⟩
    have hn : -999999 ≤ n ∧ n ≤ 999999 := by simpa [withinN] using h1
    by_cases h0 : n < 0
    · obtain ⟨u, rfl⟩ : ∃ u : Nat, n = -(u : Int) := ⟨n.natAbs, by omega⟩
      rw [itoa_neg u (by omega)]
      have hl := decDigits_length u
      have hl2 := nDigits_pos u
      have hl3 := nDigits_le 5 u (by omega)
      have hm : magL (45 :: decDigits u) = decDigits u := by
        unfold magL
        rw [if_pos (by simp; omega)]
        rfl
      have hs : sgnN (45 :: decDigits u) u = -(u : Int) := by
        unfold sgnN
        rw [hm, if_pos (by simp)]
      unfold readS
      rw [hm, if_pos (by rw [hl]; exact ⟨hl2, hl3⟩), decFrom_digits u]
      simp only
      rw [hs, if_pos (itoa_neg u (by omega))]
    · obtain ⟨u, rfl⟩ : ∃ u : Nat, n = (u : Int) := ⟨n.toNat, by omega⟩
      rw [itoa_nonneg]
      have hl := decDigits_length u
      have hl2 := nDigits_pos u
      have hl3 := nDigits_le 5 u (by omega)
      have hm : magL (decDigits u) = decDigits u := by
        obtain ⟨c, r, hc, h1, h2⟩ := decDigits_cons u
        unfold magL
        rw [if_neg]
        rintro ⟨_, h4⟩
        rw [hc] at h4
        simp at h4
        subst h4
        simp at h1
      have hs : sgnN (decDigits u) u = (u : Int) := by
        unfold sgnN
        rw [hm, if_neg (by omega)]
      unfold readS
      rw [hm, if_pos (by rw [hl]; exact ⟨hl2, hl3⟩), decFrom_digits u]
      simp only
      rw [hs, if_pos (itoa_nonneg u)]
theorem readS_eq (l : List UInt8) : readS l = readI l := by
  cases h : readI l with
  | none =>
    cases h2 : readS l with
    | none => rfl
    | some n => rw [readI_iff.2 (readS_iff.1 h2)] at h; cases h
  | some n => exact readS_iff.2 (readI_iff.1 h)

end Go.Proofs.YtmepficbmgjpoaaDoor
