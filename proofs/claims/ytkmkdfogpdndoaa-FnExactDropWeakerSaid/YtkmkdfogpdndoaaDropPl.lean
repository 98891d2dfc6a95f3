/- Plain laws: which clauses of a formula are weaker than others. No program in sight. -/
import Derived.Test.YtkmkdfogpdndoaaPl2
namespace Go.Proofs.Ytkmkdfogpdndoaa
open Go.RowKit
set_option linter.unusedVariables false

theorem risesS_pw {vars : Int} (hv : varsB vars = true) : ∀ (c : List Int) (q : Int), litB vars q = true → risesS vars (some q) c = true → c.Pairwise (fun x y => x.natAbs < y.natAbs) ∧ ∀ x ∈ c, q.natAbs < x.natAbs
  | [], q, hq, _ => ⟨List.Pairwise.nil, by simp⟩
  | l :: r, q, hq, h => by
    simp [risesS] at h
    obtain ⟨⟨hl, hlt⟩, hr⟩ := h
    have h1 := (litB_iff hv).1 hq
    have h2 := (litB_iff hv).1 hl
    have hv' : 0 ≤ vars ∧ vars ≤ 12 := by simpa [varsB, inB] using hv
    obtain ⟨h3, h4⟩ := risesS_pw hv r l hl hr
    rw [varW_small (l := l) (by omega), varW_small (l := q) (by omega)] at hlt
    have h5 : q.natAbs < l.natAbs := by omega
    refine ⟨List.pairwise_cons.2 ⟨h4, h3⟩, fun x hx => ?_⟩
    rcases List.mem_cons.1 hx with rfl | hx
    · exact h5
    · exact Nat.lt_trans h5 (h4 x hx)
theorem clauseB_pw {vars : Int} {c : List Int} (h : clauseB vars c = true) : c.Pairwise (fun x y => x.natAbs < y.natAbs) := by
  have hv := clauseB_vars h
  unfold clauseB at h
  simp [hv] at h
  cases c with
  | nil => exact List.Pairwise.nil
  | cons l r =>
    simp [risesS] at h
    obtain ⟨h3, h4⟩ := risesS_pw hv r l h.1 h.2
    exact List.pairwise_cons.2 ⟨h4, h3⟩
theorem pw_ext : ∀ (a b : List Int), a.Pairwise (fun x y => x.natAbs < y.natAbs) → b.Pairwise (fun x y => x.natAbs < y.natAbs) → (∀ x, x ∈ a ↔ x ∈ b) → a = b
  | [], b, _, _, h => by
    cases b with
    | nil => rfl
    | cons y r => exact absurd ((h y).2 (by simp)) (by simp)
  | x :: a, b, ha, hb, h => by
    cases b with
    | nil => exact absurd ((h x).1 (by simp)) (by simp)
    | cons y b =>
      obtain ⟨ha1, ha2⟩ := List.pairwise_cons.1 ha
      obtain ⟨hb1, hb2⟩ := List.pairwise_cons.1 hb
      have hxy : x = y := by
        rcases List.mem_cons.1 ((h x).1 (by simp)) with e | e
        · exact e
        · rcases List.mem_cons.1 ((h y).2 (by simp)) with e2 | e2
          · exact e2.symm
          · have := ha1 y e2
            have := hb1 x e
            omega
      subst hxy
      rw [pw_ext a b ha2 hb2 fun z => ?_]
      constructor
      · intro hz
        rcases List.mem_cons.1 ((h z).1 (by simp [hz])) with e | e
        · have := ha1 z hz; rw [e] at this; omega
        · exact e
      · intro hz
        rcases List.mem_cons.1 ((h z).2 (by simp [hz])) with e | e
        · have := hb1 z hz; rw [e] at this; omega
        · exact e
theorem subI_iff {a b : List Int} : subI b a = true ↔ ∀ l ∈ a, l ∈ b := by
  simp [subI, hasI]
theorem subI_refl (c : List Int) : subI c c = true := subI_iff.2 fun _ h => h
theorem clause_same {vars : Int} {a b : List Int} (ha : clauseB vars a = true) (hb : clauseB vars b = true) (h1 : subI b a = true) (h2 : subI a b = true) : a = b :=
  pw_ext a b (clauseB_pw ha) (clauseB_pw hb) fun x => ⟨subI_iff.1 h1 x, subI_iff.1 h2 x⟩

/-- as the reference asks it: does some clause from place k on make the clause c at place i needless? -/
def dropS (c : List Int) (i : Nat) : Nat → List (List Int) → Bool
  | _, [] => false
  | k, d :: r => (subI c d && (!(d == c) || decide (k < i))) || dropS c i (k + 1) r
/-- as the program asks it -/
def dropI (t : List (List Int)) (i : Nat) (c : List Int) : Bool := (t.take i).any (fun m => c == m) || t.any fun d => subI c d && !subI d c
theorem dropS_split (c : List Int) (i : Nat) : ∀ (t : List (List Int)) (k : Nat), dropS c i k t = ((t.take (i - k)).any (fun m => c == m) || t.any fun d => subI c d && !(d == c))
  | [], k => by simp [dropS]
  | d :: r, k => by
    rw [dropS, dropS_split c i r (k + 1)]
    by_cases hk : k < i
    · rw [show i - k = (i - (k + 1)) + 1 from by omega, List.take_succ_cons, List.any_cons, List.any_cons]
      by_cases hd : d = c
      · subst hd; simp [subI_refl, hk]
      · have hcd : ¬ c = d := fun e => hd e.symm
        simp only [hk, decide_true, Bool.or_true, Bool.and_true]
        rw [show (d == c) = false from by simpa using hd, show (c == d) = false from by simpa using hcd]
        simp only [Bool.false_or, Bool.not_false, Bool.and_true]
        cases subI c d <;> simp

    · rw [show i - k = 0 from by omega, show i - (k + 1) = 0 from by omega]
      simp [hk]
theorem drop_eq {vars : Int} {t : List (List Int)} (ht : ∀ c ∈ t, clauseB vars c = true) {c : List Int} (hc : clauseB vars c = true) (i : Nat) : dropI t i c = dropS c i 0 t := by
  rw [dropS_split]
  unfold dropI
  rw [Nat.sub_zero]
  congr 1
  rw [Bool.eq_iff_iff, List.any_eq_true, List.any_eq_true]
  constructor
  · rintro ⟨d, hd, h⟩
    refine ⟨d, hd, ?_⟩
    simp only [Bool.and_eq_true, Bool.not_eq_true', beq_eq_false_iff_ne] at h ⊢
    exact ⟨h.1, fun e => by rw [e, subI_refl] at h; simp at h⟩
  · rintro ⟨d, hd, h⟩
    refine ⟨d, hd, ?_⟩
    simp only [Bool.and_eq_true, Bool.not_eq_true', beq_eq_false_iff_ne] at h ⊢
    refine ⟨h.1, ?_⟩
    cases h2 : subI d c with
    | false => rfl
    | true => exact absurd (clause_same (ht d hd) hc h.1 h2) h.2
/-- the clauses from place k on that no other one makes needless -/
def keepFrom (t : List (List Int)) : Nat → List (List Int) → List (List Int)
  | _, [] => []
  | k, c :: r => if dropS c k 0 t then keepFrom t (k + 1) r else c :: keepFrom t (k + 1) r
theorem keepFrom_mem (t : List (List Int)) : ∀ (l : List (List Int)) (k : Nat), ∀ c ∈ keepFrom t k l, c ∈ l
  | [], _ => by simp [keepFrom]
  | c :: r, k => by
    intro d hd
    rw [keepFrom] at hd
    split at hd
    · exact List.mem_cons_of_mem _ (keepFrom_mem t r (k + 1) d hd)
    · rcases List.mem_cons.1 hd with rfl | hd
      · simp
      · exact List.mem_cons_of_mem _ (keepFrom_mem t r (k + 1) d hd)
theorem keepFrom_len (t : List (List Int)) : ∀ (l : List (List Int)) (k : Nat), (keepFrom t k l).length ≤ l.length
  | [], _ => by simp [keepFrom]
  | c :: r, k => by
    have := keepFrom_len t r (k + 1)
    rw [keepFrom]
    split <;> simp <;> omega
def fDropWeaker (f : CnfL) : CnfL × Bool := if goodB f then ((f.1, keepFrom f.2 0 f.2), true) else ((0, []), false)
theorem keep_good {f : CnfL} (h : goodB f = true) : goodB (f.1, keepFrom f.2 0 f.2) = true := by
  obtain ⟨h1, h2, h3⟩ := goodB_parts h
  have := keepFrom_len f.2 f.2 0
  unfold goodB allCl
  simp only [h1, Bool.true_and, Bool.and_eq_true, decide_eq_true_eq, List.all_eq_true]
  exact ⟨by omega, fun c hc => h3 c (keepFrom_mem _ _ _ c hc)⟩
theorem fDropWeaker_len {f r0 : CnfL} {r1 : Bool} (hn : szC f ≤ 1048576) (hR : fDropWeaker f = (r0, r1)) : szC r0 ≤ 1048576 := by
  unfold fDropWeaker at hR
  split at hR
  · rename_i hg
    injection hR with h1 _
    have := goodB_sz (keep_good hg)
    rw [← h1]; omega
  · injection hR with h1 _; rw [← h1]; simp [szC, cntT]

end Go.Proofs.Ytkmkdfogpdndoaa
