/- Plain laws on the texts of clauses, read back. -/
import Derived.Test.YtmepficbmgjpoaaDoorSplS
import Derived.Test.YtmepficbmgjpoaaDoorNumPl
import Derived.Test.YtmepficbmgjpoaaDoorTxt
namespace Go.Proofs.YtmepficbmgjpoaaDoor
open Go.RowKit
set_option linter.unusedVariables false

/-- all words are numerals -/
def readAll : List ByteArray → Option (List Int)
  | [] => some []
  | x :: r => match readS x.data.toList with
    | none => none
    | some n => (readAll r).map (n :: ·)
theorem readAll_len : ∀ (l : List ByteArray) (c : List Int), readAll l = some c → c.length = l.length
  | [], c, h => by simp [readAll] at h; simp [h]
  | x :: r, c, h => by
    rw [readAll] at h
    cases h1 : readS x.data.toList with
    | none => rw [h1] at h; cases h
    | some n =>
      rw [h1] at h
      simp only at h
      cases h2 : readAll r with
      | none => rw [h2] at h; cases h
      | some d =>
        rw [h2] at h
        have e : n :: d = c := by simpa using h
        rw [← e]
        simp [readAll_len r d h2]
theorem readAll_itoa : ∀ (l : List ByteArray) (c : List Int), readAll l = some c → l.map (·.data.toList) = c.map Lib.itoa
  | [], c, h => by simp [readAll] at h; simp [h]
  | x :: r, c, h => by
    rw [readAll] at h
    cases h1 : readS x.data.toList with
    | none => rw [h1] at h; cases h
    | some n =>
      rw [h1] at h
      simp only at h
      cases h2 : readAll r with
      | none => rw [h2] at h; cases h
      | some d =>
        rw [h2] at h
        have e : n :: d = c := by simpa using h
        rw [← e]
        simp [readAll_itoa r d h2, (readS_iff.1 h1).2]
/-- the numerals read so far, and the rest -/
theorem readAll_pre : ∀ (pre r : List ByteArray) (ns : List Int), readAll pre = some ns → readAll (pre ++ r) = (readAll r).map (ns ++ ·)
  | [], r, ns, h => by
    simp [readAll] at h
    subst h
    show readAll r = _
    cases readAll r <;> rfl
  | x :: p, r, ns, h => by
    rw [readAll] at h
    rw [List.cons_append, readAll]
    cases h1 : readS x.data.toList with
    | none => rw [h1] at h; cases h
    | some n =>
      rw [h1] at h
      simp only at h ⊢
      cases h2 : readAll p with
      | none => rw [h2] at h; cases h
      | some d =>
        rw [h2] at h
        have e : n :: d = ns := by simpa using h
        subst e
        rw [readAll_pre p r d h2]
        cases readAll r <;> simp
theorem readAll_bad {pre r : List ByteArray} {x : ByteArray} {ns : List Int} (h : readAll pre = some ns) (hx : readS x.data.toList = none) : readAll (pre ++ x :: r) = none := by
  rw [readAll_pre pre _ ns h, readAll, hx]; rfl
theorem readAll_snoc {pre : List ByteArray} {x : ByteArray} {ns : List Int} {n : Int} (h : readAll pre = some ns) (hx : readS x.data.toList = some n) : readAll (pre ++ [x]) = some (ns ++ [n]) := by
  rw [readAll_pre pre _ ns h, readAll, hx]; rfl

theorem join_spl (b : UInt8) : ∀ l cur : List UInt8, Lib.join (spl b cur l) [b] = cur ++ l
  | [], cur => by simp [spl, Lib.join, List.intercalate]
  | c :: r, cur => by
    rw [spl]
    split
    · rename_i h
      subst h
      have ih := join_spl c r []
      obtain ⟨y, ys, hy⟩ : ∃ y ys, spl c [] r = y :: ys := by
        cases h9 : spl c [] r with
        | nil => exact absurd h9 (spl_ne c [] r)
        | cons y ys => exact ⟨y, ys, rfl⟩
      rw [hy] at ih ⊢
      have h1 : Lib.join (cur :: y :: ys) [c] = cur ++ [c] ++ Lib.join (y :: ys) [c] := by simp [Lib.join, List.intercalate]
      rw [h1, ih]
      simp
    · rw [join_spl b r (cur ++ [c])]
      simp
theorem spl_piece (b : UInt8) : ∀ (l cur p : List UInt8), p ∈ spl b cur l → p.length ≤ cur.length + l.length
  | [], cur, p, h => by simp [spl] at h; subst h; simp
  | c :: r, cur, p, h => by
    rw [spl] at h
    split at h
    · rcases List.mem_cons.1 h with rfl | h
      · omega
      · have := spl_piece b r [] p h; simp at this ⊢; omega
    · have := spl_piece b r (cur ++ [c]) p h; simp at this ⊢; omega

def blankB : ByteArray := ByteArray.mk #[32]
def noneB : ByteArray := ByteArray.mk #[110, 111, 110, 101]
/-- the words of a text -/
def wordsOf (s : ByteArray) : List ByteArray := (spl 32 [] s.data.toList).map bs
theorem wordsOf_split (s : ByteArray) : splitS s blankB = wordsOf s := (spl_splitS s blankB rfl).symm
theorem wordsOf_len (s : ByteArray) : (wordsOf s).length ≤ s.size + 1 := by rw [← wordsOf_split]; exact splitS_len s blankB rfl
theorem wordsOf_ne (s : ByteArray) : 0 < (wordsOf s).length := by
  unfold wordsOf
  rw [List.length_map]
  have := spl_ne 32 [] s.data.toList
  exact List.length_pos_iff.2 this
theorem wordsOf_size {s x : ByteArray} (h : x ∈ wordsOf s) : x.size ≤ s.size := by
  unfold wordsOf at h
  obtain ⟨p, hp, rfl⟩ := List.mem_map.1 h
  have := spl_piece 32 s.data.toList [] p hp
  rw [bs_size]
  simpa using this
theorem words_text {s : ByteArray} {c : List Int} (h : readAll (wordsOf s) = some c) : bs (textL c) = s := by
  have hl := readAll_len _ _ h
  have h0 := wordsOf_ne s
  have h1 := readAll_itoa _ _ h
  have h2 : (wordsOf s).map (·.data.toList) = spl 32 [] s.data.toList := by
    unfold wordsOf
    rw [List.map_map]
    have : ((fun x : ByteArray => x.data.toList) ∘ bs) = id := by funext l; simp [bs]
    rw [this, List.map_id]
  have h3 : Lib.join (c.map Lib.itoa) [32] = textL c := join_text c (by intro e; rw [e] at hl; simp at hl; omega)
  rw [← h3, ← h1, h2, join_spl]
  exact bs_list s

/-- what both parsers of clauses return -/
def fParseClause (vars : Int) (s : ByteArray) : List Int × Bool :=
  if s = noneB then ([], varsB vars) else
  match readAll (wordsOf s) with
  | none => ([], false)
  | some c => if clauseB vars c then (c, true) else ([], false)
theorem pc_none {vars : Int} {s : ByteArray} {r0 : List Int} {r1 : Bool} (h : s = noneB) (hR : fParseClause vars s = (r0, r1)) : r0 = [] ∧ r1 = varsB vars := by
  unfold fParseClause at hR; rw [if_pos h] at hR; injection hR with e1 e2; exact ⟨e1.symm, e2.symm⟩
theorem pc_bad {vars : Int} {s : ByteArray} {r0 : List Int} {r1 : Bool} (h : s ≠ noneB) (h1 : readAll (wordsOf s) = none) (hR : fParseClause vars s = (r0, r1)) : r0 = [] ∧ r1 = false := by
  unfold fParseClause at hR; rw [if_neg h, h1] at hR; injection hR with e1 e2; exact ⟨e1.symm, e2.symm⟩
theorem pc_no {vars : Int} {s : ByteArray} {r0 c : List Int} {r1 : Bool} (h : s ≠ noneB) (h1 : readAll (wordsOf s) = some c) (h2 : clauseB vars c = false) (hR : fParseClause vars s = (r0, r1)) : r0 = [] ∧ r1 = false := by
  unfold fParseClause at hR; rw [if_neg h, h1] at hR; simp only [h2, Bool.false_eq_true, if_false] at hR; injection hR with e1 e2; exact ⟨e1.symm, e2.symm⟩
theorem pc_yes {vars : Int} {s : ByteArray} {r0 c : List Int} {r1 : Bool} (h : s ≠ noneB) (h1 : readAll (wordsOf s) = some c) (h2 : clauseB vars c = true) (hR : fParseClause vars s = (r0, r1)) : r0 = c ∧ r1 = true := by
  unfold fParseClause at hR; rw [if_neg h, h1] at hR; simp only [h2, if_true] at hR; injection hR with e1 e2; exact ⟨e1.symm, e2.symm⟩
theorem pc_long {vars : Int} {s : ByteArray} {r0 : List Int} {r1 : Bool} (h : s ≠ noneB) (h1 : 12 < (wordsOf s).length) (hR : fParseClause vars s = (r0, r1)) : r0 = [] ∧ r1 = false := by
  cases h2 : readAll (wordsOf s) with
  | none => exact pc_bad h h2 hR
  | some c =>
    cases h3 : clauseB vars c with
    | false => exact pc_no h h2 h3 hR
    | true =>
      have := clauseB_len h3
      have := readAll_len _ _ h2
      omega
theorem fParseClause_len {vars : Int} {s : ByteArray} {r0 : List Int} {r1 : Bool} (hR : fParseClause vars s = (r0, r1)) : r0.length ≤ 12 := by
  by_cases h : s = noneB
  · rw [(pc_none h hR).1]; simp
  · cases h2 : readAll (wordsOf s) with
    | none => rw [(pc_bad h h2 hR).1]; simp
    | some c =>
      cases h3 : clauseB vars c with
      | false => rw [(pc_no h h2 h3 hR).1]; simp
      | true => rw [(pc_yes h h2 h3 hR).1]; exact clauseB_len h3
theorem fParseClause_small {vars : Int} {s : ByteArray} {r0 : List Int} {r1 : Bool} (hR : fParseClause vars s = (r0, r1)) : ∀ l ∈ r0, -12 ≤ l ∧ l ≤ 12 := by
  by_cases h : s = noneB
  · rw [(pc_none h hR).1]; simp
  · cases h2 : readAll (wordsOf s) with
    | none => rw [(pc_bad h h2 hR).1]; simp
    | some c =>
      cases h3 : clauseB vars c with
      | false => rw [(pc_no h h2 h3 hR).1]; simp
      | true => rw [(pc_yes h h2 h3 hR).1]; intro l hl; exact ⟨(clauseB_small h3 l hl).2.1, (clauseB_small h3 l hl).2.2⟩
/-- a text that a parser takes is the text of its clause -/
theorem fParseClause_text {vars : Int} {s : ByteArray} {r0 : List Int} (hR : fParseClause vars s = (r0, true)) : bs (textL r0) = s ∧ clauseB vars r0 = true := by
  by_cases h : s = noneB
  · obtain ⟨rfl, h1⟩ := pc_none h hR
    refine ⟨by rw [h]; rfl, ?_⟩
    unfold clauseB
    rw [← h1]; rfl
  · cases h2 : readAll (wordsOf s) with
    | none => have := (pc_bad h h2 hR).2; cases this
    | some c =>
      cases h3 : clauseB vars c with
      | false => have := (pc_no h h2 h3 hR).2; cases this
      | true =>
        obtain ⟨rfl, -⟩ := pc_yes h h2 h3 hR
        exact ⟨words_text h2, h3⟩

end Go.Proofs.YtmepficbmgjpoaaDoor
