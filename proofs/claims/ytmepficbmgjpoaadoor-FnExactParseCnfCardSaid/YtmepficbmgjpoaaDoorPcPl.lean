/- Plain laws on the texts of formulas, read back in the two ways. -/
import Derived.Test.YtmepficbmgjpoaaDoorParPl
import Derived.Test.YtmepficbmgjpoaaDoorCnfT
import Derived.Test.YtmepficbmgjpoaaDoorRdS
import Derived.Lib.CutLaws
namespace Go.Proofs.YtmepficbmgjpoaaDoor
open Go.RowKit Go.Lib
set_option linter.unusedVariables false

theorem index_app (sub : List UInt8) : ∀ (s : List UInt8) (i : Nat), index s sub = i → s = s.take i ++ sub ++ s.drop (i + sub.length)
  | [], i, h => by
    rw [index] at h
    cases sub with
    | nil => simp
    | cons c t => exfalso; simp at h
  | b :: l, i, h => by
    rw [index] at h
    split at h
    · rename_i hp
      obtain ⟨t, ht⟩ := List.isPrefixOf_iff_prefix.1 hp
      have hi : i = 0 := by omega
      subst hi
      rw [List.take_zero, List.nil_append, Nat.zero_add, ← ht]
      simp
    · split at h
      · omega
      · rename_i h1
        have h2 : index l sub ≠ -1 := by simpa using h1
        have h3 := index_ge l sub
        obtain ⟨j, hj⟩ : ∃ j : Nat, index l sub = j := ⟨(index l sub).toNat, by omega⟩
        have hi : i = j + 1 := by omega
        subst hi
        have ih := index_app sub l j hj
        conv => lhs; rw [ih]
        simp [Nat.add_right_comm]
/-- parts with a separator between them, the first apart -/
def glue (sep p : List UInt8) (ps : List (List UInt8)) : List UInt8 := p ++ ps.flatMap fun x => sep ++ x
theorem glue_split (sep : List UInt8) (h1 : 1 ≤ sep.length) : ∀ (n : Nat) (s : List UInt8), s.length ≤ n → ∃ p ps, split s sep = p :: ps ∧ s = glue sep p ps
  | n, s, hn => by
    by_cases hm : index s sep = -1
    · exact ⟨s, [], split_miss hm, by simp [glue]⟩
    · obtain ⟨i, hi⟩ : ∃ i : Nat, index s sep = i := ⟨(index s sep).toNat, by have := index_ge s sep; omega⟩
      have ha := index_app sep s i hi
      have hl := congrArg List.length ha
      simp only [List.length_append, List.length_take, List.length_drop] at hl
      cases n with
      | zero =>
        have : s = [] := List.eq_nil_of_length_eq_zero (by omega)
        subst this
        simp at ha
        rw [ha] at h1
        simp at h1
      | succ n =>
        obtain ⟨p, ps, h2, h3⟩ := glue_split sep h1 n (s.drop (i + sep.length)) (by rw [List.length_drop]; omega)
        refine ⟨s.take i, p :: ps, by rw [split_hit h1 hi, h2], ?_⟩
        conv => lhs; rw [ha, h3]
        simp [glue]
theorem index_no {b : UInt8} {t : List UInt8} : ∀ (x : List UInt8), b ∉ x → index x (b :: t) = -1
  | [], _ => by simp [index]
  | c :: x, h => by
    have hc : b ≠ c := fun e => h (by simp [e])
    have hp : (b :: t).isPrefixOf (c :: x) = false := by simp [List.isPrefixOf, hc]
    rw [index, hp, index_no x (fun e => h (by simp [e]))]
    rfl
theorem index_at {b : UInt8} {t r : List UInt8} : ∀ (x : List UInt8), b ∉ x → index (x ++ (b :: t ++ r)) (b :: t) = (x.length : Nat)
  | [], _ => by
    have hp : (b :: t).isPrefixOf (b :: (t ++ r)) = true := List.isPrefixOf_iff_prefix.2 ⟨r, rfl⟩
    show index (b :: (t ++ r)) (b :: t) = _
    rw [index, hp]; rfl
  | c :: x, h => by
    have hc : b ≠ c := fun e => h (by simp [e])
    have hp : (b :: t).isPrefixOf (c :: (x ++ (b :: t ++ r))) = false := by simp [List.isPrefixOf, hc]
    show index (c :: (x ++ (b :: t ++ r))) (b :: t) = _
    rw [index, hp, index_at x (fun e => h (by simp [e]))]
    have : (((x.length : Nat) : Int) == -1) = false := by rw [beq_eq_false_iff_ne]; omega
    simp [this]
theorem split_glue {b : UInt8} {t : List UInt8} : ∀ (ps : List (List UInt8)) (p : List UInt8), b ∉ p → (∀ x ∈ ps, b ∉ x) → split (glue (b :: t) p ps) (b :: t) = p :: ps
  | [], p, h, _ => by
    have : glue (b :: t) p [] = p := by simp [glue]
    rw [this]
    exact split_miss (index_no p h)
  | y :: r, p, h, h2 => by
    have hg : glue (b :: t) p (y :: r) = p ++ (b :: t ++ glue (b :: t) y r) := by simp [glue]
    rw [hg, split_hit (by simp) (index_at p h), List.take_left' rfl, ← List.append_assoc, List.drop_left' (by simp), split_glue r y (h2 y (by simp)) fun x hx => h2 x (by simp [hx])]

/-! ### the bytes of numerals and of clauses -/
theorem decDigits_ge (u : Nat) : ∀ b ∈ decDigits u, 48 ≤ b.toNat ∧ b.toNat ≤ 57 := by
  induction u using Nat.strongRecOn with
  | _ u ih =>
    have hd : ∀ d : Nat, d < 10 → 48 ≤ (UInt8.ofNat (48 + d)).toNat ∧ (UInt8.ofNat (48 + d)).toNat ≤ 57 := by decide
    by_cases h : u < 10
    · rw [decDigits, dif_pos h]
      intro b hb
      obtain rfl := List.mem_singleton.1 hb
      exact hd u h
    · rw [decDigits, dif_neg h]
      intro b hb
      rcases List.mem_append.1 hb with hb | hb
      · exact ih (u / 10) (by omega) b hb
      · obtain rfl := List.mem_singleton.1 hb
        exact hd (u % 10) (by omega)
theorem itoa_byte (n : Int) : ∀ b ∈ itoa n, b.toNat = 45 ∨ (48 ≤ b.toNat ∧ b.toNat ≤ 57) := by
  intro b hb
  unfold itoa at hb
  split at hb
  · rcases List.mem_cons.1 hb with rfl | hb
    · exact .inl rfl
    · exact .inr (decDigits_ge _ b hb)
  · exact .inr (decDigits_ge _ b hb)
theorem itoa_no59 (n : Int) : (59 : UInt8) ∉ itoa n := fun h => by rcases itoa_byte n 59 h with h | h <;> simp at h
theorem itoa_no32 (n : Int) : (32 : UInt8) ∉ itoa n := fun h => by rcases itoa_byte n 32 h with h | h <;> simp at h
theorem itoa_ne (n : Int) : itoa n ≠ [] := by
  unfold itoa
  split
  · simp
  · obtain ⟨c, r, h, _⟩ := decDigits_cons n.toNat
    rw [h]; simp
theorem textL_no59 (c : List Int) : (59 : UInt8) ∉ textL c := by
  cases c with
  | nil => decide
  | cons x r =>
    intro h
    rcases List.mem_append.1 h with h | h
    · exact itoa_no59 x h
    · obtain ⟨l, _, hl⟩ := List.mem_flatMap.1 h
      rcases List.mem_cons.1 hl with h | h
      · cases h
      · exact itoa_no59 l h
theorem textL_ne (c : List Int) : 1 ≤ (textL c).length := by
  cases c with
  | nil => decide
  | cons x r =>
    have := List.length_pos_iff.2 (itoa_ne x)
    simp only [textL, List.length_append]
    omega
/-- only the empty clause is written 'none' -/
theorem textL_none {c : List Int} (h : c ≠ []) : textL c ≠ [110, 111, 110, 101] := by
  cases c with
  | nil => exact absurd rfl h
  | cons x r =>
    intro e
    obtain ⟨b, t, hb⟩ : ∃ b t, itoa x = b :: t := by
      cases hh : itoa x with
      | nil => exact absurd hh (itoa_ne x)
      | cons b t => exact ⟨b, t, rfl⟩
    have h1 := itoa_byte x b (by rw [hb]; simp)
    rw [textL, hb] at e
    have : b = 110 := by simpa using congrArg List.head? e
    subst this
    rcases h1 with h1 | h1 <;> simp at h1
theorem textL_words {x : Int} {r : List Int} : spl 32 [] (textL (x :: r)) = (x :: r).map itoa := by
  rw [spl_eq]
  have : textL (x :: r) = glue [32] (itoa x) (r.map itoa) := by simp [textL, tailL, glue, List.flatMap_map]
  rw [this, split_glue _ _ (itoa_no32 x) (by intro y hy; obtain ⟨l, _, rfl⟩ := List.mem_map.1 hy; exact itoa_no32 l)]
  rfl
theorem readAll_of : ∀ c : List Int, (∀ l ∈ c, -12 ≤ l ∧ l ≤ 12) → readAll ((c.map itoa).map bs) = some c
  | [], _ => rfl
  | x :: r, h => by
    rw [List.map_cons, List.map_cons, readAll]
    have h1 : readS (bs (itoa x)).data.toList = some x := by
      have hx := h x (by simp)
      have : (bs (itoa x)).data.toList = itoa x := by simp [bs]
      rw [this]
      exact readS_iff.2 ⟨by simp [withinN]; omega, rfl⟩
    rw [h1, readAll_of r fun l hl => h l (by simp [hl])]
    rfl
theorem parse_text {vars : Int} {c : List Int} (h : clauseB vars c = true) : fParseClause vars (bs (textL c)) = (c, true) := by
  unfold fParseClause
  have hb : (bs (textL c) = noneB) ↔ textL c = [110, 111, 110, 101] := bs_inj
  cases c with
  | nil =>
    rw [if_pos (hb.2 rfl)]
    have := clauseB_vars h
    rw [this]
  | cons x r =>
    rw [if_neg (fun e => textL_none (by simp) (hb.1 e))]
    have hw : wordsOf (bs (textL (x :: r))) = ((x :: r).map itoa).map bs := by
      unfold wordsOf
      have : (bs (textL (x :: r))).data.toList = textL (x :: r) := by simp [bs]
      rw [this, textL_words]
    rw [hw, readAll_of _ fun l hl => ⟨(clauseB_small h l hl).2.1, (clauseB_small h l hl).2.2⟩]
    simp only
    rw [if_pos h]

/-! ### lists of parts, each read -/
def allBy (g : ByteArray → Option (List Int)) : List ByteArray → Option (List (List Int))
  | [] => some []
  | x :: r => match g x with
    | none => none
    | some n => (allBy g r).map (n :: ·)
variable {g : ByteArray → Option (List Int)}
theorem allBy_cons {x : ByteArray} {r : List ByteArray} {cs : List (List Int)} (h : allBy g (x :: r) = some cs) : ∃ c d, g x = some c ∧ allBy g r = some d ∧ cs = c :: d := by
  rw [allBy] at h
  cases h1 : g x with
  | none => rw [h1] at h; cases h
  | some n =>
    rw [h1] at h
    simp only at h
    cases h2 : allBy g r with
    | none => rw [h2] at h; cases h
    | some d =>
      rw [h2] at h
      exact ⟨n, d, rfl, rfl, by simpa using h.symm⟩
theorem allBy_len : ∀ (l : List ByteArray) (cs : List (List Int)), allBy g l = some cs → cs.length = l.length
  | [], cs, h => by simp [allBy] at h; simp [h]
  | x :: r, cs, h => by
    obtain ⟨c, d, _, h2, rfl⟩ := allBy_cons h
    simp [allBy_len r d h2]
theorem allBy_pre : ∀ (pre r : List ByteArray) (ns : List (List Int)), allBy g pre = some ns → allBy g (pre ++ r) = (allBy g r).map (ns ++ ·)
  | [], r, ns, h => by
    simp [allBy] at h
    subst h
    show allBy g r = _
    cases allBy g r <;> rfl
  | x :: p, r, ns, h => by
    obtain ⟨c, d, h1, h2, rfl⟩ := allBy_cons h
    rw [List.cons_append, allBy, h1]
    simp only
    rw [allBy_pre p r d h2]
    cases allBy g r <;> simp
theorem allBy_bad {pre r : List ByteArray} {x : ByteArray} {ns : List (List Int)} (h : allBy g pre = some ns) (hx : g x = none) : allBy g (pre ++ x :: r) = none := by
  rw [allBy_pre pre _ ns h, allBy, hx]; rfl
theorem allBy_snoc {pre : List ByteArray} {x : ByteArray} {ns : List (List Int)} {n : List Int} (h : allBy g pre = some ns) (hx : g x = some n) : allBy g (pre ++ [x]) = some (ns ++ [n]) := by
  rw [allBy_pre pre _ ns h, allBy, hx]; rfl
theorem allBy_of {xs : List ByteArray} {cs : List (List Int)} (f : List Int → ByteArray) (hx : xs = cs.map f) (h : ∀ c ∈ cs, g (f c) = some c) : allBy g xs = some cs := by
  subst hx
  induction cs with
  | nil => rfl
  | cons c r ih =>
    rw [List.map_cons, allBy, h c (by simp), ih fun d hd => h d (by simp [hd])]
    rfl
theorem allBy_to {f : List Int → ByteArray} : ∀ (xs : List ByteArray) (cs : List (List Int)), (∀ x c, g x = some c → x = f c) → allBy g xs = some cs → xs = cs.map f
  | [], cs, _, h => by simp [allBy] at h; simp [h]
  | x :: r, cs, hg, h => by
    obtain ⟨c, d, h1, h2, rfl⟩ := allBy_cons h
    rw [List.map_cons, ← allBy_to r d hg h2, hg x c h1]
theorem allBy_all {p : List Int → Prop} : ∀ (xs : List ByteArray) (cs : List (List Int)), (∀ x c, g x = some c → p c) → allBy g xs = some cs → ∀ c ∈ cs, p c
  | [], cs, _, h => by simp [allBy] at h; simp [h]
  | x :: r, cs, hg, h => by
    obtain ⟨c, d, h1, h2, rfl⟩ := allBy_cons h
    intro y hy
    rcases List.mem_cons.1 hy with rfl | hy
    · exact hg x _ h1
    · exact allBy_all r d hg h2 y hy

/-- a clause as the program finds it; as the reference finds it -/
def clI (vars : Int) (p : ByteArray) : Option (List Int) := if (fParseClause vars p).2 = true then some (fParseClause vars p).1 else none
def clS (vars : Int) (p : ByteArray) : Option (List Int) := if 2 ≤ p.size ∧ p.data.toList.head? = some 32 then clI vars (p.extract 1 p.size) else none
theorem clI_yes {vars : Int} {p : ByteArray} {c : List Int} (h : clI vars p = some c) : fParseClause vars p = (c, true) := by
  unfold clI at h
  split at h
  · rename_i h1
    have h2 : (fParseClause vars p).1 = c := by simpa using h
    rw [← h2, ← h1]
  · cases h
theorem clI_of {vars : Int} {p : ByteArray} {c : List Int} (h : fParseClause vars p = (c, true)) : clI vars p = some c := by unfold clI; rw [h]; rfl
theorem clI_no {vars : Int} {p : ByteArray} {c : List Int} (h : fParseClause vars p = (c, false)) : clI vars p = none := by unfold clI; rw [h]; rfl
theorem clI_text {vars : Int} (x : ByteArray) (c : List Int) (h : clI vars x = some c) : x = bs (textL c) := (fParseClause_text (clI_yes h)).1.symm
theorem clI_ok {vars : Int} (x : ByteArray) (c : List Int) (h : clI vars x = some c) : clauseB vars c = true := (fParseClause_text (clI_yes h)).2
theorem clS_ok {vars : Int} (x : ByteArray) (c : List Int) (h : clS vars x = some c) : clauseB vars c = true := by
  unfold clS at h
  split at h
  · exact clI_ok _ c h
  · cases h
theorem clS_of {vars : Int} {c : List Int} (h : clauseB vars c = true) : clS vars (bs (32 :: textL c)) = some c := by
  unfold clS
  have h1 : (bs (32 :: textL c)).data.toList = 32 :: textL c := by simp [bs]
  have h2 : (bs (32 :: textL c)).size = (textL c).length + 1 := by rw [bs_size]; rfl
  rw [if_pos ⟨by rw [h2]; have := textL_ne c; omega, by rw [h1]; rfl⟩, extract_bs, h1, h2]
  have : ((32 :: textL c).drop 1).take ((textL c).length + 1 - 1) = textL c := by simp
  rw [this]
  exact clI_of (parse_text h)

def semiB : ByteArray := ByteArray.mk #[59, 32]
/-- the formula of a text, as the program reads it -/
def pcI (s : ByteArray) : Option CnfL := match splitS s semiB with
  | [] => none
  | p :: ps => match readS p.data.toList with
    | none => none
    | some vars => match allBy (clI vars) ps with
      | none => none
      | some cs => if goodB (vars, cs) = true then some (vars, cs) else none
def partsOf (s : ByteArray) : List ByteArray := (spl 59 [] s.data.toList).map bs
/-- .. as the reference reads it -/
def pcS (s : ByteArray) : Option CnfL := match partsOf s with
  | [] => none
  | p :: ps => match readS p.data.toList with
    | none => none
    | some vars => if varsB vars = true ∧ ps.length ≤ 60 then
        match allBy (clS vars) ps with
        | none => none
        | some cs => if bs (cnfL (vars, cs)) = s then some (vars, cs) else none
      else none
section
variable {s p : ByteArray} {ps : List ByteArray} {vars : Int} {cs : List (List Int)}
theorem pcS_a (h : partsOf s = p :: ps) (h1 : readS p.data.toList = none) : pcS s = none := by unfold pcS; rw [h]; simp only; rw [h1]
theorem pcS_b (h : partsOf s = p :: ps) (h1 : readS p.data.toList = some vars) (h2 : ¬ (varsB vars = true ∧ ps.length ≤ 60)) : pcS s = none := by unfold pcS; rw [h]; simp only; rw [h1]; simp only; rw [if_neg h2]
theorem pcS_c (h : partsOf s = p :: ps) (h1 : readS p.data.toList = some vars) (h3 : allBy (clS vars) ps = none) : pcS s = none := by
  unfold pcS; rw [h]; simp only; rw [h1]; simp only
  split
  · rw [h3]
  · rfl
theorem pcS_d (h : partsOf s = p :: ps) (h1 : readS p.data.toList = some vars) (h2 : varsB vars = true ∧ ps.length ≤ 60) (h3 : allBy (clS vars) ps = some cs) : pcS s = if bs (cnfL (vars, cs)) = s then some (vars, cs) else none := by
  unfold pcS; rw [h]; simp only; rw [h1]; simp only; rw [if_pos h2, h3]
theorem pcI_a (h : splitS s semiB = p :: ps) (h1 : readS p.data.toList = none) : pcI s = none := by unfold pcI; rw [h]; simp only; rw [h1]
theorem pcI_c (h : splitS s semiB = p :: ps) (h1 : readS p.data.toList = some vars) (h3 : allBy (clI vars) ps = none) : pcI s = none := by unfold pcI; rw [h]; simp only; rw [h1]; simp only; rw [h3]
theorem pcI_d (h : splitS s semiB = p :: ps) (h1 : readS p.data.toList = some vars) (h3 : allBy (clI vars) ps = some cs) : pcI s = if goodB (vars, cs) = true then some (vars, cs) else none := by unfold pcI; rw [h]; simp only; rw [h1]; simp only; rw [h3]
end
theorem cnfL_glue (f : CnfL) : cnfL f = glue [59, 32] (itoa f.1) (f.2.map textL) := by simp [cnfL, tailC, glue, List.flatMap_map]
theorem cnfL_glue1 (f : CnfL) : cnfL f = glue [59] (itoa f.1) (f.2.map fun c => 32 :: textL c) := by simp [cnfL, tailC, glue, List.flatMap_map]
theorem good_of {vars : Int} {cs : List (List Int)} (h1 : varsB vars = true) (h2 : cs.length ≤ 60) (h3 : ∀ c ∈ cs, clauseB vars c = true) : goodB (vars, cs) = true := by
  unfold goodB allCl
  simp [h1, h2]
  exact h3
theorem readS_itoa {n : Int} (h : varsB n = true) : readS (itoa n) = some n := readS_iff.2 ⟨by obtain ⟨m, rfl, hm⟩ := varsB_nat h; simp [withinN]; omega, rfl⟩
theorem bs_data (l : List UInt8) : (bs l).data.toList = l := by simp [bs]
theorem pcI_iff (s : ByteArray) (f : CnfL) : pcI s = some f ↔ goodB f = true ∧ bs (cnfL f) = s := by
  constructor
  · intro h
    unfold pcI at h
    obtain ⟨p, ps, h1, h2⟩ := glue_split [59, 32] (by decide) _ s.data.toList (Nat.le_refl _)
    have hs : splitS s semiB = bs p :: ps.map bs := by
      unfold splitS
      show (split s.data.toList [59, 32]).map bs = _
      rw [h1]; rfl
    rw [hs] at h
    simp only [bs_data] at h
    cases hr : readS p with
    | none => rw [hr] at h; cases h
    | some vars =>
      rw [hr] at h
      simp only at h
      cases ha : allBy (clI vars) (ps.map bs) with
      | none => rw [ha] at h; cases h
      | some cs =>
        rw [ha] at h
        simp only at h
        split at h
        · rename_i hg
          have e : (vars, cs) = f := by simpa using h
          subst e
          refine ⟨hg, ?_⟩
          have ht := allBy_to (f := fun c => bs (textL c)) _ _ clI_text ha
          have ht2 : ps = cs.map textL := by
            have h9 := congrArg (List.map fun x : ByteArray => x.data.toList) ht
            rw [List.map_map, List.map_map] at h9
            have e1 : ((fun x : ByteArray => x.data.toList) ∘ bs) = id := by funext l; simp [bs]
            have e2 : ((fun x : ByteArray => x.data.toList) ∘ fun c => bs (textL c)) = textL := by funext l; simp [bs]
            rw [e1, e2, List.map_id] at h9
            exact h9
          rw [cnfL_glue]
          refine bs_inj.2 ?_
          rw [h2, ← ht2, (readS_iff.1 hr).2]
        · cases h
  · rintro ⟨hg, hs⟩
    obtain ⟨vars, cs⟩ := f
    obtain ⟨g1, g2, g3⟩ := goodB_parts hg
    have hd : s.data.toList = cnfL (vars, cs) := (bs_inj.1 hs).symm
    unfold pcI
    have hsp : splitS s semiB = bs (itoa vars) :: (cs.map textL).map bs := by
      unfold splitS
      show (split s.data.toList [59, 32]).map bs = _
      rw [hd, cnfL_glue, split_glue _ _ (itoa_no59 _) (by intro y hy; obtain ⟨c, _, rfl⟩ := List.mem_map.1 hy; exact textL_no59 c)]
      rfl
    rw [hsp]
    simp only [bs_data]
    rw [readS_itoa g1]
    simp only
    rw [allBy_of (g := clI vars) (cs := cs) (fun c => bs (textL c)) (by rw [List.map_map]; rfl) fun c hc => clI_of (parse_text (g3 c hc))]
    simp only
    rw [if_pos hg]
theorem pcS_iff (s : ByteArray) (f : CnfL) : pcS s = some f ↔ goodB f = true ∧ bs (cnfL f) = s := by
  constructor
  · intro h
    unfold pcS at h
    cases hp : partsOf s with
    | nil => rw [hp] at h; cases h
    | cons p ps =>
      rw [hp] at h
      simp only at h
      cases hr : readS p.data.toList with
      | none => rw [hr] at h; cases h
      | some vars =>
        rw [hr] at h
        simp only at h
        split at h
        · rename_i hv
          cases ha : allBy (clS vars) ps with
          | none => rw [ha] at h; cases h
          | some cs =>
            rw [ha] at h
            simp only at h
            split at h
            · rename_i ht
              have e : (vars, cs) = f := by simpa using h
              subst e
              exact ⟨good_of hv.1 (by rw [allBy_len _ _ ha]; exact hv.2) (allBy_all _ _ clS_ok ha), ht⟩
            · cases h
        · cases h
  · rintro ⟨hg, hs⟩
    obtain ⟨vars, cs⟩ := f
    obtain ⟨g1, g2, g3⟩ := goodB_parts hg
    have hd : s.data.toList = cnfL (vars, cs) := (bs_inj.1 hs).symm
    unfold pcS
    have hsp : partsOf s = bs (itoa vars) :: (cs.map fun c => 32 :: textL c).map bs := by
      unfold partsOf
      rw [spl_eq, hd, cnfL_glue1, split_glue _ _ (itoa_no59 _) (by
        intro y hy
        obtain ⟨c, _, rfl⟩ := List.mem_map.1 hy
        intro h
        rcases List.mem_cons.1 h with h | h
        · cases h
        · exact textL_no59 c h)]
      rfl
    rw [hsp]
    simp only [bs_data]
    rw [readS_itoa g1]
    simp only
    rw [if_pos ⟨g1, by simpa using g2⟩, allBy_of (g := clS vars) (cs := cs) (fun c => bs (32 :: textL c)) (by rw [List.map_map]; rfl) fun c hc => clS_of (g3 c hc)]
    simp only
    rw [if_pos hs]
theorem pcI_eq (s : ByteArray) : pcI s = pcS s := by
  cases h : pcI s with
  | some f => exact ((pcS_iff s f).2 ((pcI_iff s f).1 h)).symm
  | none =>
    cases h2 : pcS s with
    | none => rfl
    | some f => rw [(pcI_iff s f).2 ((pcS_iff s f).1 h2)] at h; cases h
/-- what both parsers of formulas return -/
def fParseCnf (s : ByteArray) : CnfL × Bool := match pcS s with | some f => (f, true) | none => ((0, []), false)
theorem pf_none {s : ByteArray} {r0 : CnfL} {r1 : Bool} (h : pcS s = none) (hR : fParseCnf s = (r0, r1)) : r0 = (0, []) ∧ r1 = false := by
  unfold fParseCnf at hR; rw [h] at hR; injection hR with e1 e2; exact ⟨e1.symm, e2.symm⟩
theorem pf_some {s : ByteArray} {f r0 : CnfL} {r1 : Bool} (h : pcS s = some f) (hR : fParseCnf s = (r0, r1)) : r0 = f ∧ r1 = true := by
  unfold fParseCnf at hR; rw [h] at hR; injection hR with e1 e2; exact ⟨e1.symm, e2.symm⟩
theorem fParseCnf_good {s : ByteArray} {r0 : CnfL} {r1 : Bool} (hR : fParseCnf s = (r0, r1)) : goodB r0 = true := by
  cases h : pcS s with
  | none => rw [(pf_none h hR).1]; decide
  | some f => rw [(pf_some h hR).1]; exact ((pcS_iff s f).1 h).1

end Go.Proofs.YtmepficbmgjpoaaDoor
