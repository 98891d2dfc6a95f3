/- Plain laws: the prime clauses, as the program visits them and as the reference sieves them. -/
import Derived.Test.YtlipmbcjpmbjnaaSrtI
import Derived.Test.YtlipmbcjpmbjnaaFullPl
import Derived.Test.YtlipmbcjpmbjnaaDel
namespace Go.Proofs.Ytlipmbcjpmbjnaa
open Go.RowKit
set_option linter.unusedVariables false

/-- literals of rising variables, from lo on, n of them -/
def UpC (lo n : Nat) (s : List Int) : Prop := (∀ x ∈ s, lo ≤ x.natAbs ∧ x.natAbs < lo + n) ∧ s.Pairwise (fun a b => a.natAbs < b.natAbs)
theorem upC_nil (lo n : Nat) : UpC lo n [] := ⟨by simp, List.Pairwise.nil⟩
theorem upC_cons {f n : Nat} {x : Int} {s : List Int} : UpC f (n + 1) (x :: s) ↔ (x.natAbs = f ∧ UpC (f + 1) n s) ∨ UpC (f + 1) n (x :: s) := by
  constructor
  · rintro ⟨h1, h2⟩
    obtain ⟨h3, h4⟩ := List.pairwise_cons.1 h2
    have hx := h1 x (List.mem_cons_self ..)
    by_cases e : x.natAbs = f
    · refine .inl ⟨e, fun y hy => ?_, h4⟩
      have := h1 y (List.mem_cons_of_mem _ hy)
      have := h3 y hy
      omega
    · refine .inr ⟨fun y hy => ?_, h2⟩
      have := h1 y hy
      rcases List.mem_cons.1 hy with rfl | hy
      · omega
      · have := h3 y hy; omega
  · rintro (⟨e, h1, h2⟩ | ⟨h1, h2⟩)
    · refine ⟨fun y hy => ?_, List.pairwise_cons.2 ⟨fun y hy => ?_, h2⟩⟩
      · rcases List.mem_cons.1 hy with rfl | hy
        · omega
        · have := h1 y hy; omega
      · have := h1 y hy; omega
    · exact ⟨fun y hy => by have := h1 y hy; omega, h2⟩
theorem upC_zero {f : Nat} {x : Int} {s : List Int} : ¬ UpC f 0 (x :: s) := fun h => by
  have := h.1 x (List.mem_cons_self ..)
  omega

/-- the clauses that the program visits from a variable on, behind a clause -/
def visR : Nat → Nat → List Int → List (List Int)
  | 0, _, _ => []
  | n + 1, f, c => ((c ++ [(f : Int)]) :: visR n (f + 1) (c ++ [(f : Int)])) ++ (((c ++ [-(f : Int)]) :: visR n (f + 1) (c ++ [-(f : Int)])) ++ visR n (f + 1) c)
theorem visR_mem : ∀ (n f : Nat) (c z : List Int), z ∈ visR n f c ↔ ∃ x s, z = c ++ x :: s ∧ UpC f n (x :: s)
  | 0, f, c, z => by
    simp only [visR, List.not_mem_nil, false_iff]
    rintro ⟨x, s, _, h⟩
    exact upC_zero h
  | n + 1, f, c, z => by
    have hh : ∀ y : Int, y.natAbs = f → (z ∈ (c ++ [y]) :: visR n (f + 1) (c ++ [y]) ↔ ∃ s, z = c ++ y :: s ∧ UpC (f + 1) n s) := by
      intro y hy
      rw [List.mem_cons, visR_mem n (f + 1)]
      constructor
      · rintro (rfl | ⟨x, s, rfl, h⟩)
        · exact ⟨[], rfl, upC_nil _ _⟩
        · exact ⟨x :: s, by simp, h⟩
      · rintro ⟨s, rfl, h⟩
        cases s with
        | nil => exact .inl rfl
        | cons x s => exact .inr ⟨x, s, by simp, h⟩
    rw [visR, List.mem_append, List.mem_append, hh f (by omega), hh (-(f : Int)) (by omega), visR_mem n (f + 1)]
    constructor
    · rintro (⟨s, e, h⟩ | ⟨s, e, h⟩ | ⟨x, s, e, h⟩)
      · exact ⟨_, s, e, upC_cons.2 (.inl ⟨by omega, h⟩)⟩
      · exact ⟨_, s, e, upC_cons.2 (.inl ⟨by omega, h⟩)⟩
      · exact ⟨x, s, e, upC_cons.2 (.inr h)⟩
    · rintro ⟨x, s, e, h⟩
      rcases upC_cons.1 h with ⟨hx, h7⟩ | h7
      · rcases Int.natAbs_eq x with h9 | h9
        · rw [hx] at h9; subst h9; exact .inl ⟨s, e, h7⟩
        · rw [hx] at h9; subst h9; exact .inr (.inl ⟨s, e, h7⟩)
      · exact .inr (.inr ⟨x, s, e, h7⟩)
theorem visR_nodup : ∀ (n f : Nat) (c : List Int), 1 ≤ f → (visR n f c).Nodup
  | 0, f, c, _ => List.Pairwise.nil
  | n + 1, f, c, hf => by
    have hne : ∀ c' : List Int, c' ∉ visR n (f + 1) c' := fun c' h => by
      obtain ⟨x, s, e, _⟩ := (visR_mem n (f + 1) c' c').1 h
      have := congrArg List.length e
      simp at this
    have hf1 : ∀ (y : Int) (z : List Int), z ∈ (c ++ [y]) :: visR n (f + 1) (c ++ [y]) → ∃ s, z = c ++ y :: s := fun y z h => by
      rcases List.mem_cons.1 h with rfl | h
      · exact ⟨[], rfl⟩
      · obtain ⟨x, s, e, _⟩ := (visR_mem n (f + 1) _ _).1 h
        exact ⟨x :: s, by rw [e]; simp⟩
    have hnd : ∀ y : Int, ((c ++ [y]) :: visR n (f + 1) (c ++ [y])).Nodup := fun y => List.nodup_cons.2 ⟨hne _, visR_nodup n (f + 1) _ (by omega)⟩
    rw [visR]
    refine List.pairwise_append.2 ⟨hnd _, List.pairwise_append.2 ⟨hnd _, visR_nodup n (f + 1) c (by omega), ?_⟩, ?_⟩
    · intro a ha b hb e
      subst e
      obtain ⟨s, e1⟩ := hf1 _ _ ha
      obtain ⟨x, t, e2, h2⟩ := (visR_mem n (f + 1) _ _).1 hb
      have e3 := List.append_cancel_left (e1.symm.trans e2)
      injection e3 with e3 _
      have := h2.1 x (List.mem_cons_self ..)
      omega
    · intro a ha b hb e
      subst e
      obtain ⟨s, e1⟩ := hf1 _ _ ha
      rcases List.mem_append.1 hb with hb | hb
      · obtain ⟨t, e2⟩ := hf1 _ _ hb
        have e3 := List.append_cancel_left (e1.symm.trans e2)
        injection e3 with e3 _
        omega
      · obtain ⟨x, t, e2, h2⟩ := (visR_mem n (f + 1) _ _).1 hb
        have e3 := List.append_cancel_left (e1.symm.trans e2)
        injection e3 with e3 _
        have := h2.1 x (List.mem_cons_self ..)
        omega
/-- all the clauses, as the program visits them -/
def visA (n : Nat) : List (List Int) := [] :: visR n 1 []
theorem visA_mem (n : Nat) (z : List Int) : z ∈ visA n ↔ UpC 1 n z := by
  unfold visA
  rw [List.mem_cons, visR_mem]
  constructor
  · rintro (rfl | ⟨x, s, rfl, h⟩)
    · exact upC_nil _ _
    · exact h
  · intro h
    cases z with
    | nil => exact .inl rfl
    | cons x s => exact .inr ⟨x, s, rfl, h⟩
theorem visA_nodup (n : Nat) : (visA n).Nodup := List.nodup_cons.2 ⟨fun h => by
  obtain ⟨x, s, e, _⟩ := (visR_mem n 1 _ _).1 h
  simp at e, visR_nodup n 1 [] (Nat.le_refl _)⟩

/-- all the clauses, as the reference makes them -/
def stg : Nat → List (List Int)
  | 0 => [[]]
  | v + 1 => stg v ++ signStep (stg v) ((v : Int) + 1)
theorem stg_mem : ∀ (v : Nat) (z : List Int), z ∈ stg v ↔ UpC 1 v z
  | 0, z => by
    unfold stg
    rw [List.mem_singleton]
    constructor
    · rintro rfl; exact upC_nil _ _
    · intro h
      cases z with
      | nil => rfl
      | cons x s => exact absurd h upC_zero
  | v + 1, z => by
    unfold stg signStep
    rw [List.mem_append, stg_mem v, List.mem_flatMap]
    constructor
    · rintro (h | ⟨c, hc, hz⟩)
      · exact ⟨fun x hx => by have := h.1 x hx; omega, h.2⟩
      · rw [stg_mem v] at hc
        have key : ∀ y : Int, y.natAbs = v + 1 → UpC 1 (v + 1) (c ++ [y]) := fun y hy => by
          refine ⟨fun x hx => ?_, List.pairwise_append.2 ⟨hc.2, List.pairwise_singleton _ _, fun a ha b hb => ?_⟩⟩
          · rcases List.mem_append.1 hx with hx | hx
            · have := hc.1 x hx; omega
            · obtain rfl := List.mem_singleton.1 hx; omega
          · obtain rfl := List.mem_singleton.1 hb
            have := hc.1 a ha; omega
        rcases List.mem_cons.1 hz with rfl | hz
        · exact key _ (by omega)
        · obtain rfl := List.mem_singleton.1 hz
          exact key _ (by omega)
    · intro h
      rcases List.eq_nil_or_concat z with rfl | ⟨c, x, rfl⟩
      · exact .inl (upC_nil _ _)
      · rw [List.concat_eq_append] at h ⊢
        obtain ⟨h1, h2⟩ := h
        obtain ⟨h3, _, h4⟩ := List.pairwise_append.1 h2
        have hx := h1 x (by simp)
        by_cases e : x.natAbs = v + 1
        · refine .inr ⟨c, (stg_mem v c).2 ⟨fun y hy => ?_, h3⟩, ?_⟩
          · have := h1 y (by simp [hy])
            have := h4 y hy x (by simp)
            omega
          · rcases Int.natAbs_eq x with h9 | h9
            · rw [e] at h9; simp [h9]
            · rw [e] at h9; simp [h9]
        · refine .inl ⟨fun y hy => ?_, h2⟩
          have := h1 y hy
          rcases List.mem_append.1 hy with hy | hy
          · have := h4 y hy x (by simp); omega
          · obtain rfl := List.mem_singleton.1 hy; omega
theorem signStep_len (t : List (List Int)) (v : Int) : (signStep t v).length = 2 * t.length := by
  unfold signStep
  induction t with
  | nil => rfl
  | cons c r ih => simp [ih]; omega
theorem stg_len : ∀ v : Nat, (stg v).length = 3 ^ v
  | 0 => rfl
  | v + 1 => by rw [stg, List.length_append, signStep_len, stg_len v, Nat.pow_succ]; omega

/-- a formula implies a clause and none without one of its literals -/
def primeI (f : CnfL) (z : List Int) : Bool := impliesF f z && (List.range z.length).all fun k => !impliesF f (skipL z k)
theorem primeI_iff (f : CnfL) (z : List Int) : primeI f z = true ↔ impliesF f z = true ∧ ∀ k, k < z.length → impliesF f (skipL z k) = false := by
  unfold primeI
  simp
/-- the clauses that stay, one after the other -/
def keptL (f : CnfL) (l acc : List (List Int)) : List (List Int) := l.foldl (fun a z => if (a.all fun d => !subI z d) && impliesF f z then a ++ [z] else a) acc
theorem keptL_snoc (f : CnfL) (l : List (List Int)) (z : List Int) (acc : List (List Int)) : keptL f (l ++ [z]) acc = if ((keptL f l acc).all fun d => !subI z d) && impliesF f z then keptL f l acc ++ [z] else keptL f l acc := by
  unfold keptL
  rw [List.foldl_append]
  rfl
theorem subI_iff (z d : List Int) : subI z d = true ↔ ∀ x ∈ d, x ∈ z := by
  unfold subI hasI
  simp
theorem implies_mono {f : CnfL} {d z : List Int} (h : ∀ x ∈ d, x ∈ z) (hi : impliesF f d = true) : impliesF f z = true := by
  unfold impliesF impliesL at hi ⊢
  rw [List.all_eq_true] at hi ⊢
  intro k hk
  have := hi k hk
  rw [Bool.or_eq_true] at this ⊢
  rcases this with h1 | h1
  · refine .inl ?_
    unfold trueB at h1 ⊢
    rw [List.any_eq_true] at h1 ⊢
    obtain ⟨x, hx, ht⟩ := h1
    exact ⟨x, h x hx, ht⟩
  · exact .inr h1
theorem up_ext : ∀ (a b : List Int), a.Pairwise (fun x y => x.natAbs < y.natAbs) → b.Pairwise (fun x y => x.natAbs < y.natAbs) → (∀ x, x ∈ a ↔ x ∈ b) → a = b
  | [], [], _, _, _ => rfl
  | [], y :: s, _, _, h => by have := (h y).2 (List.mem_cons_self ..); cases this
  | x :: r, [], _, _, h => by have := (h x).1 (List.mem_cons_self ..); cases this
  | x :: r, y :: s, h1, h2, h => by
    obtain ⟨a1, a2⟩ := List.pairwise_cons.1 h1
    obtain ⟨b1, b2⟩ := List.pairwise_cons.1 h2
    have hxy : x = y := by
      rcases List.mem_cons.1 ((h x).1 (List.mem_cons_self ..)) with e | e
      · exact e
      · rcases List.mem_cons.1 ((h y).2 (List.mem_cons_self ..)) with e2 | e2
        · exact e2.symm
        · have := a1 y e2; have := b1 x e; omega
    subst hxy
    rw [up_ext r s a2 b2 fun z => ?_]
    constructor
    · intro hz
      rcases List.mem_cons.1 ((h z).1 (List.mem_cons_of_mem _ hz)) with rfl | e
      · have := a1 z hz; omega
      · exact e
    · intro hz
      rcases List.mem_cons.1 ((h z).2 (List.mem_cons_of_mem _ hz)) with rfl | e
      · have := b1 z hz; omega
      · exact e
theorem skipL_in {z : List Int} {k : Nat} {x y : Int} (hk : z[k]? = some x) (hy : y ∈ z) (hne : y ≠ x) : y ∈ skipL z k := by
  have hlt := (List.getElem?_eq_some_iff.1 hk).1
  rw [← List.take_append_drop k z] at hy
  unfold skipL
  rcases List.mem_append.1 hy with hy | hy
  · exact List.mem_append.2 (.inl hy)
  · rw [List.drop_eq_getElem_cons hlt, (List.getElem?_eq_some_iff.1 hk).2] at hy
    rcases List.mem_cons.1 hy with hy | hy
    · exact absurd hy hne
    · exact List.mem_append.2 (.inr hy)
theorem skipL_up {lo n : Nat} {z : List Int} (k : Nat) (h : UpC lo n z) : UpC lo n (skipL z k) := by
  refine ⟨fun x hx => h.1 x (skipL_mem hx), ?_⟩
  unfold skipL
  have h2 := h.2
  have hs : (z.take k ++ z.drop (k + 1)).Sublist z := by
    conv => rhs; rw [← List.take_append_drop k z]
    refine List.Sublist.append_left ?_ _
    rw [← List.drop_drop]
    exact List.drop_sublist _ _
  exact h2.sublist hs

theorem kept_inv (f : CnfL) (n : Nat) (S : List (List Int)) (hS : S.Pairwise fun a b => clsLt a b = true) (hmem : ∀ z, z ∈ S ↔ UpC 1 n z) : ∀ k, k ≤ S.length →
    (keptL f (S.take k) []).Sublist (S.take k) ∧ (∀ z ∈ keptL f (S.take k) [], primeI f z = true) ∧ (∀ z ∈ S.take k, impliesF f z = true → ∃ d ∈ keptL f (S.take k) [], ∀ x ∈ d, x ∈ z) ∧ ∀ z ∈ S.take k, primeI f z = true → z ∈ keptL f (S.take k) []
  | 0, _ => by simp [keptL]
  | k + 1, hk => by
    obtain ⟨h1, h2, h3, h4⟩ := kept_inv f n S hS hmem k (by omega)
    obtain ⟨z, hz⟩ : ∃ z, S[k]? = some z := ⟨_, List.getElem?_eq_getElem (by omega)⟩
    have hzl := (List.getElem?_eq_some_iff.1 hz).2
    have ht : S.take (k + 1) = S.take k ++ [z] := by rw [List.take_add_one, hz]; rfl
    have hd : S.drop k = z :: S.drop (k + 1) := by rw [List.drop_eq_getElem_cons (by omega), hzl]
    have hS2 := hS
    rw [← List.take_append_drop k S, hd] at hS2
    obtain ⟨_, hp2, hp3⟩ := List.pairwise_append.1 hS2
    obtain ⟨hp4, _⟩ := List.pairwise_cons.1 hp2
    have hzS : z ∈ S := List.mem_of_getElem? hz
    have hzu := (hmem z).1 hzS
    have hsmall : ∀ e, e ∈ S → e.length < z.length → e ∈ S.take k := fun e he hl => by
      rw [← List.take_append_drop k S, hd] at he
      rcases List.mem_append.1 he with he | he
      · exact he
      · rcases List.mem_cons.1 he with rfl | he
        · omega
        · have := (clsLt_iff z e).1 (hp4 e he)
          omega
    obtain ⟨K, hK⟩ : ∃ K, keptL f (S.take k) [] = K := ⟨_, rfl⟩
    rw [ht, keptL_snoc]
    rw [hK] at h1 h2 h3 h4 ⊢
    cases hc : ((K.all fun d => !subI z d) && impliesF f z) with
    | true =>
      rw [if_pos rfl]
      rw [Bool.and_eq_true] at hc
      obtain ⟨hc1, hc2⟩ := hc
      rw [List.all_eq_true] at hc1
      have hprime : primeI f z = true := by
        refine (primeI_iff f z).2 ⟨hc2, fun j hj => ?_⟩
        cases hi : impliesF f (skipL z j) with
        | false => rfl
        | true =>
          have hin := hsmall (skipL z j) ((hmem _).2 (skipL_up j hzu)) (by rw [skipL_length hj]; omega)
          obtain ⟨d, hd1, hd2⟩ := h3 _ hin hi
          have h9 := hc1 d hd1
          rw [(subI_iff z d).2 fun x hx => skipL_mem (hd2 x hx)] at h9
          cases h9
      refine ⟨h1.append (List.Sublist.refl _), fun y hy => ?_, fun y hy hi => ?_, fun y hy hi => ?_⟩
      · rcases List.mem_append.1 hy with hy | hy
        · exact h2 y hy
        · obtain rfl := List.mem_singleton.1 hy; exact hprime
      · rcases List.mem_append.1 hy with hy | hy
        · obtain ⟨d, hd1, hd2⟩ := h3 y hy hi
          exact ⟨d, by simp [hd1], hd2⟩
        · obtain rfl := List.mem_singleton.1 hy; exact ⟨y, by simp, fun x hx => hx⟩
      · rcases List.mem_append.1 hy with hy | hy
        · exact List.mem_append.2 (.inl (h4 y hy hi))
        · exact List.mem_append.2 (.inr hy)
    | false =>
      rw [if_neg (by simp)]
      have hin : impliesF f z = true → ∃ d ∈ K, ∀ x ∈ d, x ∈ z := fun hi => by
        rw [hi, Bool.and_true] at hc
        obtain ⟨d, hd1, hd2⟩ := List.all_eq_false.1 hc
        exact ⟨d, hd1, (subI_iff z d).1 (by simpa using hd2)⟩
      refine ⟨h1.trans (List.sublist_append_left _ _), h2, fun y hy hi => ?_, fun y hy hi => ?_⟩
      · rcases List.mem_append.1 hy with hy | hy
        · exact h3 y hy hi
        · obtain rfl := List.mem_singleton.1 hy; exact hin hi
      · rcases List.mem_append.1 hy with hy | hy
        · exact h4 y hy hi
        · obtain rfl := List.mem_singleton.1 hy
          obtain ⟨hi1, hi2⟩ := (primeI_iff f y).1 hi
          obtain ⟨d, hd1, hd2⟩ := hin hi1
          have hdP := h1.subset hd1
          have hdu := (hmem d).1 (List.mem_of_mem_take hdP)
          have hlt : clsLt d y = true := hp3 d hdP y (List.mem_cons_self ..)
          by_cases hall : ∀ x ∈ y, x ∈ d
          · have := up_ext d y hdu.2 hzu.2 fun x => ⟨hd2 x, hall x⟩
            subst this
            rw [clsLt_irrefl] at hlt
            cases hlt
          · obtain ⟨x, hx⟩ := Classical.not_forall.1 hall
            obtain ⟨hx1, hx2⟩ := Classical.not_imp.1 hx
            obtain ⟨j, hj⟩ := List.mem_iff_getElem?.1 hx1
            have h8 := hi2 j (List.getElem?_eq_some_iff.1 hj).1
            have h7 : impliesF f (skipL y j) = true := implies_mono (fun u hu => skipL_in hj (hd2 u hu) fun e => hx2 (e ▸ hu)) ((primeI_iff f d).1 (h2 d hd1)).1
            rw [h7] at h8
            cases h8

/-- the program's list and the reference's -/
theorem prime_law (f : CnfL) (n : Nat) (qs : List (List Int)) (hp : qs.Perm ((visA n).filter (primeI f))) (ha : qs.Pairwise fun a b => clsLt b a = false) : qs = keptL f (putAllC (stg n) []) [] := by
  have hS := putAllC_asc (stg n) [] List.Pairwise.nil
  have hmem : ∀ z, z ∈ putAllC (stg n) [] ↔ UpC 1 n z := fun z => by rw [putAllC_mem, ← stg_mem]; simp
  obtain ⟨h1, h2, _, h4⟩ := kept_inv f n _ hS hmem _ (Nat.le_refl _)
  rw [List.take_length] at h1 h2 h4
  refine ascC_ext _ _ ?_ (hS.sublist h1) fun z => ?_
  · have hn : qs.Nodup := hp.nodup_iff.2 ((visA_nodup n).filter _)
    refine (ha.and hn).imp fun {a b} h => ?_
    cases hab : clsLt a b with
    | true => rfl
    | false => exact absurd (clsLt_tri a b hab h.1) h.2
  · rw [hp.mem_iff, List.mem_filter, visA_mem]
    constructor
    · rintro ⟨hz1, hz2⟩
      exact h4 z ((hmem z).2 hz1) hz2
    · intro hz
      exact ⟨(hmem z).1 (h1.subset hz), h2 z hz⟩

theorem upC_len : ∀ (n f : Nat) (z : List Int), UpC f n z → z.length ≤ n
  | n, f, [], _ => Nat.zero_le _
  | 0, f, x :: s, h => absurd h upC_zero
  | n + 1, f, x :: s, h => by
    rcases upC_cons.1 h with ⟨_, h⟩ | h
    · have := upC_len n (f + 1) s h
      simp; omega
    · have := upC_len n (f + 1) (x :: s) h
      omega
def primeL (f : CnfL) : List (List Int) := keptL f (putAllC (stg f.1.toNat) []) []
def fPrimeClauses (f : CnfL) : CnfL × Bool := if goodB f && decide (f.1 ≤ 5) then (if 60 < (primeL f).length then ((0, []), false) else ((f.1, primeL f), true)) else ((0, []), false)
theorem primeL_up (f : CnfL) : ∀ z ∈ primeL f, UpC 1 f.1.toNat z := by
  have hmem : ∀ z, z ∈ putAllC (stg f.1.toNat) [] ↔ UpC 1 f.1.toNat z := fun z => by rw [putAllC_mem, ← stg_mem]; simp
  obtain ⟨h1, _⟩ := kept_inv f f.1.toNat _ (putAllC_asc (stg f.1.toNat) [] List.Pairwise.nil) hmem _ (Nat.le_refl _)
  rw [List.take_length] at h1
  intro z hz
  exact (hmem z).1 (h1.subset hz)
theorem fPrimeClauses_len {f r0 : CnfL} {r1 : Bool} (hn : szC f ≤ 1048576) (hR : fPrimeClauses f = (r0, r1)) : szC r0 ≤ 1048576 := by
  unfold fPrimeClauses at hR
  split at hR
  · rename_i hg
    have h5 : f.1 ≤ 5 := by
      have := (Bool.and_eq_true _ _).mp hg
      simpa using this.2
    split at hR
    · injection hR with e1 e2
      subst e1
      simp [szC, cntT]
    · rename_i hl
      injection hR with e1 e2
      subst e1
      have := cntT_le12 (t := primeL f) fun c hc => Nat.le_trans (upC_len _ _ _ (primeL_up f c hc)) (by omega)
      unfold szC
      dsimp only
      omega
  · injection hR with e1 e2
    subst e1
    simp [szC, cntT]

end Go.Proofs.Ytlipmbcjpmbjnaa
