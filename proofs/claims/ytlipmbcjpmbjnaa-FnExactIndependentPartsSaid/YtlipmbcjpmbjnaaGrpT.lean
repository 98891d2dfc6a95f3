/- Tables whose rows the call itself grows: header and rows of the call's own, no two rows in one block; the map from a leader to its place. -/
import Derived.Test.YtlipmbcjpmbjnaaGrpPl
import Derived.Maps.OwnSet
import Derived.Deep.AppendLies
import Derived.Laws.OwnMore
import Derived.OneCell
namespace Go.Proofs.Ytlipmbcjpmbjnaa
open Go.RowKit Go.Maps
set_option linter.unusedVariables false

theorem own_neG {base base' : Nat} {w : World} {v v' : Value} {zs : List Int} {vs : List Value} (h : OwnI base w v zs) (h2 : OwnH base' w v' vs) : v.ownBlock = none ∨ v.ownBlock ≠ v'.ownBlock := by
  rcases h.2 with ⟨rfl, _⟩ | ⟨g, cap, cur, rfl, _, hh, _⟩
  · exact .inl rfl
  · rcases h2.2 with ⟨rfl, _⟩ | ⟨g2, cap2, cur2, rfl, _, hh2, _⟩
    · exact .inr (by simp [Value.ownBlock])
    · refine .inr fun e => ?_
      obtain rfl : g = g2 := by simpa [Value.ownBlock] using e
      rw [hh] at hh2
      injection hh2 with e1
      injection e1 with _ e2
      revert e2
      decide
theorem own_none {base : Nat} {w : World} {v : Value} {zs : List Int} (h : OwnI base w v zs) (hn : v.ownBlock = none) : zs = [] := by
  rcases h.2 with ⟨rfl, h1⟩ | ⟨g, cap, cur, rfl, _⟩
  · exact List.eq_nil_of_length_eq_zero h1
  · simp [Value.ownBlock] at hn
theorem OwnI.keptG {base : Nat} {w w' : World} {v : Value} {zs : List Int} {o : Option Nat} (h : OwnI base w v zs) (hg : w.grownBy w' o) (hne : v.ownBlock = none ∨ v.ownBlock ≠ o) : OwnI base w' v zs := World.ownsRow.kept h hg hne
theorem OwnH.keptG {base : Nat} {w w' : World} {v : Value} {vs : List Value} {o : Option Nat} (h : OwnH base w v vs) (hg : w.grownBy w' o) (hne : v.ownBlock = none ∨ v.ownBlock ≠ o) : OwnH base w' v vs := World.ownsRow.kept h hg hne

/-- append of one number: where the new row lies -/
theorem append_intA {ops : Array Oper} {rest : List Oper} {o : Oper} {a : Act} {Q : Exit → Act → World → Prop} {w : World} {y : Int} (hgd : o.guard = none) (s x : Operand)
    (ho : o.op = .call { callee := .builtin .append, args := #[s, x], argTypes := #[26, 26] })
    (base : Nat) {v : Value} {zs : List Int} (hs : a.eval s = v) (hown : OwnI base w v zs)
    (hx : a.eval x = .slice (some ⟨w.heap.size, 0, none⟩) 1 1) (hn : zs.length ≤ 1073741824) (hb : base ≤ w.heap.size)
    (h : ∀ g cap w', OwnI base w' (.slice (some ⟨g, 0, none⟩) (zs.length + 1) cap) (zs ++ [y]) → w.grownBy w' v.ownBlock → (v.ownBlock = some g ∨ w.heap.size ≤ g) → wpList Try.prog ops Q rest (a.put o.dst (.slice (some ⟨g, 0, none⟩) (zs.length + 1) cap)) w') : wpList Try.prog ops Q (o :: rest) a (w.alloc (.cells #[.int .i64 y] 3)) := by
  obtain ⟨i0, hi, hz0, hz1, hz2⟩ := info_parts int_info
  have hal : Below w.heap.size w (w.alloc (.cells #[.int .i64 y] 3)) := (Below.refl _ _).alloc (Nat.le_refl _) _
  have hown' : OwnI base (w.alloc (.cells #[.int .i64 y] 3)) v zs := hown.below hal
  refine wpList_append_lies (w.alloc (.cells #[.int .i64 y] 3)) hgd s x _ ho base 3 i0 (.int .i64 0) 1 8 Try.underlying26 hi hz0 hz1 hz2 rfl (by decide) v zs.length (ic zs) hs hown' ⟨w.heap.size, 0, none⟩ 1 1 [.int .i64 y] hx rfl ?_ ?_ (by decide) ?_ ?_ (by simp; omega) (w.heap.size + 1) (by simp) ?_
  · intro j u hj
    match j, hj with
    | 0, hj => simp at hj; subst hj; simp [Addr.add]
  · intro u hu; simp at hu; subst hu; rfl
  · unfold maxLen; omega
  · omega
  · intro g cap w' hown2 hg hat hlt
    refine h g cap w' (by unfold OwnI; simpa [ic] using hown2) ⟨hg.os, hg.tape, hg.output, Nat.le_trans (by simp) hg.size, fun i hi2 hne => (hg.block i (by simp; omega) hne).trans (hal.block i hi2)⟩ ?_
    rcases hat with e | e
    · exact .inl e
    · exact .inr (by omega)

structure GT (base : Nat) (w : World) (v : Value) (ps : List (Value × List Int)) : Prop where
  hdr : OwnH base w v (ps.map (·.1))
  rows : ∀ p ∈ ps, OwnI base w p.1 p.2
  apart : ∀ (i j : Nat) (p q : Value × List Int), i ≠ j → ps[i]? = some p → ps[j]? = some q → p.1.ownBlock = none ∨ p.1.ownBlock ≠ q.1.ownBlock

theorem GT.nil (base : Nat) (w : World) : GT base w (.slice none 0 0) [] := ⟨OwnH.nil _ _, by simp, by simp⟩
theorem GT.below {base : Nat} {w w' : World} {v : Value} {ps : List (Value × List Int)} (h : GT base w v ps) (hb : Below w.heap.size w w') : GT base w' v ps := ⟨h.hdr.below hb, fun p hp => (h.rows p hp).below hb, h.apart⟩
/-- a block below the table's own may turn -/
theorem GT.other {base b : Nat} {w w' : World} {v : Value} {ps : List (Value × List Int)} (h : GT base w v ps) (hg : w.grownBy w' (some b)) (hb : b < base) : GT base w' v ps := by
  refine ⟨h.hdr.keptG hg (.inr fun e => ?_), fun p hp => (h.rows p hp).keptG hg (.inr fun e => ?_), h.apart⟩
  · have := (h.hdr.block_lt e).1; omega
  · have := (World.ownsRow.lt (h.rows p hp) b e).1; omega
/-- an empty row behind the others -/
theorem GT.snoc {base : Nat} {w w' : World} {v v' : Value} {ps : List (Value × List Int)} (h : GT base w v ps) (hO : OwnH base w' v' (ps.map (·.1) ++ [.slice none 0 0])) (hg : w.grownBy w' v.ownBlock) : GT base w' v' (ps ++ [(.slice none 0 0, [])]) := by
  refine ⟨by simpa using hO, fun p hp => ?_, fun i j p q hij hp hq => ?_⟩
  · rcases List.mem_append.1 hp with hp | hp
    · exact (h.rows p hp).keptG hg (own_neG (h.rows p hp) h.hdr)
    · obtain rfl := List.mem_singleton.1 hp
      exact OwnI.nil _ _
  · rw [List.getElem?_append] at hp hq
    split at hp
    · split at hq
      · exact h.apart i j p q hij hp hq
      · obtain rfl := List.mem_singleton.1 (List.mem_of_getElem? hq)
        cases p.1.ownBlock with
        | none => exact .inl rfl
        | some b => exact .inr (by simp [Value.ownBlock])
    · obtain rfl := List.mem_singleton.1 (List.mem_of_getElem? hp)
      exact .inl rfl
/-- a row grown, and laid at its place -/
theorem GT.put {base k gh n ch : Nat} {w w' : World} {u u' : Value} {z z' : List Int} {ps : List (Value × List Int)} (h : GT base w (.slice (some ⟨gh, 0, none⟩) n ch) ps) (hn : ps.length = n) (hp : ps[k]? = some (u, z)) (hO : OwnI base w' u' z') (hg : w.grownBy w' u.ownBlock) (hat : ∀ b, u'.ownBlock = some b → u.ownBlock = some b ∨ w.heap.size ≤ b) :
    GT base (w'.setCell ⟨gh, k, none⟩ u') (.slice (some ⟨gh, 0, none⟩) n ch) (ps.set k (u', z')) := by
  have hu := h.rows _ (List.mem_of_getElem? hp)
  have hu0 := own_neG hu h.hdr
  have hH' : OwnH base w' (.slice (some ⟨gh, 0, none⟩) n ch) (ps.map (·.1)) := h.hdr.keptG hg (.inr fun e => by
    rcases hu0 with e2 | e2
    · rw [e2] at e; simp [Value.ownBlock] at e
    · exact e2 e.symm)
  have hne : ∀ (v : Value) (zs : List Int), OwnI base w' v zs → v.ownBlock ≠ some gh := fun v zs hv e => by
    rcases own_neG hv hH' with e2 | e2
    · rw [e2] at e; cases e
    · exact e2 (by rw [e]; rfl)
  have hlen : (ps.map (·.1)).length = n := by simpa using hn
  refine ⟨?_, fun q hq => ?_, fun i j p q hij hpi hqj => ?_⟩
  · have h1 : w'.ownsRow base 26 1 (.slice (some ⟨gh, 0, none⟩) n ch) n (ps.map (·.1)) := by
      have := hH'
      unfold OwnH at this
      rw [hlen] at this
      exact this
    have h2 := (h1.stored k u').1
    unfold OwnH
    rw [List.map_set, List.length_set, hlen]
    exact h2
  · obtain ⟨j, hj⟩ := List.mem_iff_getElem?.1 hq
    rw [List.getElem?_set] at hj
    split at hj
    · split at hj
      · injection hj with hj
        subst hj
        exact ownsRow_setCell_other hO (hne _ _ hO) _
      · cases hj
    · rename_i hkj
      have hq2 := h.rows q (List.mem_of_getElem? hj)
      have hq3 := hq2.keptG hg (h.apart j k q (u, z) (fun e => hkj e.symm) hj hp)
      exact ownsRow_setCell_other hq3 (hne _ _ hq3) _
  · rw [List.getElem?_set] at hpi hqj
    have key : ∀ (m : Nat) (q : Value × List Int), k ≠ m → ps[m]? = some q → u'.ownBlock = none ∨ u'.ownBlock ≠ q.1.ownBlock := fun m q hm hq => by
      cases hb : u'.ownBlock with
      | none => exact .inl rfl
      | some b =>
        refine .inr fun e => ?_
        rcases hat b hb with h1 | h1
        · rcases h.apart k m (u, z) q hm hp hq with h2 | h2
          · rw [h1] at h2; cases h2
          · exact h2 (by rw [h1]; exact e)
        · have := (World.ownsRow.lt (h.rows q (List.mem_of_getElem? hq)) b e.symm).2
          omega
    split at hpi
    · rename_i hki
      split at hpi
      · injection hpi with hpi
        subst hpi
        split at hqj
        · omega
        · exact key j q (by omega) hqj
      · cases hpi
    · split at hqj
      · split at hqj
        · injection hqj with hqj
          subst hqj
          rename_i hki hkj _
          rcases key i p hki hpi with h1 | h1
          · cases hb : p.1.ownBlock with
            | none => exact .inl rfl
            | some b => exact .inr (by dsimp only; rw [h1]; simp)
          · exact .inr (fun e => h1 e.symm)
        · cases hqj
      · exact h.apart i j p q hij hpi hqj
theorem GT.at_ {base k gh n ch : Nat} {w w' : World} {u : Value} {z : List Int} {ps : List (Value × List Int)} {o : Option Nat} (h : GT base w (.slice (some ⟨gh, 0, none⟩) n ch) ps) (hn : ps.length = n) (hp : ps[k]? = some (u, z)) (hg : w.grownBy w' o) (ho : o = none ∨ o = u.ownBlock) : w'.cell? ⟨gh, k, none⟩ = some u ∧ w'.frozen? ⟨gh, k, none⟩ = false := by
  have hu0 := own_neG (h.rows _ (List.mem_of_getElem? hp)) h.hdr
  have hH' : OwnH base w' (.slice (some ⟨gh, 0, none⟩) n ch) (ps.map (·.1)) := h.hdr.keptG hg (.inr fun e => by
    rcases ho with h1 | h1
    · rw [h1] at e; simp [Value.ownBlock] at e
    · rcases hu0 with e2 | e2
      · rw [h1, e2] at e; simp [Value.ownBlock] at e
      · exact e2 (h1.symm.trans e.symm))
  have hlen : (ps.map (·.1)).length = n := by simpa using hn
  have h1 : w'.ownsRow base 26 1 (.slice (some ⟨gh, 0, none⟩) n ch) n (ps.map (·.1)) := by
    have := hH'
    unfold OwnH at this
    rw [hlen] at this
    exact this
  have hk := (List.getElem?_eq_some_iff.1 hp).1
  exact ⟨(h1.cellAt k (by omega)).trans (by rw [List.getElem?_map, hp]; rfl), h1.frozenAt k⟩
theorem GT.ftab {base : Nat} {w : World} {v : Value} {ps : List (Value × List Int)} (h : GT base w v ps) : FTab base w.heap.size w v (ps.map (·.2)) := by
  have hF : FRT base w v ps := ⟨h.hdr, ⟨fun p hp => (h.rows p hp).fints, List.pairwise_iff_getElem.2 fun i j hi hj hij => ?_⟩, fun p hp h0 => ?_⟩
  · exact hF.ftab
  · rcases h.apart i j ps[i] ps[j] (by omega) (List.getElem?_eq_getElem hi) (List.getElem?_eq_getElem hj) with e | e
    · exact .inl (own_none (h.rows _ (List.getElem_mem hi)) e)
    · exact .inr (.inr e)
  · rcases own_neG (h.rows p hp) h.hdr with e | e
    · exact absurd (own_none (h.rows p hp) e) h0
    · exact e

/-- the map from a leader to its place -/
def plD (M : Nat → Nat) : Nat → DataW Unit
  | 0 => .map []
  | i + 1 => if M i = i then (plD M i).put (.int .i64 ((i : Nat) : Int)) (.lit (.int .i64 (((leads M i).length : Nat) : Int))) else plD M i
theorem plD_map (M : Nat → Nat) : ∀ i, IsMap (plD M i)
  | 0 => isMap_empty
  | i + 1 => by
    rw [plD]
    split
    · exact (plD_map M i).put _ _
    · exact plD_map M i
theorem lit_ne {a b : Nat} (h : a ≠ b) : (Lit.int .i64 (a : Int)) ≠ Lit.int .i64 (b : Int) := fun e => by
  injection e with _ e
  omega
theorem plD_has (M : Nat → Nat) (r : Nat) : ∀ i, Maps.has (plD M i) (.int .i64 ((r : Nat) : Int)) = decide (r < i ∧ M r = r)
  | 0 => by simp [plD, Maps.has]
  | i + 1 => by
    rw [plD]
    split
    · rename_i hi
      by_cases e : r = i
      · subst e
        rw [has_put_same (plD_map M r) (show WideAt.IsKeyLit (Lit.int .i64 (r : Int)) from trivial)]
        simp [hi]
      · rw [has_put_other (lit_ne e), plD_has M r i]
        simp only [decide_eq_decide]
        constructor <;> (rintro ⟨h1, h2⟩; exact ⟨by omega, h2⟩)
    · rename_i hi
      rw [plD_has M r i]
      simp only [decide_eq_decide]
      constructor
      · rintro ⟨h1, h2⟩; exact ⟨by omega, h2⟩
      · rintro ⟨h1, h2⟩
        refine ⟨?_, h2⟩
        have : r ≠ i := fun e => hi (by rw [← e]; exact h2)
        omega
theorem plD_at (M : Nat → Nat) (r : Nat) (z : DataW Unit) (hr : M r = r) : ∀ i, r < i → (plD M i).atKey (.int .i64 ((r : Nat) : Int)) z = .lit (.int .i64 (((leads M r).length : Nat) : Int))
  | 0, h => by omega
  | i + 1, h => by
    rw [plD]
    split
    · by_cases e : r = i
      · subst e
        rw [atKey_put_same (plD_map M r) (show WideAt.IsKeyLit (Lit.int .i64 (r : Int)) from trivial)]
      · rw [atKey_put_other (lit_ne e), plD_at M r z hr i (by omega)]
    · rename_i hi
      have : r ≠ i := fun e => hi (by rw [← e]; exact hr)
      exact plD_at M r z hr i (by omega)

/-- the classes of the first numbers -/
def partsK (M : Nat → Nat) (k : Nat) : List (List Int) := (leads M k).map fun r => castL (partOf M k r)
theorem partsK_new {M : Nat → Nat} (hM : Lab M) {i : Nat} (hi : M i = i) : partsK M (i + 1) = partsK M i ++ [[(i : Int)]] := by
  unfold partsK
  rw [leads_succ, if_pos hi, List.map_append]
  congr 1
  · apply List.map_congr_left
    intro r hr
    rw [partOf_succ, if_neg (by have := (leads_mem M i r).1 hr; omega), List.append_nil]
  · have h0 : partOf M i i = [] := by
      apply List.eq_nil_iff_forall_not_mem.2
      intro j hj
      obtain ⟨h1, h2⟩ := (partOf_mem M i i j).1 hj
      have := hM.le j
      omega
    simp [partOf_succ, hi, h0, castL]
theorem leads_prefix (M : Nat → Nat) {r : Nat} (hr : M r = r) : ∀ i, r < i → (leads M i)[(leads M r).length]? = some r
  | 0, h => by omega
  | i + 1, h => by
    rw [leads_succ]
    by_cases e : r = i
    · subst e
      rw [List.getElem?_append_right (Nat.le_refl _), if_pos hr]
      simp
    · have h1 := leads_prefix M hr i (by omega)
      rw [List.getElem?_append_left (List.getElem?_eq_some_iff.1 h1).1]
      exact h1
theorem leads_asc (M : Nat → Nat) (i : Nat) : (leads M i).Pairwise (· < ·) := (range_asc i).filter _
theorem partsK_old {M : Nat → Nat} {i r : Nat} (hi : M i = r) (hr : M r = r) (hlt : r < i) : partsK M (i + 1) = (partsK M i).set (leads M r).length (castL (partOf M i r) ++ [(i : Int)]) := by
  have hp := leads_prefix M hr i hlt
  unfold partsK
  rw [leads_succ, if_neg (by omega), List.append_nil]
  apply List.ext_getElem?
  intro j
  rw [List.getElem?_set, List.getElem?_map, List.getElem?_map]
  by_cases e : (leads M r).length = j
  · subst e
    rw [if_pos rfl, if_pos (by rw [List.length_map]; exact (List.getElem?_eq_some_iff.1 hp).1), hp]
    simp [partOf_succ, hi, castL]
  · rw [if_neg e]
    cases hj : (leads M i)[j]? with
    | none => rfl
    | some r2 =>
      have hne : M i ≠ r2 := fun e2 => by
        obtain rfl : r2 = r := by rw [← e2, hi]
        have hl1 := (List.getElem?_eq_some_iff.1 hp).1
        have hl2 := (List.getElem?_eq_some_iff.1 hj).1
        have hv1 := (List.getElem?_eq_some_iff.1 hp).2
        have hv2 := (List.getElem?_eq_some_iff.1 hj).2
        have ha := List.pairwise_iff_getElem.1 (leads_asc M i)
        rcases Nat.lt_trichotomy (leads M r2).length j with h9 | h9 | h9
        · have := ha _ _ hl1 hl2 h9; omega
        · exact e h9
        · have := ha _ _ hl2 hl1 h9; omega
      simp [partOf_succ, hne]
theorem partsK_at {M : Nat → Nat} {i r : Nat} (hr : M r = r) (hlt : r < i) : (partsK M i)[(leads M r).length]? = some (castL (partOf M i r)) := by
  unfold partsK
  rw [List.getElem?_map, leads_prefix M hr i hlt]
  rfl
theorem partsK_len (M : Nat → Nat) (i : Nat) : (partsK M i).length = (leads M i).length := by unfold partsK; simp
theorem leads_le (M : Nat → Nat) (i : Nat) : (leads M i).length ≤ i := by
  have := List.length_filter_le (fun r => M r == r) (List.range i)
  rw [List.length_range] at this
  exact this

end Go.Proofs.Ytlipmbcjpmbjnaa
