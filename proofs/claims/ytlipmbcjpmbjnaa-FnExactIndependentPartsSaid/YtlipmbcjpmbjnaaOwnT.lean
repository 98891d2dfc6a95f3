/- A table that the call itself grows: its header is the call's own, its rows lie anywhere else. The library's Clone of a table. -/
import Derived.Test.YtlipmbcjpmbjnaaCnf
import Derived.Deep.AppendLies
namespace Go.Proofs.Ytlipmbcjpmbjnaa
open Go.RowKit
set_option linter.unusedVariables false

/-- the header of a table: the values vs, in memory of the call's own -/
def OwnH (base : Nat) (w : World) (v : Value) (vs : List Value) : Prop := w.ownsRow base 26 1 v vs.length vs
theorem OwnH.nil (base : Nat) (w : World) : OwnH base w (.slice none 0 0) [] := World.ownsRow_nil _ _ _ _
theorem OwnH.made (base : Nat) (w : World) (hb : base ≤ w.heap.size) : OwnH base (w.alloc (.cells #[] 26)) (.slice (some ⟨w.heap.size, 0, none⟩) 0 0) [] := World.ownsRow_made w #[] 0 hb (by simp [maxLen]) rfl
theorem OwnH.below {base : Nat} {w w' : World} {v : Value} {vs : List Value} (h : OwnH base w v vs) (hb : Below w.heap.size w w') : OwnH base w' v vs := ownsRow_below h hb
theorem OwnH.own {base : Nat} {w : World} {v : Value} {vs : List Value} (h : OwnH base w v vs) : ∃ A c, v = .slice A vs.length c ∧ vs.length ≤ c ∧ c ≤ maxLen ∧ Own base w.heap.size w A vs := ownsRow_own h
theorem OwnH.block_lt {base : Nat} {w : World} {v : Value} {vs : List Value} {g : Nat} (h : OwnH base w v vs) (hg : v.ownBlock = some g) : base ≤ g ∧ g < w.heap.size := by
  rcases h.2 with ⟨rfl, _⟩ | ⟨g', cap, cur, rfl, hb, hh, _⟩
  · simp [Value.ownBlock] at hg
  · obtain rfl : g' = g := by simpa [Value.ownBlock] using hg
    exact ⟨hb, Blk.lt (t := 26) (cs := cur) hh⟩

/-- append of one row to a header -/
theorem append_hdr {ops : Array Oper} {rest : List Oper} {o : Oper} {a : Act} {Q : Exit → Act → World → Prop} {w : World} {u : Value} (hgd : o.guard = none) (s x : Operand)
    (ho : o.op = .call { callee := .builtin .append, args := #[s, x], argTypes := #[22, 22] })
    (base : Nat) {v : Value} {vs : List Value} (hs : a.eval s = v) (hown : OwnH base w v vs) (hu : u.oneCell' = true)
    {H : Nat} (hx : a.eval x = .slice (some ⟨H, 0, none⟩) 1 1) (hH : w.heap.size = H) (hn : vs.length ≤ 1073741824) (hb : base ≤ w.heap.size)
    (h : ∀ v' w', OwnH base w' v' (vs ++ [u]) → w.grownBy w' v.ownBlock → Below base w w' → (∀ b, v'.ownBlock = some b → v.ownBlock = some b ∨ w.heap.size ≤ b) → wpList Try.prog ops Q rest (a.put o.dst v') w') : wpList Try.prog ops Q (o :: rest) a (w.alloc (.cells #[u] 26)) := by
  subst hH
  obtain ⟨i0, hi, hz0, hz1, hz2⟩ := info_parts ints_info
  have hal : Below w.heap.size w (w.alloc (.cells #[u] 26)) := (Below.refl _ _).alloc (Nat.le_refl _) _
  have hown' : OwnH base (w.alloc (.cells #[u] 26)) v vs := hown.below hal
  refine wpList_append_lies (w.alloc (.cells #[u] 26)) hgd s x _ ho base 26 i0 (.slice none 0 0) 1 24 Try.underlying22 hi hz0 hz1 hz2 rfl (by decide) v vs.length vs hs hown' ⟨w.heap.size, 0, none⟩ 1 1 [u] hx rfl ?_ ?_ (by decide) ?_ ?_ (by simp; omega) (w.heap.size + 1) (by simp) ?_
  · intro j y hj
    match j, hj with
    | 0, hj => simp at hj; subst hj; simp [Addr.add]
  · intro y hy; simp at hy; subst hy; exact hu
  · unfold maxLen; omega
  · omega
  · intro g cap w' hown2 hg hat hlt
    have hgw : w.grownBy w' v.ownBlock := by
      refine ⟨hg.os, hg.tape, hg.output, Nat.le_trans (by simp) hg.size, fun i hi2 hne => ?_⟩
      rw [hg.block i (by simp; omega) hne]
      exact hal.block i hi2
    have hbw : Below base w w' := by
      refine ⟨hgw.os, hgw.tape, hgw.output, hgw.size, fun i hi2 => hgw.block i (by omega) ?_⟩
      intro e
      have := hown.block_lt e.symm
      omega
    refine h _ w' (by unfold OwnH; simpa using hown2) hgw hbw ?_
    intro b hb2
    obtain rfl : g = b := by simpa [Value.ownBlock] using hb2
    rcases hat with e | e
    · exact .inl e
    · exact .inr (by omega)

/-- .. the rows read, and none of them lies in the header's block -/
def RTab (base : Nat) (w : World) (v : Value) (ps : List (Value × List Int)) : Prop :=
  OwnH base w v (ps.map (·.1)) ∧ ∀ p ∈ ps, Ints w.heap.size w p.1 p.2 ∧ (p.2 = [] ∨ p.1.ownBlock ≠ v.ownBlock)
theorem RTab.nil (base : Nat) (w : World) : RTab base w (.slice none 0 0) [] := ⟨OwnH.nil _ _, by simp⟩
theorem RTab.made (base : Nat) (w : World) (hb : base ≤ w.heap.size) : RTab base (w.alloc (.cells #[] 26)) (.slice (some ⟨w.heap.size, 0, none⟩) 0 0) [] := ⟨OwnH.made _ _ hb, by simp⟩
theorem RTab.below {base : Nat} {w w' : World} {v : Value} {ps : List (Value × List Int)} (h : RTab base w v ps) (hb : Below w.heap.size w w') : RTab base w' v ps :=
  ⟨h.1.below hb, fun p hp => ⟨((h.2 p hp).1.below hb).mono hb.size, (h.2 p hp).2⟩⟩
theorem RTab.tab {base : Nat} {w : World} {v : Value} {ps : List (Value × List Int)} (h : RTab base w v ps) : Tab w.heap.size w v (ps.map (·.2)) := by
  obtain ⟨A, c, rfl, h1, h2, h3⟩ := h.1.own
  exact ⟨A, c, ps, by simp, by simpa using h1, h2, rfl, h3.row, fun p hp => (h.2 p hp).1⟩
theorem RTab.open_ {base : Nat} {w : World} {v : Value} {ps : List (Value × List Int)} (h : RTab base w v ps) : ∃ A c, v = .slice A ps.length c := by
  obtain ⟨A, c, rfl, h1, h2, h3⟩ := h.1.own
  exact ⟨A, c, by simp⟩

theorem Ints.oneCell {hi : Nat} {w : World} {v : Value} {zs : List Int} (h : Ints hi w v zs) : v.oneCell' = true := by
  obtain ⟨A, c, rfl, _⟩ := h; rfl

theorem append_row {ops : Array Oper} {rest : List Oper} {o : Oper} {a : Act} {Q : Exit → Act → World → Prop} {w : World} {u : Value} {z : List Int} (hgd : o.guard = none) (s x : Operand)
    (ho : o.op = .call { callee := .builtin .append, args := #[s, x], argTypes := #[22, 22] })
    (base : Nat) {v : Value} {ps : List (Value × List Int)} (hs : a.eval s = v) (hown : RTab base w v ps) {hi : Nat} (hu : Ints hi w u z) (hap : z = [] ∨ u.ownBlock ≠ v.ownBlock)
    {H : Nat} (hx : a.eval x = .slice (some ⟨H, 0, none⟩) 1 1) (hH : w.heap.size = H) (hn : ps.length ≤ 1073741824) (hb : base ≤ w.heap.size)
    (h : ∀ v' w', RTab base w' v' (ps ++ [(u, z)]) → w.grownBy w' v.ownBlock → Below base w w' → wpList Try.prog ops Q rest (a.put o.dst v') w') : wpList Try.prog ops Q (o :: rest) a (w.alloc (.cells #[u] 26)) := by
  refine append_hdr hgd s x ho base hs hown.1 hu.oneCell hx hH (by simpa using hn) hb ?_
  intro v' w' hown2 hg hbw hat
  refine h v' w' ⟨by simpa using hown2, ?_⟩ hg hbw
  have key : ∀ (q : Value) (y : List Int), Ints w.heap.size w q y → (y = [] ∨ q.ownBlock ≠ v.ownBlock) → Ints w'.heap.size w' q y ∧ (y = [] ∨ q.ownBlock ≠ v'.ownBlock) := by
    intro q y hq hne
    refine ⟨(hq.grown hg hne).mono hg.size, ?_⟩
    by_cases h0 : y = []
    · exact .inl h0
    · right
      obtain ⟨b, hqb, _, hlt⟩ := hq.block h0
      intro e
      rw [hqb] at e
      rcases hat b e.symm with h1 | h1
      · rcases hne with h2 | h2
        · exact h0 h2
        · exact h2 (hqb.trans h1.symm)
      · omega
  intro p hp
  rcases List.mem_append.1 hp with hp | hp
  · exact key _ _ (hown.2 p hp).1 (hown.2 p hp).2
  · obtain rfl := List.mem_singleton.1 hp
    exact key _ _ hu.top hap

/-- append of one row, in a region that draws its order -/
theorem step_row {ops : Array Oper} {o : Oper} {a : Act} {K : Act → World → Prop} {Q : Exit → Act → World → Prop} {E : Prop} {W : World} {u : Value} {z : List Int} (hgd : o.guard = none) (s x : Operand)
    (ho : o.op = .call { callee := .builtin .append, args := #[s, x], argTypes := #[22, 22] })
    (base : Nat) {v : Value} {ps : List (Value × List Int)} (hs : a.eval s = v) (wr : World) (hown : RTab base wr v ps) (hbw : Below wr.heap.size wr W) (hb : base ≤ wr.heap.size) (hn : ps.length ≤ 1073741824)
    {hi : Nat} (hu : Ints hi wr u z) (hap : z = [] ∨ u.ownBlock ≠ v.ownBlock) {H : Nat} (hx : a.eval x = .slice (some ⟨H, 0, none⟩) 1 1) (hc0 : W.cell? ⟨H, 0, none⟩ = some u)
    (h : ∀ v' w', RTab base w' v' (ps ++ [(u, z)]) → Below base wr w' → K (a.put o.dst v') w') :
    if Region.wanted o (yielded ops a.tmps) = true then Oper.wp Try.prog o a W K Q else E := by
  have hown' := hown.below hbw
  have hu' := (hu.below hbw).top
  have hbW : base ≤ W.heap.size := Nat.le_trans hb hbw.size
  obtain ⟨i0, hi, hz0, hz1, hz2⟩ := info_parts ints_info
  obtain ⟨vs, hvs⟩ : ∃ vs : List Value, vs = ps.map (·.1) := ⟨_, rfl⟩
  have hO : OwnH base W v vs := by rw [hvs]; exact hown'.1
  have hlv : vs.length = ps.length := by rw [hvs]; simp
  refine step_append_lies W hgd s x _ ho base 26 i0 (.slice none 0 0) 1 24 Try.underlying22 hi hz0 hz1 hz2 rfl (by decide) v vs.length vs hs hO ⟨H, 0, none⟩ 1 1 [u] hx rfl ?_ ?_ (by decide) ?_ ?_ hbW W.heap.size rfl ?_
  · intro j y hj
    match j, hj with
    | 0, hj => simp at hj; subst hj; simpa [Addr.add] using hc0
  · intro y hy; simp at hy; subst hy; exact hu.oneCell
  · unfold maxLen; omega
  · omega
  · intro g cap w' hown2 hg hat hlt
    have hbel : Below base wr w' := by
      refine ⟨hg.os.trans hbw.os, hg.tape.trans hbw.tape, hg.output.trans hbw.output, Nat.le_trans hbw.size hg.size, fun i hi2 => ?_⟩
      rw [hg.block i (by omega) (fun e => by have := hown'.1.block_lt e.symm; omega)]
      exact hbw.block i (by omega)
    refine h _ w' ⟨by unfold OwnH; rw [List.map_append, ← hvs]; simpa using hown2, ?_⟩ hbel
    have key : ∀ (q : Value) (y : List Int), Ints W.heap.size W q y → (y = [] ∨ q.ownBlock ≠ v.ownBlock) → Ints w'.heap.size w' q y ∧ (y = [] ∨ q.ownBlock ≠ (Value.slice (some ⟨g, 0, none⟩) (vs.length + 1) cap).ownBlock) := by
      intro q y hq hne
      refine ⟨(hq.grown hg hne).mono hg.size, ?_⟩
      by_cases h0 : y = []
      · exact .inl h0
      · right
        obtain ⟨b, hqb, _, hlt⟩ := hq.block h0
        intro e
        rw [hqb] at e
        have e' : b = g := by simpa [Value.ownBlock] using e
        rcases hat with h1 | h1
        · rcases hne with h2 | h2
          · exact h0 h2
          · exact h2 (by rw [hqb, h1, e'])
        · omega
    intro p hp
    rcases List.mem_append.1 hp with hp | hp
    · exact key _ _ (hown'.2 p hp).1 (hown'.2 p hp).2
    · obtain rfl := List.mem_singleton.1 hp
      exact key _ _ hu' hap

set_option maxHeartbeats 400000 in
theorem g_CloneT {hi : Nat} (v : Value) (t : List (List Int)) (w : World) (h : Tab hi w v t) (hn : t.length ≤ 16777216) :
    Calls Try.prog 97 #[v] w fun e w' => ∃ v' ps, e = .returned v' ∧ t = ps.map (·.2) ∧ RTab w.heap.size w' v' ps ∧ Below w.heap.size w w' := by
  obtain ⟨A, c, ps, rfl, hc, hm, rfl, hrow, hps⟩ := h.open_
  unfold maxLen at hm
  rw [List.length_map] at hn
  rcases A with _ | ad
  · have hz : ps = [] := by
      rcases Nat.eq_zero_or_pos ps.length with h0 | h0
      · exact List.eq_nil_of_length_eq_zero h0
      · obtain ⟨_, _, hh, _⟩ := hrow (by simpa using h0)
        cases hh
    have heq : ∀ W, (binOp .eql 22 (.slice none ps.length c) (.slice none 0 0)).run Try.prog W = .ok (.bool true) W := fun W => Lib.run_eql_slice_nil W 22 26 none ps.length c 0 0 Try.underlying22
    have HZ := hide hz
    clear hz
    go_enter Try.func97, Try.ntmps97
    go_wp2_with fail
    go_ret
    exact ⟨_, [], rfl, by rw [HZ.out], RTab.nil _ _, Below.refl _ _⟩
  · have heq : ∀ W, (binOp .eql 22 (.slice (some ad) ps.length c) (.slice none 0 0)).run Try.prog W = .ok (.bool false) W := fun W => Lib.run_eql_slice_nil W 22 26 (some ad) ps.length c 0 0 Try.underlying22
    have hmade : w.alloc (.cells #[] 26) |>.ownsRow w.heap.size 26 1 (.slice (some ⟨w.heap.size, 0, none⟩) 0 0) 0 [] := OwnH.made w.heap.size w (Nat.le_refl _)
    have hal : Below w.heap.size w (w.alloc (.cells #[] 26)) := (Below.refl w.heap.size w).alloc (Nat.le_refl _) (.cells #[] 26)
    have hrow' := hrow.below hal
    have HPS := hide hps
    clear hps h
    go_enter Try.func97, Try.ntmps97
    go_wp2_with (at_builtin; refine wpList_append_n rfl _ _ _ rfl 26 (.slice none 0 0) 24 Try.underlying22 ints_info rfl (by decide) w.heap.size rfl hmade rfl (by simp) hrow' (by intro y hy; obtain ⟨p, hp, rfl⟩ := List.mem_map.1 hy; exact (HPS.out p hp).oneCell) (by omega) (by simp) ?_; intro v1 w1 hown1 hb1)
    go_ret
    have hbw := hal.trans hb1
    refine ⟨_, ps, rfl, rfl, ⟨by unfold OwnH; simpa using hown1, fun p hp => ⟨(((HPS.out p hp).top).below hbw).mono hbw.size, ?_⟩⟩, hbw⟩
    by_cases h0 : p.2 = []
    · exact .inl h0
    · right
      obtain ⟨b, hqb, _, hlt⟩ := (HPS.out p hp).block h0
      intro e
      rw [hqb] at e
      have : OwnH w.heap.size w1 v1 (ps.map (·.1)) := by unfold OwnH; simpa using hown1
      have := (this.block_lt e.symm).1
      omega

end Go.Proofs.Ytlipmbcjpmbjnaa
