/- Tables that the call itself has made: an owned header, fresh rows, all apart. -/
import Derived.Test.YtlipmbcjpmbjnaaOwnT
namespace Go.Proofs.Ytlipmbcjpmbjnaa
open Go.RowKit
set_option linter.unusedVariables false

def FRT (base : Nat) (w : World) (v : Value) (ps : List (Value × List Int)) : Prop :=
  OwnH base w v (ps.map (·.1)) ∧ Rws base w.heap.size w ps ∧ ∀ p ∈ ps, p.2 ≠ [] → p.1.ownBlock ≠ v.ownBlock
theorem FRT.nil (base : Nat) (w : World) : FRT base w (.slice none 0 0) [] := ⟨OwnH.nil _ _, Rws.nil _ _ _, by simp⟩
theorem FRT.made (base : Nat) (w : World) (hb : base ≤ w.heap.size) : FRT base (w.alloc (.cells #[] 26)) (.slice (some ⟨w.heap.size, 0, none⟩) 0 0) [] := ⟨OwnH.made _ _ hb, Rws.nil _ _ _, by simp⟩
theorem FRT.below {base : Nat} {w w' : World} {v : Value} {ps : List (Value × List Int)} (h : FRT base w v ps) (hb : Below w.heap.size w w') : FRT base w' v ps :=
  ⟨h.1.below hb, (h.2.1.below hb).mono (Nat.le_refl _) hb.size, h.2.2⟩
theorem FRT.open_ {base : Nat} {w : World} {v : Value} {ps : List (Value × List Int)} (h : FRT base w v ps) : ∃ A c, v = .slice A ps.length c := by
  obtain ⟨A, c, rfl, h1, h2, h3⟩ := h.1.own
  exact ⟨A, c, by simp⟩
theorem FRT.ftab {base : Nat} {w : World} {v : Value} {ps : List (Value × List Int)} (h : FRT base w v ps) : FTab base w.heap.size w v (ps.map (·.2)) := by
  obtain ⟨A, c, rfl, h1, h2, h3⟩ := h.1.own
  have h4 := h.2.1.tab (by simpa using h1) h2 h3 (fun p hp h0 e => h.2.2 p hp h0 (by rw [e]; cases A <;> rfl))
  simpa using h4
theorem FRT.rtab {base : Nat} {w : World} {v : Value} {ps : List (Value × List Int)} (h : FRT base w v ps) : RTab base w v ps := by
  refine ⟨h.1, fun p hp => ⟨(h.2.1.1 p hp).ints, ?_⟩⟩
  by_cases e : p.2 = []
  · exact .inl e
  · exact .inr (h.2.2 p hp e)

theorem below_grown_trans {w W w' : World} {o : Option Nat} (h : Below w.heap.size w W) (hg : W.grownBy w' o) : w.grownBy w' o :=
  ⟨hg.os.trans h.os, hg.tape.trans h.tape, hg.output.trans h.output, Nat.le_trans h.size hg.size, fun i hi hne => (hg.block i (Nat.lt_of_lt_of_le hi h.size) hne).trans (h.block i hi)⟩
theorem grown_set (w : World) (g i : Nat) (u : Value) : w.grownBy (w.setCell ⟨g, i, none⟩ u) (some g) :=
  ⟨rfl, rfl, rfl, by simp [World.setCell], fun k hk hne => Below.heap_setCell w _ u k (fun e => hne (by simp [e]))⟩
theorem OwnH.grown {base : Nat} {w w' : World} {v : Value} {vs : List Value} {o : Option Nat} (h : OwnH base w v vs) (hg : w.grownBy w' o) (hne : v.ownBlock ≠ o) : OwnH base w' v vs := by
  refine ⟨h.1, ?_⟩
  rcases h.2 with h1 | ⟨g, cap, cur, rfl, hb, hh, hr⟩
  · exact .inl h1
  · exact .inr ⟨g, cap, cur, rfl, hb, (hg.block g (Blk.lt (t := 26) (cs := cur) hh) (fun e => hne (by rw [← e]; rfl))).trans hh, hr⟩
/-- no part of the table lies in block g -/
def NotAt (g : Nat) (v : Value) (ps : List (Value × List Int)) : Prop := v.ownBlock ≠ some g ∧ ∀ p ∈ ps, p.2 ≠ [] → p.1.ownBlock ≠ some g
theorem FRT.grown {base g : Nat} {w w' : World} {v : Value} {ps : List (Value × List Int)} (h : FRT base w v ps) (hg : w.grownBy w' (some g)) (hne : NotAt g v ps) : FRT base w' v ps := by
  refine ⟨h.1.grown hg hne.1, ⟨fun p hp => ?_, h.2.1.2⟩, h.2.2⟩
  refine ((h.2.1.1 p hp).grown hg ?_).mono (Nat.le_refl _) hg.size
  by_cases e : p.2 = []
  · exact .inl e
  · exact .inr (hne.2 p hp e)
theorem FRT.set_ {base g : Nat} {w : World} {v : Value} {ps : List (Value × List Int)} (h : FRT base w v ps) (hne : NotAt g v ps) (i : Nat) (u : Value) : FRT base (w.setCell ⟨g, i, none⟩ u) v ps := h.grown (grown_set w g i u) hne
theorem NotAt.nil (g : Nat) : NotAt g (.slice none 0 0) [] := ⟨by simp [Value.ownBlock], by simp⟩
theorem NotAt.snoc {g : Nat} {wr wm : World} {v v' u : Value} {z : List Int} {ps : List (Value × List Int)} (h : NotAt g v ps) (hg : g < wr.heap.size) (hu : FInts wr.heap.size wm.heap.size wm u z) (hat : ∀ b, v'.ownBlock = some b → v.ownBlock = some b ∨ wr.heap.size ≤ b) : NotAt g v' (ps ++ [(u, z)]) := by
  refine ⟨fun e => ?_, fun p hp h0 => ?_⟩
  · rcases hat g e with h1 | h1
    · exact h.1 h1
    · omega
  · rcases List.mem_append.1 hp with hp | hp
    · exact h.2 p hp h0
    · obtain rfl := List.mem_singleton.1 hp
      obtain ⟨b, hb1, hb2, _⟩ := hu.block h0
      intro e
      rw [hb1] at e
      have : b = g := by simpa using e
      omega

theorem frt_grown {base : Nat} {wr W w' : World} {v v' u : Value} {z : List Int} {ps : List (Value × List Int)} (hown : FRT base wr v ps) (hwW : Below wr.heap.size wr W) (hu : FInts wr.heap.size W.heap.size W u z) (hb : base ≤ wr.heap.size)
    (hO : OwnH base w' v' (ps.map (·.1) ++ [u])) (hg : W.grownBy w' v.ownBlock) (hat : ∀ b, v'.ownBlock = some b → v.ownBlock = some b ∨ W.heap.size ≤ b) : FRT base w' v' (ps ++ [(u, z)]) := by
  have hR : Rws base W.heap.size W (ps ++ [(u, z)]) := (hown.2.1.below hwW).snoc hu hb hwW.size
  have hsep : ∀ p ∈ ps ++ [(u, z)], p.2 ≠ [] → p.1.ownBlock ≠ v.ownBlock := by
    intro p hp h0
    rcases List.mem_append.1 hp with hp | hp
    · exact hown.2.2 p hp h0
    · obtain rfl := List.mem_singleton.1 hp
      obtain ⟨b, hb1, hb2, _⟩ := hu.block h0
      intro e
      rw [hb1] at e
      have := hown.1.block_lt e.symm
      omega
  refine ⟨by simpa using hO, ⟨fun p hp => ?_, hR.2⟩, fun p hp h0 e => ?_⟩
  · refine ((hR.1 p hp).grown hg ?_).mono (Nat.le_refl _) hg.size
    by_cases h0 : p.2 = []
    · exact .inl h0
    · exact .inr (hsep p hp h0)
  · obtain ⟨b, hqb, _, hlt⟩ := (hR.1 p hp).block h0
    rw [hqb] at e
    rcases hat b e.symm with h1 | h1
    · exact hsep p hp h0 (hqb.trans h1.symm)
    · omega

/-- append of one fresh row -/
theorem append_frow {ops : Array Oper} {rest : List Oper} {o : Oper} {a : Act} {Q : Exit → Act → World → Prop} {w : World} {u : Value} {z : List Int} (hgd : o.guard = none) (s x : Operand)
    (ho : o.op = .call { callee := .builtin .append, args := #[s, x], argTypes := #[22, 22] })
    (base : Nat) {v : Value} {ps : List (Value × List Int)} (hs : a.eval s = v) {wr : World} (hown : FRT base wr v ps) (hwr : Below wr.heap.size wr w) (hu : FInts wr.heap.size w.heap.size w u z)
    {H : Nat} (hx : a.eval x = .slice (some ⟨H, 0, none⟩) 1 1) (hH : w.heap.size = H) (hn : ps.length ≤ 1073741824) (hb : base ≤ wr.heap.size)
    (h : ∀ v' w', FRT base w' v' (ps ++ [(u, z)]) → Below base wr w' → wr.grownBy w' v.ownBlock → (∀ b, v'.ownBlock = some b → v.ownBlock = some b ∨ wr.heap.size ≤ b) → wpList Try.prog ops Q rest (a.put o.dst v') w') : wpList Try.prog ops Q (o :: rest) a (w.alloc (.cells #[u] 26)) := by
  refine append_hdr hgd s x ho base hs (hown.1.below hwr) hu.ints.oneCell hx hH (by simpa using hn) (Nat.le_trans hb hwr.size) ?_
  intro v' w' hown2 hg hbw hat
  exact h v' w' (frt_grown hown hwr hu hb hown2 hg hat) ((hwr.mono hb).trans hbw) (below_grown_trans hwr hg) (fun b hb2 => (hat b hb2).imp id (fun h2 => Nat.le_trans hwr.size h2))

/-- .. in a region that draws its order -/
theorem step_frow {ops : Array Oper} {o : Oper} {a : Act} {K : Act → World → Prop} {Q : Exit → Act → World → Prop} {E : Prop} {W : World} {u : Value} {z : List Int} (hgd : o.guard = none) (s x : Operand)
    (ho : o.op = .call { callee := .builtin .append, args := #[s, x], argTypes := #[22, 22] })
    (base : Nat) {v : Value} {ps : List (Value × List Int)} (hs : a.eval s = v) (wr : World) (hown : FRT base wr v ps) (wm : World) (hwm : Below wr.heap.size wr wm) (hu : FInts wr.heap.size wm.heap.size wm u z) (hbw : Below wm.heap.size wm W) (hb : base ≤ wr.heap.size) (hn : ps.length ≤ 1073741824)
    {H : Nat} (hx : a.eval x = .slice (some ⟨H, 0, none⟩) 1 1) (hc0 : W.cell? ⟨H, 0, none⟩ = some u)
    (h : ∀ v' w', FRT base w' v' (ps ++ [(u, z)]) → Below base wr w' → wr.grownBy w' v.ownBlock → (∀ b, v'.ownBlock = some b → v.ownBlock = some b ∨ wr.heap.size ≤ b) → K (a.put o.dst v') w') :
    if Region.wanted o (yielded ops a.tmps) = true then Oper.wp Try.prog o a W K Q else E := by
  have hwW : Below wr.heap.size wr W := hwm.trans (hbw.mono hwm.size)
  have hu' : FInts wr.heap.size W.heap.size W u z := (hu.below hbw).mono (Nat.le_refl _) hbw.size
  have hown' := hown.below hwW
  have hbW : base ≤ W.heap.size := Nat.le_trans hb hwW.size
  obtain ⟨i0, hi, hz0, hz1, hz2⟩ := info_parts ints_info
  obtain ⟨vs, hvs⟩ : ∃ vs : List Value, vs = ps.map (·.1) := ⟨_, rfl⟩
  have hO : OwnH base W v vs := by rw [hvs]; exact hown'.1
  have hlv : vs.length = ps.length := by rw [hvs]; simp
  refine step_append_lies W hgd s x _ ho base 26 i0 (.slice none 0 0) 1 24 Try.underlying22 hi hz0 hz1 hz2 rfl (by decide) v vs.length vs hs hO ⟨H, 0, none⟩ 1 1 [u] hx rfl ?_ ?_ (by decide) ?_ ?_ hbW W.heap.size rfl ?_
  · intro j y hj
    match j, hj with
    | 0, hj => simp at hj; subst hj; simpa [Addr.add] using hc0
  · intro y hy; simp at hy; subst hy; exact hu.ints.oneCell
  · unfold maxLen; omega
  · omega
  · intro g cap w' hown2 hg hat hlt
    have hbel : Below base wr w' := by
      refine ⟨hg.os.trans hwW.os, hg.tape.trans hwW.tape, hg.output.trans hwW.output, Nat.le_trans hwW.size hg.size, fun i hi2 => ?_⟩
      rw [hg.block i (by omega) (fun e => by have := hown'.1.block_lt e.symm; omega)]
      exact hwW.block i (by omega)
    refine h _ w' (frt_grown hown hwW hu' hb (by unfold OwnH; rw [← hvs]; simpa using hown2) hg ?_) hbel (below_grown_trans hwW hg) ?_
    · intro b hb2
      obtain rfl : g = b := by simpa [Value.ownBlock] using hb2
      rcases hat with e | e
      · exact .inl e
      · exact .inr (by omega)
    · intro b hb2
      obtain rfl : g = b := by simpa [Value.ownBlock] using hb2
      rcases hat with e | e
      · exact .inl e
      · exact .inr (by have := hwW.size; omega)

end Go.Proofs.Ytlipmbcjpmbjnaa
