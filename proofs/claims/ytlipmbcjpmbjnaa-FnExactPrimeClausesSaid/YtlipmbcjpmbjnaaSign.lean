/- The program's family of all signed clauses: append of two rows at once, and the walk of signings. -/
import Derived.Test.YtlipmbcjpmbjnaaFull
namespace Go.Proofs.Ytlipmbcjpmbjnaa
open Go.RowKit
set_option linter.unusedVariables false

/-- append of two rows to a header -/
theorem append_hdr2 {ops : Array Oper} {rest : List Oper} {o : Oper} {a : Act} {Q : Exit → Act → World → Prop} {w : World} {u u' : Value} (hgd : o.guard = none) (s x : Operand)
    (ho : o.op = .call { callee := .builtin .append, args := #[s, x], argTypes := #[22, 22] })
    (base : Nat) {v : Value} {vs : List Value} (hs : a.eval s = v) (hown : OwnH base w v vs) (hu : u.oneCell' = true) (hu' : u'.oneCell' = true)
    {H : Nat} (hx : a.eval x = .slice (some ⟨H, 0, none⟩) 2 2) (hH : w.heap.size = H) (hn : vs.length ≤ 1073741824) (hb : base ≤ w.heap.size)
    (h : ∀ v' w', OwnH base w' v' (vs ++ [u, u']) → w.grownBy w' v.ownBlock → Below base w w' → (∀ b, v'.ownBlock = some b → v.ownBlock = some b ∨ w.heap.size ≤ b) → wpList Try.prog ops Q rest (a.put o.dst v') w') : wpList Try.prog ops Q (o :: rest) a (w.alloc (.cells #[u, u'] 26)) := by
  subst hH
  obtain ⟨i0, hi, hz0, hz1, hz2⟩ := info_parts ints_info
  have hal : Below w.heap.size w (w.alloc (.cells #[u, u'] 26)) := (Below.refl _ _).alloc (Nat.le_refl _) _
  have hown' : OwnH base (w.alloc (.cells #[u, u'] 26)) v vs := hown.below hal
  refine wpList_append_lies (w.alloc (.cells #[u, u'] 26)) hgd s x _ ho base 26 i0 (.slice none 0 0) 1 24 Try.underlying22 hi hz0 hz1 hz2 rfl (by decide) v vs.length vs hs hown' ⟨w.heap.size, 0, none⟩ 2 2 [u, u'] hx rfl ?_ ?_ (by decide) ?_ ?_ (by simp; omega) (w.heap.size + 1) (by simp) ?_
  · intro j y hj
    match j, hj with
    | 0, hj => simp at hj; subst hj; simp [Addr.add]
    | 1, hj => simp at hj; subst hj; simp [Addr.add]
  · intro y hy
    rcases List.mem_cons.1 hy with rfl | hy
    · exact hu
    · simp at hy; subst hy; exact hu'
  · unfold maxLen; omega
  · omega
  · intro g cap w' hown2 hg hat hlt
    have hgw : w.grownBy w' v.ownBlock := by
      refine ⟨hg.os, hg.tape, hg.output, Nat.le_trans (by simp) hg.size, fun i hi2 hne => ?_⟩
      rw [hg.block i (by simp; omega) hne]
      exact hal.block i hi2
    have hbw : Below base w w' := by
      refine ⟨hgw.os, hgw.tape, hgw.output, hgw.size, fun i hi2 => hgw.block i (by omega) ?_⟩
      intro e
      have := hown.block_lt e.symm
      omega
    refine h _ w' (by unfold OwnH; simpa using hown2) hgw hbw ?_
    intro b hb2
    obtain rfl : g = b := by simpa [Value.ownBlock] using hb2
    rcases hat with e | e
    · exact .inl e
    · exact .inr (by omega)

theorem frt_grownD {base mid : Nat} {wr W w' : World} {v v' u u2 : Value} {z z2 : List Int} {ps : List (Value × List Int)} (hown : FRT base wr v ps) (hwW : Below wr.heap.size wr W) (hu : FInts wr.heap.size mid W u z) (hu2 : FInts mid W.heap.size W u2 z2) (h1 : wr.heap.size ≤ mid) (h2 : mid ≤ W.heap.size) (hb : base ≤ wr.heap.size)
    (hO : OwnH base w' v' (ps.map (·.1) ++ [u, u2])) (hg : W.grownBy w' v.ownBlock) (hat : ∀ b, v'.ownBlock = some b → v.ownBlock = some b ∨ W.heap.size ≤ b) : FRT base w' v' (ps ++ [(u, z), (u2, z2)]) := by
  have hR : Rws base W.heap.size W (ps ++ [(u, z), (u2, z2)]) := by
    have := (((hown.2.1.below hwW).snoc hu hb h1).snoc hu2 (by omega) h2)
    simpa using this
  have hsep : ∀ p ∈ ps ++ [(u, z), (u2, z2)], p.2 ≠ [] → p.1.ownBlock ≠ v.ownBlock := by
    intro p hp h0
    rcases List.mem_append.1 hp with hp | hp
    · exact hown.2.2 p hp h0
    · rcases List.mem_cons.1 hp with rfl | hp
      · obtain ⟨b, hb1, hb2, _⟩ := hu.block h0
        intro e
        rw [hb1] at e
        have := hown.1.block_lt e.symm
        omega
      · obtain rfl := List.mem_singleton.1 hp
        obtain ⟨b, hb1, hb2, _⟩ := hu2.block h0
        intro e
        rw [hb1] at e
        have := hown.1.block_lt e.symm
        omega
  refine ⟨by simpa using hO, ⟨fun p hp => ?_, hR.2⟩, fun p hp h0 e => ?_⟩
  · refine ((hR.1 p hp).grown hg ?_).mono (Nat.le_refl _) hg.size
    by_cases h0 : p.2 = []
    · exact .inl h0
    · exact .inr (hsep p hp h0)
  · obtain ⟨b, hqb, _, hlt⟩ := (hR.1 p hp).block h0
    rw [hqb] at e
    rcases hat b e.symm with h1 | h1
    · exact hsep p hp h0 (hqb.trans h1.symm)
    · omega

theorem append_frow2 {ops : Array Oper} {rest : List Oper} {o : Oper} {a : Act} {Q : Exit → Act → World → Prop} {w : World} {u u2 : Value} {z z2 : List Int} (hgd : o.guard = none) (s x : Operand)
    (ho : o.op = .call { callee := .builtin .append, args := #[s, x], argTypes := #[22, 22] })
    (base : Nat) {v : Value} {ps : List (Value × List Int)} (hs : a.eval s = v) {wr : World} (hown : FRT base wr v ps) (hwr : Below wr.heap.size wr w) {mid : Nat} (hu : FInts wr.heap.size mid w u z) (hu2 : FInts mid w.heap.size w u2 z2) (h1 : wr.heap.size ≤ mid) (h2 : mid ≤ w.heap.size)
    {H : Nat} (hx : a.eval x = .slice (some ⟨H, 0, none⟩) 2 2) (hH : w.heap.size = H) (hn : ps.length ≤ 1073741824) (hb : base ≤ wr.heap.size)
    (h : ∀ v' w', FRT base w' v' (ps ++ [(u, z), (u2, z2)]) → Below base wr w' → wpList Try.prog ops Q rest (a.put o.dst v') w') : wpList Try.prog ops Q (o :: rest) a (w.alloc (.cells #[u, u2] 26)) := by
  refine append_hdr2 hgd s x ho base hs (hown.1.below hwr) hu.ints.oneCell hu2.ints.oneCell hx hH (by simpa using hn) (Nat.le_trans hb hwr.size) ?_
  intro v' w' hown2 hg hbw hat
  exact h v' w' (frt_grownD hown hwr hu hu2 h1 h2 hb hown2 hg hat) ((hwr.mono hb).trans hbw)

theorem signStep_snoc (t : List (List Int)) (k : Nat) (z : List Int) (v : Int) (h : t[k]? = some z) : signStep (t.take (k + 1)) v = signStep (t.take k) v ++ [z ++ [v], z ++ [-v]] := by
  rw [List.take_add_one, h]
  unfold signStep
  simp

end Go.Proofs.Ytlipmbcjpmbjnaa
