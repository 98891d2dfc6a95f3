/- Tables that the call itself has made: append of a whole fresh table. -/
import Derived.Test.YtlipmbcjpmbjnaaTabs
namespace Go.Proofs.Ytlipmbcjpmbjnaa
open Go.RowKit
set_option linter.unusedVariables false

theorem Rws.append {lo mid hi : Nat} {w : World} {ps qs : List (Value × List Int)} (h : Rws lo mid w ps) (h2 : Rws mid hi w qs) (h1 : lo ≤ mid) (h3 : mid ≤ hi) : Rws lo hi w (ps ++ qs) := by
  refine ⟨fun p hp => ?_, List.pairwise_append.2 ⟨h.2, h2.2, ?_⟩⟩
  · rcases List.mem_append.1 hp with hp | hp
    · exact (h.1 p hp).mono (Nat.le_refl _) h3
    · exact (h2.1 p hp).mono h1 (Nat.le_refl _)
  · intro p hp q hq
    by_cases e1 : p.2 = []
    · exact .inl e1
    · by_cases e2 : q.2 = []
      · exact .inr (.inl e2)
      · obtain ⟨b, hb, _, hb2⟩ := (h.1 p hp).block e1
        obtain ⟨b', hb', hb3, _⟩ := (h2.1 q hq).block e2
        exact .inr (.inr (by rw [hb, hb']; simp; omega))

theorem frt_grown2 {base : Nat} {wr W w' : World} {v v' : Value} {ps qs : List (Value × List Int)} (hown : FRT base wr v ps) (hwW : Below wr.heap.size wr W) (h2 : Rws wr.heap.size W.heap.size W qs) (hb : base ≤ wr.heap.size)
    (hO : OwnH base w' v' (ps.map (·.1) ++ qs.map (·.1))) (hg : W.grownBy w' v.ownBlock) (hat : ∀ b, v'.ownBlock = some b → v.ownBlock = some b ∨ W.heap.size ≤ b) : FRT base w' v' (ps ++ qs) := by
  have hR : Rws base W.heap.size W (ps ++ qs) := (hown.2.1.below hwW).append h2 hb hwW.size
  have hsep : ∀ p ∈ ps ++ qs, p.2 ≠ [] → p.1.ownBlock ≠ v.ownBlock := by
    intro p hp h0
    rcases List.mem_append.1 hp with hp | hp
    · exact hown.2.2 p hp h0
    · obtain ⟨b, hb1, hb2, _⟩ := (h2.1 p hp).block h0
      intro e
      rw [hb1] at e
      have := hown.1.block_lt e.symm
      omega
  refine ⟨by simpa using hO, ⟨fun p hp => ?_, hR.2⟩, fun p hp h0 e => ?_⟩
  · refine ((hR.1 p hp).grown hg ?_).mono (Nat.le_refl _) hg.size
    by_cases h0 : p.2 = []
    · exact .inl h0
    · exact .inr (hsep p hp h0)
  · obtain ⟨b, hqb, _, hlt⟩ := (hR.1 p hp).block h0
    rw [hqb] at e
    rcases hat b e.symm with h1 | h1
    · exact hsep p hp h0 (hqb.trans h1.symm)
    · omega

/-- append of a whole fresh table, in a region that draws its order -/
theorem step_ftab {ops : Array Oper} {o : Oper} {a : Act} {K : Act → World → Prop} {Q : Exit → Act → World → Prop} {E : Prop} {W : World} (hgd : o.guard = none) (s x : Operand)
    (ho : o.op = .call { callee := .builtin .append, args := #[s, x], argTypes := #[22, 22] })
    (base : Nat) {v : Value} {ps : List (Value × List Int)} (hs : a.eval s = v) (wr : World) (hown : FRT base wr v ps) (wm : World) (hwm : Below wr.heap.size wr wm) {v2 : Value} {qs : List (Value × List Int)} (hu : FRT wr.heap.size wm v2 qs) (hbw : Below wm.heap.size wm W) (hb : base ≤ wr.heap.size)
    (hn : ps.length + qs.length ≤ 1073741824) (hx : a.eval x = v2)
    (h : ∀ v' w', FRT base w' v' (ps ++ qs) → Below base wr w' → wr.grownBy w' v.ownBlock → (∀ b, v'.ownBlock = some b → v.ownBlock = some b ∨ wr.heap.size ≤ b) → K (a.put o.dst v') w') :
    if Region.wanted o (yielded ops a.tmps) = true then Oper.wp Try.prog o a W K Q else E := by
  have hwW : Below wr.heap.size wr W := hwm.trans (hbw.mono hwm.size)
  have hu' := hu.below hbw
  have hown' := hown.below hwW
  have hbW : base ≤ W.heap.size := Nat.le_trans hb hwW.size
  obtain ⟨i0, hi, hz0, hz1, hz2⟩ := info_parts ints_info
  obtain ⟨vs, hvs⟩ : ∃ vs : List Value, vs = ps.map (·.1) := ⟨_, rfl⟩
  have hO : OwnH base W v vs := by rw [hvs]; exact hown'.1
  have hlv : vs.length = ps.length := by rw [hvs]; simp
  obtain ⟨A2, c2, rfl, hc2, hm2, hown2⟩ := hu'.1.own
  rcases qs with _ | ⟨q0, qr⟩
  · have hw : Region.wanted o (yielded ops a.tmps) = true := by simp [Region.wanted, hgd]
    rw [if_pos hw]
    have hrun : (Builtin.append_ #[22, 22] o.type #[v, .slice A2 0 c2]).run Try.prog W = .ok v W := by
      rcases A2 with _ | ad
      · rcases hO.2 with ⟨rfl, hl0⟩ | ⟨g, cap, cur, rfl, _, _, hnc, _⟩
        · simp [Builtin.append_, run_underlying Try.underlying22, sizeOf, typeInfo, hi, Builtin.lenOf, Builtin.firstCells]
        · simp [Builtin.append_, run_underlying Try.underlying22, sizeOf, typeInfo, hi, Builtin.lenOf, Builtin.firstCells, hnc, storeCells]
      · rcases hO.2 with ⟨rfl, hl0⟩ | ⟨g, cap, cur, rfl, _, _, hnc, _⟩
        · simp [Builtin.append_, run_underlying Try.underlying22, sizeOf, typeInfo, hi, Builtin.lenOf, Builtin.firstCells, loadCells, loadCellsFrom]
        · simp [Builtin.append_, run_underlying Try.underlying22, sizeOf, typeInfo, hi, Builtin.lenOf, Builtin.firstCells, hnc, storeCells, loadCells, loadCellsFrom]
    unfold Oper.wp
    simp only [List.map_nil, List.length_nil] at hx
    simp [execOp, ho, resolve, invoke, builtin, hs, hx, hrun, Result.andThen]
    exact h v W (by simpa using hown') (hwW.mono hb) ⟨hwW.os, hwW.tape, hwW.output, hwW.size, fun i hi2 _ => hwW.block i hi2⟩ (fun b hb2 => .inl hb2)
  · obtain ⟨b2, off2, rfl, hl2, hlt2, hcell2⟩ := hown2 (by simp)
    obtain ⟨qs, hqs⟩ : ∃ qs, qs = q0 :: qr := ⟨_, rfl⟩
    rw [← hqs] at hu hu' hn hx h hc2 hcell2
    have hlen : 0 < (qs.map (·.1)).length := by rw [hqs]; simp
    refine step_append_lies W hgd s x _ ho base 26 i0 (.slice none 0 0) 1 24 Try.underlying22 hi hz0 hz1 hz2 rfl (by decide) v vs.length vs hs hO ⟨b2, off2, none⟩ (qs.map (·.1)).length c2 (qs.map (·.1)) hx (by simp) ?_ ?_ hlen ?_ ?_ hbW W.heap.size rfl ?_
    · intro j u hj
      have hc' := (hcell2 j u hj).1
      unfold Addr.add
      split
      · rename_i h0; subst h0; simpa using hc'
      · exact hc'
    · intro y hy
      obtain ⟨p, hp, rfl⟩ := List.mem_map.1 hy
      exact (hu'.2.1.1 p hp).ints.oneCell
    · unfold maxLen; simp; omega
    · simp; omega
    · intro g cap w' hown3 hg hat hlt
      have hbel : Below base wr w' := by
        refine ⟨hg.os.trans hwW.os, hg.tape.trans hwW.tape, hg.output.trans hwW.output, Nat.le_trans hwW.size hg.size, fun i hi2 => ?_⟩
        rw [hg.block i (by omega) (fun e => by have := hown'.1.block_lt e.symm; omega)]
        exact hwW.block i (by omega)
      refine h _ w' (frt_grown2 hown hwW hu'.2.1 hb (by unfold OwnH; rw [← hvs]; simpa using hown3) hg ?_) hbel (below_grown_trans hwW hg) ?_
      · intro b hb2
        obtain rfl : g = b := by simpa [Value.ownBlock] using hb2
        rcases hat with e | e
        · exact .inl e
        · exact .inr (by omega)
      · intro b hb2
        obtain rfl : g = b := by simpa [Value.ownBlock] using hb2
        rcases hat with e | e
        · exact .inl e
        · exact .inr (by have := hwW.size; omega)

end Go.Proofs.Ytlipmbcjpmbjnaa
