/- Append of numbers to a row of the call's own: what it leaves alone. -/
import Derived.Test.YtlipmbcjpmbjnaaPut
namespace Go.Proofs.Ytlipmbcjpmbjnaa
open Go.RowKit
set_option linter.unusedVariables false

theorem OwnI.monoB {base base' : Nat} {w : World} {v : Value} {vs : List Int} (h : OwnI base w v vs) (hb : base' ≤ base) : OwnI base' w v vs := by
  refine ⟨h.1, ?_⟩
  rcases h.2 with h1 | ⟨g, cap, cur, e, hl, r⟩
  · exact .inl h1
  · exact .inr ⟨g, cap, cur, e, Nat.le_trans hb hl, r⟩

theorem grown_cell {W w' : World} {o : Option Nat} {p : Addr} {u : Value} (hg : W.grownBy w' o) (h : W.cell? p = some u) (hne : some p.block ≠ o) : w'.cell? p = some u :=
  (World.cell?_of_block (hg.block p.block (World.block_lt_of_cell? _ _ h) hne)).trans h

theorem step_intsG {ops : Array Oper} {o : Oper} {a : Act} {K : Act → World → Prop} {Q : Exit → Act → World → Prop} {E : Prop} {W : World} (hgd : o.guard = none) (s x : Operand)
    (ho : o.op = .call { callee := .builtin .append, args := #[s, x], argTypes := #[26, 26] })
    (base : Nat) {v : Value} {zs : List Int} (hs : a.eval s = v) (wr : World) (hown : OwnI base wr v zs) (hbw : Below wr.heap.size wr W) (hb : base ≤ wr.heap.size)
    {b off m c : Nat} {ys : List Int} (hx : a.eval x = .slice (some ⟨b, off, none⟩) m c) (hl : ys.length = m) (hc : ∀ j u, (ic ys)[j]? = some u → W.cell? ⟨b, off + j, none⟩ = some u) (hn : zs.length + ys.length ≤ 1048576)
    (h : ∀ v' w', OwnI base w' v' (zs ++ ys) → Below base wr w' → W.grownBy w' v.ownBlock → K (a.put o.dst v') w') :
    if Region.wanted o (yielded ops a.tmps) = true then Oper.wp Try.prog o a W K Q else E := by
  have hw : Region.wanted o (yielded ops a.tmps) = true := by simp [Region.wanted, hgd]
  rw [if_pos hw]
  have hown' := hown.below hbw
  have hbW : base ≤ W.heap.size := Nat.le_trans hb hbw.size
  obtain ⟨i0, hi, hz0, hz1, hz2⟩ := info_parts int_info
  refine wp_append_own W s x _ ho base 3 i0 (.int .i64 0) 1 8 Try.underlying26 hi hz0 hz1 hz2 rfl (by decide) v zs.length (ic zs) hs hown' ⟨b, off, none⟩ m c (ic ys) hx (by simp; omega) ?_ ?_ ?_ ?_ hbW ?_
  · intro j u hj
    have := hc j u hj
    unfold Addr.add
    split
    · rename_i h0; subst h0; simpa using this
    · exact this
  · intro y hy; simp [ic] at hy; obtain ⟨q, _, rfl⟩ := hy; rfl
  · unfold maxLen; omega
  · omega
  · intro v' w' hown2 hg _
    refine h v' w' (by unfold OwnI; rw [show (zs ++ ys).length = zs.length + m by simp [hl]]; simpa [ic] using hown2) ⟨hg.os.trans hbw.os, hg.tape.trans hbw.tape, hg.output.trans hbw.output, Nat.le_trans hbw.size hg.size, fun i hi2 => ?_⟩ hg
    rw [hg.block i (by omega) (fun e => by have := World.ownsRow.lt hown' i e.symm; omega)]
    exact hbw.block i (by omega)

theorem OwnI.made1 (base : Nat) (w : World) (o : Obj) (hb : base ≤ w.heap.size) : OwnI base ((w.alloc o).alloc (.cells #[] 3)) (.slice (some ⟨w.heap.size + 1, 0, none⟩) 0 0) [] := by
  have h := OwnI.made base (w.alloc o) (by simp; omega)
  simpa using h
theorem own_snoc {base L : Nat} {w : World} {v : Value} {zs : List Int} {x : Int} (h : OwnI base w v (zs ++ [x])) (hl : zs.length = L) : ∃ g c, v = .slice (some ⟨g, 0, none⟩) (L + 1) c := by
  rcases h.2 with ⟨_, h1⟩ | ⟨g, cap, cur, e, _⟩
  · simp at h1
  · exact ⟨g, cap, by rw [e]; simp [hl]⟩

end Go.Proofs.Ytlipmbcjpmbjnaa
