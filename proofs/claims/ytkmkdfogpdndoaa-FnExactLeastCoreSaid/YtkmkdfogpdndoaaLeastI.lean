/- The walks of the program's choices. -/
import Derived.Test.YtkmkdfogpdndoaaLeastPl
import Derived.Test.YtkmkdfogpdndoaaFull
namespace Go.Proofs.Ytkmkdfogpdndoaa
open Go.RowKit
set_option linter.unusedVariables false

/-- what a call of the closure leaves alone: each block but the table's box, the table's own block and the prefix's own block -/
structure ChFr (tb : Nat) (w w' : World) (q : Value) (qs : List (Value × List Int)) (q' : Value) (qs' : List (Value × List Int)) (v : Value) : Prop where
  os : w'.os = w.os
  tape : w'.tape = w.tape
  output : w'.output = w.output
  size : w.heap.size ≤ w'.heap.size
  block : ∀ g, g < w.heap.size → g ≠ tb → NotAt g q qs → v.ownBlock ≠ some g → w'.heap[g]? = w.heap[g]?
  away : ∀ g, g < w.heap.size → NotAt g q qs → v.ownBlock ≠ some g → NotAt g q' qs'

set_option maxHeartbeats 1600000 in
theorem i_choose0 {base hi : Nat} (v : Value) (zs : List Int) (k : Int) (tb lb sb nb fb lim : Nat) (q : Value) (qs : List (Value × List Int)) (w : World) (h : Ints hi w v zs) (hn : zs.length ≤ 1000)
    (hB : Blk w tb 22 #[q]) (hR : FRT base w q qs) (hNA : NotAt tb q qs) (htb : tb < base) (hbs : base ≤ w.heap.size) (hl : w.cell? ⟨lb, 0, none⟩ = some (.int .i64 lim)) (hs : w.cell? ⟨sb, 0, none⟩ = some (.int .i64 zs.length)) (hlim : qs.length ≤ lim) (hlim2 : lim ≤ 4096) :
    Calls Try.prog 136 #[v, .int .i64 k, .pointer (some ⟨tb, 0, none⟩), .pointer (some ⟨lb, 0, none⟩), .pointer (some ⟨sb, 0, none⟩), .pointer (some ⟨nb, 0, none⟩), .pointer (some ⟨fb, 0, none⟩)] w fun e w' => ∃ q' u, e = .returned (.tuple #[]) ∧ Blk w' tb 22 #[q'] ∧ FRT base w' q' (qs ++ [(u, zs)]) ∧ ChFr tb w w' q qs q' (qs ++ [(u, zs)]) (.slice none 0 0) := by
  obtain ⟨A, c, rfl, hc, hm, hrow⟩ := h.top
  unfold maxLen at hm
  obtain ⟨Aq, cq, rfl⟩ := hR.open_
  have x0 : w.cell? ⟨tb, 0, none⟩ = some (.slice Aq qs.length cq) := by simpa using hB.cell 0
  have hlc : ¬ ((lim : Int) < (qs.length : Int)) := by omega
  have HN := hide hn
  have HZ := hide h.top
  have HBK := hide (show ∀ W, Below w.heap.size w W → W.cell? ⟨tb, 0, none⟩ = some (.slice Aq qs.length cq) from fun W hW => below_old hW _ _ x0)
  have HBF := hide (show ∀ W, Below w.heap.size w W → W.frozen? ⟨tb, 0, none⟩ = false from fun W hW => (hB.below hW hB.lt).frozen 0)
  have hbt := hB.lt
  have HNN := hide (show ∀ W, Below w.heap.size w W → ¬ (tb = W.heap.size) from fun W hW => by have := hW.size; omega)
  have HBG := hide (show ∀ W, w.grownBy W (Value.slice Aq qs.length cq).ownBlock → Blk W tb 22 #[.slice Aq qs.length cq] from fun W hW => (hW.block tb hB.lt (fun e => hNA.1 e.symm)).trans hB)
  have HLN := hide (show qs.length ≤ 1073741824 by omega)
  have HBS := hide hbs
  have HZR := hide (h.top.below (below_drew w))
  clear h hrow
  go_enter Try.func136, Try.ntmps136
  go_wp2_with fail
  go_region_law (first | (go_simp; go_at_call 100; refine (g_Clone _ zs _ HZR.out (by have := HN.out; omega)).mono ?_; rintro e w2 ⟨v2, rfl, hown2, hb2⟩; have hb2' := (below_drew w).trans hb2; have hu := hown2.fints; obtain ⟨A2, c2, rfl, -⟩ := id hu; have p0 := HBK.out w2 hb2'; have hnn := HNN.out w2 hb2'; have p2 := (HBK.out _ (below_alloc_of hb2' (.cells #[.slice A2 zs.length c2] 25)))) | ((refine step_frow (H := w2.heap.size) rfl _ _ rfl base ?_ w hR w2 hb2' hu ?_ ?_ HLN.out ?_ ?_ ?_); (· rfl); (· (repeat (first | exact Below.refl _ _ | apply below_drew_of | apply below_alloc_of))); (· exact HBS.out); (· rfl); (· simp); (intro v3 w3 hR3 hb3 hg3 hat3; have hB3 := HBG.out w3 hg3; obtain ⟨A3, c3, rfl⟩ := hR3.open_; simp only [List.length_append, List.length_cons, List.length_nil, Nat.zero_add] at hR3 hat3; have q0 : w3.cell? ⟨tb, 0, none⟩ = some (.slice Aq qs.length cq) := (by simpa using hB3.cell 0); have q1 : w3.frozen? ⟨tb, 0, none⟩ = false := hB3.frozen 0)))
  all_goals (have hN3 : ∀ g, g < w.heap.size → NotAt g (.slice Aq qs.length cq) qs → NotAt g (.slice A3 (qs.length + 1) c3) (qs ++ [(Value.slice A2 zs.length c2, zs)]) := fun g hg hna => hna.snoc hg hu hat3)
  all_goals (have hB4 := hB3.set_ 0 (Value.slice A3 (qs.length + 1) c3); have hR4 := hR3.set_ (hN3 tb hbt hNA) 0 (Value.slice A3 (qs.length + 1) c3))
  all_goals (have hFr : ChFr tb w (w3.setCell ⟨tb, 0, none⟩ (.slice A3 (qs.length + 1) c3)) (.slice Aq qs.length cq) qs (.slice A3 (qs.length + 1) c3) (qs ++ [(Value.slice A2 zs.length c2, zs)]) (.slice none 0 0) := ⟨hb3.os, hb3.tape, hb3.output, by simpa [World.setCell] using hg3.size, fun g hg hne hna _ => (Below.heap_setCell _ _ _ g (by simpa using hne)).trans (hg3.block g hg (fun e => hna.1 e.symm)), fun g hg hna _ => hN3 g hg hna⟩)
  all_goals (have HF := hide hFr; have HR4 := hide hR4; have HB4 := hide hB4)
  all_goals go_wp2_with fail
  all_goals refine bodyPost_ret (v := .tuple #[]) (by first | rfl | simp [results, Try.results136, go_sem]) rfl ⟨_, _, rfl, by simpa using HB4.out, HR4.out, HF.out⟩

end Go.Proofs.Ytkmkdfogpdndoaa
