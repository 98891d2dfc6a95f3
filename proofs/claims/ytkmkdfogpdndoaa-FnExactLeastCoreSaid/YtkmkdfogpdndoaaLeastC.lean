/- The walk of the program's choices, whole; what is left of a table whose rows are changed one by one. -/
import Derived.Test.YtkmkdfogpdndoaaLeastR
import Derived.Laws.EntriesVeiled
namespace Go.Proofs.Ytkmkdfogpdndoaa
open Go.RowKit
set_option linter.unusedVariables false

theorem rangeFrom_succ (k n : Nat) : rangeFrom (k + 1) (n + 1) = (rangeFrom k n).map (· + 1) := by
  unfold rangeFrom
  rw [show n + 1 - (k + 1) = n - k from by omega, List.range'_eq_map_range, List.range'_eq_map_range, List.map_map]
  apply List.map_congr_left
  intro i _
  simp only [Function.comp]
  omega
theorem chs_shift (n : Nat) : ∀ (m k : Nat), chs (n + 1) m (k + 1) = (chs n m k).map (List.map (· + 1))
  | 0, k => by simp [chs]
  | m + 1, k => by
    simp only [chs, rangeFrom_succ, List.flatMap_map, List.map_flatMap]
    apply congrArg List.flatten
    apply List.map_congr_left
    intro i _
    rw [chs_shift n m (i + 1), List.map_map, List.map_map]
    rfl
/-- the rows from i on of a table; its rows lie apart, from each other and from the header -/
def RemT (base hi : Nat) (w : World) (v : Value) (ps : List (Value × List Int)) (i : Nat) : Prop :=
  OwnH base w v (ps.map (·.1)) ∧ Rws base hi w (ps.drop i) ∧ ∀ p ∈ ps.drop i, p.2 ≠ [] → p.1.ownBlock ≠ v.ownBlock
theorem FRT.rem {base : Nat} {w : World} {v : Value} {ps : List (Value × List Int)} (h : FRT base w v ps) : RemT base w.heap.size w v ps 0 := ⟨h.1, h.2.1, h.2.2⟩
theorem RemT.below {base hi : Nat} {w w' : World} {v : Value} {ps : List (Value × List Int)} {i : Nat} (h : RemT base hi w v ps i) (hb : Below w.heap.size w w') : RemT base hi w' v ps i := ⟨h.1.below hb, h.2.1.below hb, h.2.2⟩
theorem drop_at {α : Type} {L : List α} {i : Nat} {x : α} (h : L[i]? = some x) : L.drop i = x :: L.drop (i + 1) := by
  obtain ⟨hi, rfl⟩ := List.getElem?_eq_some_iff.1 h
  exact List.drop_eq_getElem_cons hi
/-- the block that a row's change touches -/
def rowB (u : Value) (z : List Int) : Option Nat := if z = [] then none else u.ownBlock
theorem RemT.row {base hi : Nat} {w : World} {v u : Value} {z : List Int} {ps : List (Value × List Int)} {i : Nat} (h : RemT base hi w v ps i) (hx : ps[i]? = some (u, z)) : FInts base hi w u z := h.2.1.1 (u, z) (by rw [drop_at hx]; exact List.mem_cons_self)
theorem RemT.next {base hi : Nat} {w w' : World} {v u : Value} {z : List Int} {ps : List (Value × List Int)} {i : Nat} (h : RemT base hi w v ps i) (hx : ps[i]? = some (u, z)) (hg : w.grownBy w' (rowB u z)) : RemT base hi w' v ps (i + 1) := by
  obtain ⟨h1, ⟨h2, h3⟩, h4⟩ := h
  rw [drop_at hx] at h2 h3 h4
  obtain ⟨h5, h6⟩ := List.pairwise_cons.1 h3
  refine ⟨?_, ⟨fun p hp => (h2 p (List.mem_cons_of_mem _ hp)).grown hg ?_, h6⟩, fun p hp => h4 p (List.mem_cons_of_mem _ hp)⟩
  · unfold rowB at hg
    split at hg
    · exact h1.below ⟨hg.os, hg.tape, hg.output, hg.size, fun i hi => hg.block i hi (by simp)⟩
    · rename_i hz
      have hne := h4 (u, z) List.mem_cons_self hz
      cases e : u.ownBlock with
      | none => rw [e] at hg; exact h1.below ⟨hg.os, hg.tape, hg.output, hg.size, fun i hi => hg.block i hi (by simp)⟩
      | some g => rw [e] at hg; exact h1.grown hg (fun e2 => hne (by rw [e, e2]))
  · unfold rowB
    split
    · by_cases e : p.2 = []
      · exact .inl e
      · refine .inr fun e2 => ?_
        obtain ⟨b, e3, _⟩ := (h2 p (List.mem_cons_of_mem _ hp)).block e
        rw [e3] at e2
        cases e2
    · rename_i hz
      rcases h5 p hp with a | a | a
      · exact absurd a hz
      · exact .inl a
      · exact .inr fun e => a e.symm
theorem RemT.head {base hi : Nat} {w : World} {A : Option Addr} {m c : Nat} {ps : List (Value × List Int)} {i : Nat} {u : Value} {z : List Int} (h : RemT base hi w (.slice A m c) ps i) (hx : ps[i]? = some (u, z)) : ∃ b off, A = some ⟨b, off, none⟩ ∧ w.cell? ⟨b, off + i, none⟩ = some u ∧ base ≤ b := by
  obtain ⟨A', c', e, h1, h2, h3⟩ := h.1.own
  injection e with e1 e2 e3
  subst e1
  have hl := (List.getElem?_eq_some_iff.1 hx).1
  obtain ⟨b, off, e4, h4, h5, h6⟩ := h3 (by simp; omega)
  exact ⟨b, off, e4, (h6 i u (by simp [hx])).1, h4⟩
/-- a row in which i numbers have been taken down by one -/
def decL (l : List Nat) (i : Nat) : List Int := castL (l.take i) ++ castL ((l.drop i).map (· + 1))
theorem decL_len (l : List Nat) (i : Nat) : (decL l i).length = l.length := by simp [decL]; omega
theorem decL_0 (l : List Nat) : decL l 0 = castL (l.map (· + 1)) := by simp [decL]
theorem decL_end (l : List Nat) : decL l l.length = castL l := by simp [decL]
theorem decL_at (l : List Nat) (i : Nat) (hi : i < l.length) : (decL l i)[i]? = some ((l[i] : Int) + 1) := by
  unfold decL
  rw [List.getElem?_append_right (by simp; omega)]
  simp [hi, Nat.min_eq_left (Nat.le_of_lt hi)]
theorem decL_set (l : List Nat) (i : Nat) (hi : i < l.length) : (decL l i).set i (l[i] : Int) = decL l (i + 1) := by
  unfold decL castL
  rw [List.set_append_right _ _ (by simp; omega), List.drop_eq_getElem_cons hi]
  simp only [List.map_cons]
  rw [show i - (List.map (fun (k : Nat) => (k : Int)) (List.take i l)).length = 0 from by simp; omega, List.set_cons_zero, List.take_add_one, List.getElem?_eq_getElem hi, List.map_append, List.append_assoc]
  rfl
theorem dec_step {base hi : Nat} {w : World} {A : Option Addr} {l : List Nat} {i : Nat} (h : Own base hi w A (ic (decL l i))) (hl : i < l.length) :
    ∃ b off, A = some ⟨b, off, none⟩ ∧ base ≤ b ∧ b < hi ∧ w.cell? ⟨b, off + i, none⟩ = some (.int .i64 ((l[i] : Int) + 1)) ∧ w.frozen? ⟨b, off + i, none⟩ = false ∧ Own base hi (w.setCell ⟨b, off + i, none⟩ (.int .i64 (l[i] : Int))) (some ⟨b, off, none⟩) (ic (decL l (i + 1))) := by
  have hlen := decL_len l i
  obtain ⟨b, off, rfl, h1, h2, h3⟩ := h.cel (by simp [ic, hlen]; omega)
  have hc := h3 i (.int .i64 ((l[i] : Int) + 1)) (by simp [ic, decL_at l i hl])
  refine ⟨b, off, rfl, h1, h2, hc.1, hc.2, Cel.own ?_ h1 h2⟩
  have h4 := h3.set_ (i := i) (by simp [ic, hlen]; omega) (.int .i64 (l[i] : Int))
  rw [← decL_set l i hl]
  simpa [ic, List.map_set] using h4

set_option maxHeartbeats 1600000 in
theorem i_choices (n size lim : Nat) (w : World) (hn : n ≤ 12) (hsz : size ≤ 12) (hlim : (chs (n + 1) size 1).length ≤ lim) (hlim2 : lim ≤ 4096) :
    Calls Try.prog 107 #[.int .i64 n, .int .i64 size, .int .i64 lim] w fun e w' => ∃ v' ps, e = .returned v' ∧ ps.map (·.2) = (chs (n + 1) size 1).map (fun l => castL l) ∧ FRT w.heap.size w' v' ps ∧ Below w.heap.size w w' := by
  obtain ⟨w1, hw1⟩ : ∃ w1, w1 = w.alloc (.cells #[.int .i64 n] 3) := ⟨_, rfl⟩
  have hs1 : w1.heap.size = w.heap.size + 1 := by rw [hw1]; simp
  obtain ⟨w2, hw2⟩ : ∃ w2, w2 = w1.alloc (.cells #[.int .i64 size] 3) := ⟨_, rfl⟩
  have hs2 : w2.heap.size = w.heap.size + 1 + 1 := by rw [hw2]; simp [hs1]
  obtain ⟨w3, hw3⟩ : ∃ w3, w3 = w2.alloc (.cells #[.int .i64 lim] 3) := ⟨_, rfl⟩
  have hs3 : w3.heap.size = w.heap.size + 1 + 1 + 1 := by rw [hw3]; simp [hs2]
  have hal1 : Below w.heap.size w w1 := by rw [hw1]; exact below_alloc_of (Below.refl _ _) _
  have hal12 : Below w1.heap.size w1 w2 := by rw [hw2]; exact below_alloc_of (Below.refl _ _) _
  have hal23 : Below w2.heap.size w2 w3 := by rw [hw3]; exact below_alloc_of (Below.refl _ _) _
  obtain ⟨w4, hw4⟩ : ∃ w4, w4 = w3.alloc (.cells #[.slice none 0 0] 22) := ⟨_, rfl⟩
  have hs4 : w4.heap.size = w.heap.size + 1 + 1 + 1 + 1 := by rw [hw4]; simp [hs3]
  obtain ⟨F, hF⟩ : ∃ F, F = Value.func (.func 136) #[] #[.pointer (some ⟨w.heap.size + 1 + 1 + 1, 0, none⟩), .pointer (some ⟨w.heap.size + 1 + 1, 0, none⟩), .pointer (some ⟨w.heap.size + 1, 0, none⟩), .pointer (some ⟨w.heap.size, 0, none⟩), .pointer (some ⟨w.heap.size + 1 + 1 + 1 + 1, 0, none⟩)] := ⟨_, rfl⟩
  obtain ⟨wc, hwc⟩ : ∃ wc, wc = w4.alloc (.cells #[F] 100) := ⟨_, rfl⟩
  have hsc : wc.heap.size = w.heap.size + 1 + 1 + 1 + 1 + 1 := by rw [hwc]; simp [hs4]
  have hal3 : Below w.heap.size w w3 := below_stp (below_stp hal1 hal12) hal23
  have hal4 : Below w.heap.size w w4 := by rw [hw4]; exact below_alloc_of hal3 _
  have hal : Below w.heap.size w wc := by rw [hwc]; exact below_alloc_of hal4 _
  have hal34 : Below w3.heap.size w3 w4 := by rw [hw4]; exact below_alloc_of (Below.refl _ _) _
  have hal4b : Below w4.heap.size w4 wc := by rw [hwc]; exact below_alloc_of (Below.refl _ _) _
  have c0 : w1.cell? ⟨w.heap.size, 0, none⟩ = some (.int .i64 n) := by rw [hw1]; simp
  replace c0 := below_old hal23 _ _ (below_old hal12 _ _ c0)
  have c1 : w2.cell? ⟨w.heap.size + 1, 0, none⟩ = some (.int .i64 size) := by rw [hw2, ← hs1]; simp
  replace c1 := below_old hal23 _ _ c1
  have c2 : w3.cell? ⟨w.heap.size + 1 + 1, 0, none⟩ = some (.int .i64 lim) := by rw [hw3, ← hs2]; simp
  have bt : Blk w4 (w.heap.size + 1 + 1 + 1) 22 #[.slice none 0 0] := by rw [hw4, ← hs3]; exact Blk.new _ _ _
  have df : wc.cell? ⟨w.heap.size + 1 + 1 + 1 + 1, 0, none⟩ = some F := by rw [hwc, ← hs4]; simp
  replace c0 := below_old hal4b _ _ (below_old hal34 _ _ c0)
  replace c1 := below_old hal4b _ _ (below_old hal34 _ _ c1)
  replace c2 := below_old hal4b _ _ (below_old hal34 _ _ c2)
  replace bt := bt.below hal4b bt.lt
  have HREC := hide (i_choose n size (w.heap.size + 1 + 1 + 1) (w.heap.size + 1 + 1) (w.heap.size + 1) (w.heap.size) (w.heap.size + 1 + 1 + 1 + 1) lim (w.heap.size + 1 + 1 + 1 + 1 + 1) hlim2 hn hsz (by omega) (by omega) (by omega) (by omega) (by omega) (by refine ⟨?_, ?_, ?_, ?_⟩ <;> omega) size 1 (.slice none 0 0) [] (.slice none 0 0) [] wc (by simp) (OwnI.nil _ _) (by simp [Value.ownBlock]) bt (FRT.nil _ _) (by omega) c2 c1 c0 (by rw [df, hF]) (by simpa using hlim) (Nat.le_refl _) (by omega))
  have HW4 := hide hw4
  have HW3 := hide hw3
  have HW2 := hide hw2
  have HW1 := hide hw1
  have HWC := hide hwc
  have HFF := hide hF
  have HBL := hide hal
  have HSC := hide hsc
  clear hw4 hw3 hwc hF hsc hal hal3 hal4 hal34 hal4b hw1 hw2 hal1 hal12 hal23 c0 c1 c2 bt df hs1 hs2 hs3 hs4 hlim
  go_enter Try.func107, Try.ntmps107
  go_wp2_with fail
  rw [← HW1.out, ← HW2.out, ← HW3.out, ← HW4.out, ← HFF.out, ← HWC.out]
  refine HREC.out.mono ?_
  rintro e w5 ⟨q5, rs, rfl, hB5, hR5, hch, hFr, hO5, -⟩
  have y0 : w5.cell? ⟨w.heap.size + 1 + 1 + 1, 0, none⟩ = some q5 := by simpa using hB5.cell 0
  obtain ⟨Aq, cq, rfl⟩ := hR5.open_
  rw [HFF.out]
  have HFR := hide hFr
  clear hFr
  go_wp2_with fail
  go_ret
  simp only [List.nil_append] at hR5 hch
  have hs5 := HSC.out
  refine ⟨_, rs, rfl, hch, hR5.mono (by omega), ⟨HFR.out.os.trans HBL.out.os, HFR.out.tape.trans HBL.out.tape, HFR.out.output.trans HBL.out.output, Nat.le_trans HBL.out.size HFR.out.size, fun g hg => (HFR.out.block g (by omega) (by omega) ⟨by simp [Value.ownBlock], by simp⟩ (by simp [Value.ownBlock])).trans (HBL.out.block g hg)⟩⟩

end Go.Proofs.Ytkmkdfogpdndoaa
