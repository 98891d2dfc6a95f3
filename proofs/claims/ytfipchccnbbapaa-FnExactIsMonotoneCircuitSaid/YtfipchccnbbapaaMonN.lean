/- The walk of the program's neededGates: a range over a function. -/
import Derived.Test.YtfipchccnbbapaaMonR
import Derived.Maps.AppendAt
namespace Go.Proofs.Ytfipchccnbbapaa
open Go.RowKit Go.Shelf
set_option linter.unusedVariables false
attribute [local go_sem] Oper.semAt_some

/-- one round: the gates needed so far, the places seen -/
def stepS (gs : List GateL) (s : List Bool × List Int) (i : Nat) : List Bool × List Int := if s.1.getD i false = true then (mkB s.1 (inputsG (gateAt gs i)), s.2 ++ [(i : Int)]) else s
def stS (gs : List GateL) (n : Nat) (pre : List (Pl n)) : List Bool × List Int := pre.foldl (fun s x => stepS gs s x.1) (need0 n, [])
theorem stS_snoc (gs : List GateL) (n : Nat) (pre : List (Pl n)) (x : Pl n) : stS gs n (pre ++ [x]) = stepS gs (stS gs n pre) x.1 := by simp [stS, List.foldl_append]
theorem stepS_len (gs : List GateL) (s : List Bool × List Int) (i : Nat) : (stepS gs s i).1.length = s.1.length ∧ (stepS gs s i).2.length ≤ s.2.length + 1 := by
  unfold stepS
  split
  · exact ⟨mkB_len _ _, by simp⟩
  · exact ⟨rfl, by omega⟩
theorem foldS_len (gs : List GateL) {n : Nat} : ∀ (pre : List (Pl n)) (s : List Bool × List Int), (pre.foldl (fun s x => stepS gs s x.1) s).1.length = s.1.length ∧ (pre.foldl (fun s x => stepS gs s x.1) s).2.length ≤ s.2.length + pre.length
  | [], s => ⟨rfl, by simp⟩
  | x :: r, s => by
    have h1 := foldS_len gs r (stepS gs s x.1)
    have h2 := stepS_len gs s x.1
    simp only [List.foldl_cons, List.length_cons]
    exact ⟨h1.1.trans h2.1, by omega⟩
theorem stS_len (gs : List GateL) (n : Nat) (pre : List (Pl n)) : (stS gs n pre).1.length = n ∧ (stS gs n pre).2.length ≤ pre.length := by
  have := foldS_len gs pre (need0 n, [])
  exact ⟨by rw [stS, this.1]; simp [need0], by have := this.2; simpa [stS] using this⟩

theorem blkNR {W : World} {B : Nat} {t e : TypeId} {cs : Array Value} (h : Blk W B t cs) (hte : t ≠ e) {base size k : Nat} {v : Value} {xs : List Value} (hr : W.ownsRow base e size v k xs) : some B ≠ v.ownBlock := by
  rcases hr.2 with ⟨rfl, _⟩ | ⟨g, cap, cur, rfl, _, hh, _⟩
  · simp [Value.ownBlock]
  · intro e2
    obtain rfl : B = g := by simpa [Value.ownBlock] using e2
    have h' : W.heap[B]? = some (.cells cs t (0, 0)) := h
    rw [h'] at hh
    injection hh with e3
    injection e3 with _ e4
    exact hte e4
theorem blkG {W W' : World} {row : Option Nat} {B : Nat} {t : TypeId} {cs : Array Value} (h : Blk W B t cs) (hg : W.grownBy W' row) (hne : some B ≠ row) : Blk W' B t cs := (hg.block B h.lt hne).trans h
theorem blk3 {W : World} {B : Nat} {t : TypeId} {p q r : Value} (h : Blk W B t #[p, q, r]) : W.cell? ⟨B, 0, none⟩ = some p ∧ W.cell? ⟨B, 1, none⟩ = some q ∧ W.cell? ⟨B, 2, none⟩ = some r :=
  ⟨by simpa using h.cell 0, by simpa using h.cell 1, by simpa using h.cell 2⟩
theorem blk_kept {W W' : World} {row : Option Nat} {B : Nat} {t : TypeId} {cs : Array Value} (h : Blk W B t cs) (hg : W.grownBy W' row) (hr : ∀ r, row = some r → ∃ o : Obj, W.heap[r]? = some o ∧ o.isCells = false) : Blk W' B t cs := by
  refine (hg.block B h.lt fun e => ?_).trans h
  obtain ⟨o, ho, hc⟩ := hr B e.symm
  have hB : W.heap[B]? = some (.cells cs t (0, 0)) := h
  rw [hB] at ho
  obtain rfl := Option.some.inj ho
  cases hc
theorem fints_putObj {lo hi : Nat} {W : World} {v : Value} {zs : List Int} {l : Nat} {o o' : Obj} (h : FInts lo hi W v zs) (hl : W.heap[l]? = some o) (ho : o.isCells = false) : FInts lo hi (W.putObj l o') v zs := by
  obtain ⟨A, c, e, h1, h2, h3⟩ := h
  refine ⟨A, c, e, h1, h2, h3.keep fun b u j _ _ hu => (grownBy_putObj' W l o').block b (World.block_lt_of_cell? _ _ hu) fun e => ?_⟩
  obtain rfl : b = l := Option.some.inj e
  unfold World.cell? at hu
  simp only [hl] at hu
  cases o <;> simp [Obj.isCells] at ho <;> simp at hu

set_option maxRecDepth 100000 in
set_option maxHeartbeats 4000000 in
theorem needed_in (N : Nat) (hN : 8 ≤ N) (vars : Int) (gs : List GateL) (b off n cap : Nat) (w : World) (hn : gs.length = n) (hg : circB vars gs = true) (hb : b < w.heap.size) (hG : GatesAt w b off gs) (hcap : n ≤ cap ∧ cap ≤ maxLen) :
    CallsIn Fence.wide N Try.prog 63 #[.slice (some ⟨b, off, none⟩) n cap] w fun e W' => ∃ v, e = .returned v ∧ Ints W'.heap.size W' v (stS gs n (downto n n (Nat.le_refl n))).2.reverse ∧ Below w.heap.size w W' := by
  have h1 : 1 ≤ N := by omega
  obtain ⟨F, hFF⟩ : ∃ F, F = Fence.wide := ⟨_, rfl⟩
  have hro : F.round = none := by rw [hFF]; rfl
  have hF : ∀ f, F.fn f := fun f => by rw [hFF]; trivial
  rw [← hFF]
  have HW : ∀ (N : Nat) (f : FuncId) (args : Array Value) (W : World) (R : Ending → World → Prop), Calls Try.prog f args W R → CallsIn F N Try.prog f args W R := fun N f args W R h => by rw [hFF]; exact callsIn_wide.2 h
  clear hFF
  obtain ⟨i0, hi0, hz0, hz1, hz2⟩ := info_parts int_info
  obtain ⟨_, hl1, hl2, hgs⟩ := circ_parts hg
  have HG := hide hgs
  rw [hn] at hl1 hl2
  obtain ⟨cs, hcs⟩ : ∃ cs, (bc (List.replicate n false)).toArray = cs := ⟨_, rfl⟩
  have hmk := fun W => run_make_bools n (by omega) W
  rw [hcs] at hmk
  have hw1 : IntKind.i64.wrap ((n : Int) - 1) = ((n - 1 : Nat) : Int) := by rw [IntKind.wrap_i64]; omega
  have hlt0 : ((n - 1 : Nat) : Int) < (n : Int) := by omega
  have h00 : (0 : Int) ≤ ((n - 1 : Nat) : Int) := by omega
  have hcz : n - 1 < cs.size := by rw [← hcs]; simp; omega
  clear hgs
  refine callsIn_of_wp_marks Try.func63 rfl (hF _) ?_ hro
  simp only [Try.ntmps63, List.size_toArray, List.length_cons, List.length_nil, Nat.reduceAdd, Nat.reduceSub, Array.replicate_succ, Array.replicate_zero, List.push_toArray, List.append_toArray, List.nil_append, List.cons_append]
  gi_wp2_with (gi_at_call 66; refine (bwd_in F (N - 1) (hF _) hro _ _ _ _).mono ?_; rintro e w' ⟨rfl, rfl⟩)
  obtain ⟨w3, hw3⟩ : ∃ w3, w3 = ((((w.alloc (.cells (cs.setIfInBounds (n - 1) (.bool true)) 4)).alloc (.cells #[.slice (some ⟨w.heap.size, 0, none⟩) n n] 61)).alloc (.cells #[.slice none 0 0] 51)).alloc (.cells #[.slice (some ⟨b, off, none⟩) n cap] 25)) := ⟨_, rfl⟩
  rw [← hw3]
  have hs3 : w3.heap.size = w.heap.size + 1 + 1 + 1 + 1 := by rw [hw3]; simp
  have q1 := (Below.refl w.heap.size w).alloc (Nat.le_refl _) (.cells (cs.setIfInBounds (n - 1) (.bool true)) 4)
  have q2 := q1.alloc q1.size (.cells #[.slice (some ⟨w.heap.size, 0, none⟩) n n] 61)
  have q3 := q2.alloc q2.size (.cells #[.slice none 0 0] 51)
  have hB3 : Below w.heap.size w w3 := by rw [hw3]; exact q3.alloc q3.size _
  clear q1 q2 q3
  have kI : Blk w3 w.heap.size 4 (bc (need0 n)).toArray := by
    have := (((Blk.new w 4 (cs.setIfInBounds (n - 1) (.bool true))).alloc (.cells #[.slice (some ⟨w.heap.size, 0, none⟩) n n] 61)).alloc (.cells #[.slice none 0 0] 51)).alloc (.cells #[.slice (some ⟨b, off, none⟩) n cap] 25)
    rw [← hw3, ← hcs, bc_setM] at this
    exact this
  have kS : Blk w3 (w.heap.size + 1) 61 #[.slice (some ⟨w.heap.size, 0, none⟩) n n] := by
    have := ((Blk.new (w.alloc (.cells (cs.setIfInBounds (n - 1) (.bool true)) 4)) 61 #[.slice (some ⟨w.heap.size, 0, none⟩) n n]).alloc (.cells #[.slice none 0 0] 51)).alloc (.cells #[.slice (some ⟨b, off, none⟩) n cap] 25)
    rw [← hw3] at this
    simpa using this
  have kO : Boxed w3 (w.heap.size + 1 + 1) 51 (.slice none 0 0) := by
    have := (Boxed.new ((w.alloc (.cells (cs.setIfInBounds (n - 1) (.bool true)) 4)).alloc (.cells #[.slice (some ⟨w.heap.size, 0, none⟩) n n] 61)) 51 (.slice none 0 0)).alloc (.cells #[.slice (some ⟨b, off, none⟩) n cap] 25)
    rw [← hw3] at this
    simpa using this
  have kN : Blk w3 (w.heap.size + 1 + 1 + 1) 25 #[.slice (some ⟨b, off, none⟩) n cap] := by
    have := (Blk.new (((w.alloc (.cells (cs.setIfInBounds (n - 1) (.bool true)) 4)).alloc (.cells #[.slice (some ⟨w.heap.size, 0, none⟩) n n] 61)).alloc (.cells #[.slice none 0 0] 51)) 25 #[.slice (some ⟨b, off, none⟩) n cap])
    rw [← hw3] at this
    simpa using this
  have hG3 := hG.below hB3 hb
  clear hw3 hmk hcz hcs
  refine wpIn_rangeFunc_ownH hro h1 (gf := 68) (lb := #[.pointer (some ⟨w.heap.size + 1 + 1 + 1, 0, none⟩)]) rfl (hF _) (enters_of Try.func68 (by kernel_rfl) rfl)
    (bwd_stops F (N - 1) (hF _) hro (by omega) (w.heap.size + 1 + 1 + 1) w.heap.size b off n cap gs hn hl2 w3 (by omega) (by omega) hb (by simpa using kN.cell 0) hG3) kpB_t (kpB_b (by omega)) (Below.refl _ _) (fun _ => rfl)
    (fun pre W => (Blk W w.heap.size 4 (bc (stS gs n pre).1).toArray ∧ Blk W (w.heap.size + 1) 61 #[.slice (some ⟨w.heap.size, 0, none⟩) n n] ∧ Blk W (w.heap.size + 1 + 1 + 1) 25 #[.slice (some ⟨b, off, none⟩) n cap]) ∧ (∃ v, Boxed W (w.heap.size + 1 + 1) 51 v ∧ W.ownsRow w.heap.size 3 1 v (stS gs n pre).2.length (ic (stS gs n pre).2) ∧ True) ∧ Below w.heap.size w W ∧ w3.heap.size ≤ W.heap.size)
    (fun _ _ _ => False)
    (OwnFrom.and (Own.from (fun s A B row hs hg hr => ⟨blk_kept hs.1 hg hr, blk_kept hs.2.1 hg hr, blk_kept hs.2.2 hg hr⟩) _) (OwnFrom.and (Own.from (holdsRow_own w.heap.size (w.heap.size + 1 + 1) 51 3 1 (fun pre => (stS gs n pre).2.length) (fun pre => ic (stS gs n pre).2) (fun _ _ => True)) _) (OwnFrom.and (ownFrom_below (Nat.le_refl _) (by omega)) (fun s A B row hs hg hr => Nat.le_trans hs hg.size))))
    (fun _ _ _ _ _ hs _ _ => hs)
    ⟨⟨kI, kS, kN⟩, ⟨_, kO, World.ownsRow_nil _ _ _ _, trivial⟩, hB3, Nat.le_refl _⟩
    (fun x a' W => ∃ Bx, w3.heap.size ≤ Bx ∧ Blk W Bx 44 #[.int .i64 (gateAt gs x.1).1, .int .i64 (gateAt gs x.1).2.1, .int .i64 (gateAt gs x.1).2.2] ∧ a' = { tmps := #[.slice (some ⟨b, off, none⟩) n cap, undef, .slice none 0 0, .pointer (some ⟨w.heap.size + 1, 0, none⟩), .pointer (some ⟨w.heap.size + 1 + 1, 0, none⟩), .int .i64 (x.1 : Int), .pointer (some ⟨Bx, 0, none⟩), undef, undef, .slice (some ⟨b, off, none⟩) n cap, .int .i64 n, .slice (some ⟨w.heap.size, 0, none⟩) n n, .slice (some ⟨w.heap.size, 0, none⟩) n n, .slice (some ⟨b, off, none⟩) n cap, .int .i64 n, .int .i64 ((n - 1 : Nat) : Int), .pointer (some ⟨w.heap.size, n - 1, none⟩), .slice (some ⟨b, off, none⟩) n cap, .func (.func 68) #[] #[.pointer (some ⟨w.heap.size + 1 + 1 + 1, 0, none⟩)], .int .i64 (x.1 : Int), .agg #[.int .i64 (gateAt gs x.1).1, .int .i64 (gateAt gs x.1).2.1, .int .i64 (gateAt gs x.1).2.2], undef, undef, undef, undef, undef, undef, undef, undef, undef, undef, undef, undef, undef, undef, undef, undef, undef, undef, undef, undef, undef, undef, undef], defers := [] })
    (fun x a' s A B row hs hg hr => by obtain ⟨Bx, h1, h2, h3⟩ := hs; exact ⟨Bx, h1, blk_kept h2 hg (fun r e => (hr r e).2), h3⟩) ?assign ?body ?done ?stop
  case assign =>
    rintro l pre x W K ⟨⟨hi1, hi2, hi3⟩, ⟨v, hv, hrow, -⟩, hB, hsz⟩ hK
    dsimp only [gv]
    gi_wp2
    exact hK _ _ ((KeepsOthers.alloc _ _).from _) ⟨(Below.refl _ W).alloc hB.size _, fun u hu => (World.cell?_of_block (Below.heap_alloc W _ _ (World.block_lt_of_cell? _ _ hu))).trans hu⟩ ⟨⟨hi1.alloc _, hi2.alloc _, hi3.alloc _⟩, ⟨v, hv.alloc _, hrow.alloc _, trivial⟩, hB.alloc hB.size _, by simp; omega⟩ ⟨W.heap.size, hsz, Blk.new W _ _, rfl⟩
  case body =>
    rintro l pre x a' W hl ⟨r, hr⟩ ⟨⟨hi1, hi2, hi3⟩, ⟨v, hv, hrow, -⟩, hB, hsz⟩ ⟨Bx, hBx, hbx, rfl⟩ hlt
    obtain ⟨m, hm⟩ := x
    dsimp only at hbx ⊢
    obtain ⟨⟨bs, out⟩, hst⟩ : ∃ s, stS gs n pre = s := ⟨_, rfl⟩
    have hlen := stS_len gs n pre
    rw [hst] at hi1 hrow hlen
    dsimp only at hi1 hrow hlen
    have zI : W.cell? ⟨w.heap.size, m, none⟩ = some (.bool (bs.getD m false)) := by rw [hi1.cell, bc_get (by omega)]
    have zS : W.cell? ⟨w.heap.size + 1, 0, none⟩ = some (.slice (some ⟨w.heap.size, 0, none⟩) n n) := by simpa using hi2.cell 0
    have m0 : (0 : Int) ≤ (m : Int) := by omega
    have m1 : (m : Int) < (n : Int) := by omega
    cases hbm : bs.getD m false with
    | false =>
      rw [hbm] at zI
      have hst2 : stS gs n (pre ++ [⟨m, hm⟩]) = (bs, out) := by rw [stS_snoc, hst, stepS, if_neg (by rw [hbm]; simp)]
      gi_wp2
      exact ⟨KeepsFrom.refl _ _, KpB.refl _ _ _, ⟨by rw [hst2]; exact hi1, hi2, hi3⟩, ⟨v, hv, by rw [hst2]; exact hrow, trivial⟩, hB, hsz⟩
    | true =>
      rw [hbm] at zI
      have hc := hv.cell
      have hgi := HG.out m (gateAt gs m) (by unfold gateAt; rw [List.getD_eq_getElem?_getD, List.getElem?_eq_getElem (by omega)]; rfl)
      have hst2 : stS gs n (pre ++ [⟨m, hm⟩]) = (mkB bs (inputsG (gateAt gs m)), out ++ [(m : Int)]) := by rw [stS_snoc, hst, stepS, if_pos hbm]
      obtain ⟨ga, hga⟩ : ∃ ga, gateAt gs m = ga := ⟨_, rfl⟩
      rw [hga] at hbx hgi hst2
      obtain ⟨p0, p1, p2⟩ := ga
      dsimp only at hbx
      gi_wp2_with (gi_at_builtin; refine wpListIn_append_own _ rfl _ _ 51 rfl w.heap.size 3 i0 (.int .i64 0) 1 8 Try.underlying51 hi0 hz0 hz1 hz2 rfl (by decide) _ _ _ rfl (hrow.alloc _) ⟨W.heap.size, 0, none⟩ 1 1 [.int .i64 (m : Int)] rfl rfl (cell_one_new _ _ _) (by simp [Value.oneCell']) (by unfold maxLen; omega) (by omega) (by have := hB.size; simp; omega) ?_; intro v' w1 hown' hgrow _; obtain ⟨g', cap', rfl⟩ := ownsRow_succ hown'; obtain ⟨hv1, hv2, hr2, hk2, hb2⟩ := hv.appended (by decide) hrow hB.size (by omega) hown' hgrow; have hc1 := hv1.cell; have hf1 := hv1.frozen; have kI := (blkG (hi1.alloc (.cells #[.int .i64 (m : Int)] 3)) hgrow (blkNR hi1 (by decide) hrow)).far (p := ⟨w.heap.size + 1 + 1, 0, none⟩) (show w.heap.size ≠ w.heap.size + 1 + 1 by omega) (.slice (some ⟨g', 0, none⟩) (out.length + 1) cap'); have kS := (blkG (hi2.alloc (.cells #[.int .i64 (m : Int)] 3)) hgrow (blkNR hi2 (by decide) hrow)).far (p := ⟨w.heap.size + 1 + 1, 0, none⟩) (show w.heap.size + 1 ≠ w.heap.size + 1 + 1 by omega) (.slice (some ⟨g', 0, none⟩) (out.length + 1) cap'); have kN := (blkG (hi3.alloc (.cells #[.int .i64 (m : Int)] 3)) hgrow (blkNR hi3 (by decide) hrow)).far (p := ⟨w.heap.size + 1 + 1, 0, none⟩) (show w.heap.size + 1 + 1 + 1 ≠ w.heap.size + 1 + 1 by omega) (.slice (some ⟨g', 0, none⟩) (out.length + 1) cap'); have kX := (blkG (hbx.alloc (.cells #[.int .i64 (m : Int)] 3)) hgrow (blkNR hbx (by decide) hrow)).far (p := ⟨w.heap.size + 1 + 1, 0, none⟩) (show Bx ≠ w.heap.size + 1 + 1 by omega) (.slice (some ⟨g', 0, none⟩) (out.length + 1) cap'); obtain ⟨x0, x1, x2⟩ := blk3 kX)
      obtain ⟨W2, hW2⟩ : ∃ W2, W2 = w1.setCell ⟨w.heap.size + 1 + 1, 0, none⟩ (.slice (some ⟨g', 0, none⟩) (out.length + 1) cap') := ⟨_, rfl⟩
      rw [← hW2] at hv2 hr2 hk2 hb2 kI kS kN kX ⊢
      refine ⟨fun _ => by omega, (CallsIn.inRound l (HW _ _ _ _ _ (i_inputs (p0, p1, p2) _ hgi))).mono ?_⟩
      rintro e w2 ⟨v2, rfl, hins, hbc, hob⟩
      have HIN := hide (inputs_in hgi)
      obtain ⟨ins, hinse⟩ : ∃ ins, inputsG (p0, p1, p2) = ins := ⟨_, rfl⟩
      rw [hinse] at hins hst2 HIN
      have hv3 : Boxed w2 (w.heap.size + 1 + 1) 51 (.slice (some ⟨g', 0, none⟩) (out.length + 1) cap') := (hbc.block _ hv2.lt).trans hv2
      have hr3 := ownsRow_below hr2 hbc
      have kI3 := kI.below hbc kI.lt
      have kS3 := kS.below hbc kS.lt
      have kN3 := kN.below hbc kN.lt
      have hszW := hb2.size
      have hszc := hbc.size
      have HKF := hide (KeepsFrom.trans (hk2.from w3.heap.size) (KeepsFrom.of_grownBy (B := w3.heap.size) (row := none) ⟨hbc.os, hbc.tape, hbc.output, hbc.size, fun k hk _ => hbc.block k hk⟩ (fun j e => by cases e)))
      have HBW := hide (hb2.trans (hbc.mono (show w.heap.size ≤ W2.heap.size by omega)))
      have HI3 := hide hi3
      have HB := hide hB
      have HV3 := hide hv3
      have HR3 := hide hr3
      have HI := hide kI3
      have HS := hide kS3
      have HNN := hide kN3
      have HST2 := hide hst2
      have HBL := hide hlen.1
      obtain ⟨A3, c3, rfl, hc3, hm3, hrow3⟩ := id hins
      unfold maxLen at hm3
      have HROW3 := hide hrow3
      have HOB := hide hob
      have HSZ := hide hsz
      have HGW := hide (show w.heap.size < W2.heap.size from kI.lt)
      clear hv2 hr2 hk2 hb2 kI kS kN kX hW2 hv3 hr3 kI3 kS3 kN3 hi1 hi2 hi3 hrow hv hc hc1 hf1 hv1 hown' hgrow hbc hbx zI zS x0 x1 x2 hst hst2 hinse hins hrow3 hob hgi hB hga hlen
      gi_wp2
      gi_loopw [33] (fun i wr => ∃ (j : Nat) (cs : List Bool), j ≤ ins.length ∧ i = .int .i64 j ∧ Hid (cs.length = n) ∧ Hid (mkB bs ins = mkB cs (ins.drop j)) ∧ Hid (Blk wr w.heap.size 4 (bc cs).toArray) ∧ Hid (w2.grownBy wr (some w.heap.size))) (fun i _ => ins.length - (intOf i).toNat)
      case atStart => exact ⟨0, bs, Nat.zero_le _, rfl, HBL.out, hide rfl, HI.out, grown_refl _ _⟩
      case round =>
        obtain ⟨j, cs, hj, rfl, hcl, hmk2, hbk, hgr⟩ := hrel
        have kS4 := (hgr.out.block _ HS.out.lt (by simp)).trans HS.out
        have zS : wr.cell? ⟨w.heap.size + 1, 0, none⟩ = some (.slice (some ⟨w.heap.size, 0, none⟩) n n) := by
          have : Blk wr (w.heap.size + 1) 61 #[.slice (some ⟨w.heap.size, 0, none⟩) n n] := kS4
          simpa using this.cell 0
        by_cases hjl : j < ins.length
        · obtain ⟨b3, off3, y, rfl, hxj, hcx⟩ := HROW3.out.int hjl
          have hb3 := HOB.out b3 rfl
          have hgw := HGW.out
          replace hcx := (World.cell?_of_block (hgr.out.block b3 (World.block_lt_of_cell? _ _ hcx) (by simp; omega))).trans hcx
          have hxi := HIN.out y (List.mem_of_getElem? (get_of_drop hxj))
          obtain ⟨q, rfl⟩ : ∃ q : Nat, y = (q : Int) := ⟨y.toNat, by omega⟩
          have hbkk := hbk.out
          have zm : wr.cell? ⟨w.heap.size, q, none⟩ = some (.bool (cs.getD q false)) := by rw [hbkk.cell, bc_get (by rw [hcl.out]; omega)]
          have zf := hbkk.frozen q
          have hnew := hbkk.set_ q (.bool true)
          rw [bc_setM] at hnew
          have HNW := hide hnew
          have HFF := hide (show mkB bs ins = mkB (cs.set q true) (ins.drop (j + 1)) by rw [hmk2.out, hxj, mkB]; rfl)
          have HC1 := hide (show (cs.set q true).length = n by rw [List.length_set, hcl.out])
          have HE := hide (grown_setCell hgr.out q (.bool true))
          have q0 : (0 : Int) ≤ (q : Int) := by omega
          have q1 : (q : Int) < (n : Int) := by omega
          have q2 : (j : Int) < (ins.length : Int) := by omega
          clear hxj hxi hmk2 hbkk hnew hbk hgr hcl kS4
          gi_wp2
          go_roundw
          case rel => exact ⟨j + 1, _, by omega, by go_num, HC1.out, HFF.out, HNW.out, HE.out⟩
          case measure => (simp [intOf] <;> omega)
        · obtain rfl : j = ins.length := by omega
          have hfin : mkB bs ins = cs := by rw [hmk2.out, List.drop_length]; rfl
          have hgw := HGW.out
          have hrB : Below w.heap.size w2 wr := ⟨hgr.out.os, hgr.out.tape, hgr.out.output, hgr.out.size, fun k hk => hgr.out.block k (by omega) (by simp; omega)⟩
          have kN4 : Blk wr (w.heap.size + 1 + 1 + 1) 25 #[.slice (some ⟨b, off, none⟩) n cap] := (hgr.out.block _ HNN.out.lt (by simp; omega)).trans HNN.out
          have kV4 : Boxed wr (w.heap.size + 1 + 1) 51 (.slice (some ⟨g', 0, none⟩) (out.length + 1) cap') := (hgr.out.block _ HV3.out.lt (by simp; omega)).trans HV3.out
          have kR4 := World.ownsRow.kept HR3.out hgr.out (.inr (blkNR HI.out (by decide) HR3.out).symm)
          have hI1 : Blk wr w.heap.size 4 (bc (stS gs n (pre ++ [⟨m, hm⟩])).1).toArray := by rw [HST2.out]; dsimp only; rw [hfin]; exact hbk.out
          have hI2 : wr.ownsRow w.heap.size 3 1 (.slice (some ⟨g', 0, none⟩) (out.length + 1) cap') (stS gs n (pre ++ [⟨m, hm⟩])).2.length (ic (stS gs n (pre ++ [⟨m, hm⟩])).2) := by rw [HST2.out]; simpa [ic] using kR4
          have hKF := KeepsFrom.trans HKF.out (KeepsFrom.of_grownBy hgr.out (fun j e => by cases e; show w.heap.size < w3.heap.size; omega))
          have hKB : KpB w.heap.size (w.heap.size + 1 + 1 + 1) W wr := ⟨HBW.out.trans hrB, fun u hu => by
            have e1 := HI3.out.cell 0
            rw [hu] at e1
            have e2 := kN4.cell 0
            rw [e2, ← e1]⟩
          have hB5 := HB.out.trans (HBW.out.trans hrB)
          have hs5 : w3.heap.size ≤ wr.heap.size := by have := HSZ.out; have := hgr.out.size; omega
          clear hmk2 hbk hgr hcl hrB kR4 zS
          gi_wp2
          exact ⟨hKF, hKB, ⟨hI1, kS4, kN4⟩, ⟨_, kV4, hI2, trivial⟩, hB5, hs5⟩
  case done =>
    rintro D ys W hD rfl ⟨⟨hi1, hi2, hi3⟩, ⟨v, hv, hrow, -⟩, hB, hsz⟩ hK
    have hc := hv.cell
    gi_wp2
    refine (HW _ _ _ _ _ (g_Reverse v _ W hrow)).mono ?_
    rintro e W2 ⟨rfl, hf, hgr⟩
    have hv2 : Boxed W2 (w.heap.size + 1 + 1) 51 v := (hgr.block _ hv.lt (blkNR hv (by decide) hrow)).trans hv
    have hc2 := hv2.cell
    have hK2 : W2.heap[D]? = some (.deferred (some [])) := by
      refine (hgr.block D ?_ ?_).trans hK
      · rcases Nat.lt_or_ge D W.heap.size with hlt | hge
        · exact hlt
        · rw [Array.getElem?_eq_none hge] at hK; cases hK
      · rcases hrow.2 with ⟨rfl, _⟩ | ⟨g, cap, cur, rfl, _, hh, _⟩
        · simp [Value.ownBlock]
        · intro e2
          obtain rfl : D = g := by simpa [Value.ownBlock] using e2
          rw [hK] at hh
          cases hh
    have hB2 : Below w.heap.size w W2 := hB.trans ⟨hgr.os, hgr.tape, hgr.output, hgr.size, fun k hk => hgr.block k (by have := hB.size; omega) (by
      rcases hrow.2 with ⟨rfl, _⟩ | ⟨g, cap, cur, rfl, hle, _⟩
      · simp [Value.ownBlock]
      · intro e2
        obtain rfl : k = g := by simpa [Value.ownBlock] using e2
        omega)⟩
    gi_wp2
    refine ⟨by simp, .inl ⟨_, _, rfl, run_takeDeferred hK2, ?_⟩⟩
    refine ⟨_, results_tmp rfl _ _ _, _, rfl, (fints_putObj hf hK2 rfl).ints.mono (grownBy_putObj' W2 D (.deferred none)).size, ?_⟩
    exact hB2.trans (belowK_b (Nat.le_refl _) _ _ _ _ (by omega) hK2 rfl rfl)
  case stop =>
    rintro D c pre W _ _ h _
    exact h.elim

end Go.Proofs.Ytfipchccnbbapaa
