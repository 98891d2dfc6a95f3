/- The walk of the closure of choices, by recursion. -/
import Derived.Test.YtkmkdfogpdndoaaLeastI
import Derived.Deep.DeepAppendRoom
import Derived.Deep.AppendLies
namespace Go.Proofs.Ytkmkdfogpdndoaa
open Go.RowKit
set_option linter.unusedVariables false

theorem run_int1 {ty base : Nat} {v : Value} {zs : List Int} {W : World} (hown : OwnI base W v zs) (hb : base ≤ W.heap.size) {H : Nat} {y : Int} (hc0 : W.cell? ⟨H, 0, none⟩ = some (.int .i64 y)) (hn : zs.length ≤ 1048576) :
    ∃ g cap w', (Builtin.append_ #[25, 25] ty #[v, .slice (some ⟨H, 0, none⟩) 1 1]).run Try.prog W = .ok (.slice (some ⟨g, 0, none⟩) (zs.length + 1) cap) w' ∧ OwnI base w' (.slice (some ⟨g, 0, none⟩) (zs.length + 1) cap) (zs ++ [y]) ∧ W.grownBy w' v.ownBlock ∧ (v = .slice (some ⟨g, 0, none⟩) zs.length cap ∨ (g = W.heap.size ∧ W.grownBy w' none)) := by
  obtain ⟨i0, hi, hz0, hz1, hz2⟩ := info_parts int_info
  have hnews : ∀ (j : Nat) (u : Value), [Value.int .i64 y][j]? = some u → W.cell? ((⟨H, 0, none⟩ : Addr).add j) = some u := by
    intro j u hj
    match j, hj with
    | 0, hj => simp at hj; subst hj; simpa [Addr.add] using hc0
  have h1 : ∀ u ∈ [Value.int .i64 y], u.oneCell' = true := by intro u hu; simp at hu; subst hu; rfl
  obtain ⟨g, cap, w', hr, h2, h3, h4, _⟩ := run_append_lies (P := Try.prog) W 25 ty base 3 i0 (.int .i64 0) 1 8 Try.underlying25 hi hz0 hz1 hz2 rfl (by decide) v zs.length (ic zs) hown ⟨H, 0, none⟩ 1 1 [.int .i64 y] rfl hnews h1 (by decide) (by unfold maxLen; omega) (by omega) hb W.heap.size rfl
  have hO : OwnI base w' (.slice (some ⟨g, 0, none⟩) (zs.length + 1) cap) (zs ++ [y]) := by unfold OwnI; simpa [ic] using h2
  by_cases hroom : ∃ g0 c0, v = .slice (some ⟨g0, 0, none⟩) zs.length c0 ∧ zs.length + 1 ≤ c0
  · obtain ⟨g0, c0, rfl, hr0⟩ := hroom
    obtain ⟨w2, hr2, _, _⟩ := run_append_own_spare (P := Try.prog) W base 25 ty 3 i0 1 Try.underlying25 hi hz1 g0 zs.length c0 (ic zs) hown ⟨H, 0, none⟩ 1 1 [.int .i64 y] rfl hnews h1 hr0
    have he := hr.symm.trans hr2
    injection he with e1 e2
    injection e1 with e3 e4 e5
    injection e3 with e3
    injection e3 with e3
    subst e3 e5 e2
    exact ⟨g, cap, w', hr, hO, h3, .inl rfl⟩
  · rcases hown.2 with ⟨rfl, h0⟩ | ⟨g0, c0, cur, rfl, hl, hh, hnc, hcm, hcs, htk⟩
    · refine ⟨g, cap, w', hr, hO, h3, .inr ?_⟩
      rcases h4 with h4 | h4
      · simp [Value.ownBlock] at h4
      · exact ⟨h4, h3⟩
    · have hg : c0 < zs.length + 1 := by
        rcases Nat.lt_or_ge c0 (zs.length + 1) with h | h
        · exact h
        · exact absurd ⟨g0, c0, rfl, h⟩ hroom
      have hr2 := run_append_grow (P := Try.prog) W 25 ty 3 i0 (.int .i64 0) Try.underlying25 hi hz0 ⟨g0, 0, none⟩ zs.length c0 (ic zs) (by rw [hz1]; simp) (World.ownsRow.cells hown rfl) ⟨H, 0, none⟩ 1 1 [.int .i64 y] (by rw [hz1]; rfl) hnews hg (by omega) (by rw [hz2]; exact growslice_fits (by omega) (by omega))
      have he := hr.symm.trans hr2
      injection he with e1 e2
      injection e1 with e3 e4 e5
      injection e3 with e3
      injection e3 with e3
      refine ⟨g, cap, w', hr, hO, h3, .inr ⟨e3, ?_⟩⟩
      rw [e2]
      exact ⟨rfl, rfl, rfl, by simp, fun k hk _ => heap_alloc_old W.drew _ hk⟩

/-- append of one number: the answer's block is the old one, of the same capacity, or a new one -/
theorem step_int1 {ops : Array Oper} {o : Oper} {a : Act} {K : Act → World → Prop} {Q : Exit → Act → World → Prop} {E : Prop} {W : World} (hgd : o.guard = none) (s x : Operand)
    (ho : o.op = .call { callee := .builtin .append, args := #[s, x], argTypes := #[25, 25] })
    (base : Nat) {v : Value} {zs : List Int} (hs : a.eval s = v) (wr : World) (hown : OwnI base wr v zs) (hbw : Below wr.heap.size wr W) (hb : base ≤ wr.heap.size)
    {H : Nat} (hx : a.eval x = .slice (some ⟨H, 0, none⟩) 1 1) {y : Int} (hc0 : W.cell? ⟨H, 0, none⟩ = some (.int .i64 y)) (hn : zs.length ≤ 1048576)
    (h : ∀ g cap w', OwnI base w' (.slice (some ⟨g, 0, none⟩) (zs.length + 1) cap) (zs ++ [y]) → W.grownBy w' v.ownBlock → (v = .slice (some ⟨g, 0, none⟩) zs.length cap ∨ (g = W.heap.size ∧ W.grownBy w' none)) → K (a.put o.dst (.slice (some ⟨g, 0, none⟩) (zs.length + 1) cap)) w') :
    if Region.wanted o (yielded ops a.tmps) = true then Oper.wp Try.prog o a W K Q else E := by
  have hw : Region.wanted o (yielded ops a.tmps) = true := by simp [Region.wanted, hgd]
  rw [if_pos hw]
  obtain ⟨g, cap, w', hr, h1, h2, h3⟩ := run_int1 (ty := o.type) (hown.below hbw) (Nat.le_trans hb hbw.size) hc0 hn
  unfold Oper.wp execOp
  simp only [ho, resolve, invoke, builtin, Sem.run_bind, Sem.run_pure, Result.andThen_ok, List.map_toArray, List.map_cons, List.map_nil, hs, hx, hr]
  exact h g cap w' h1 h2 h3
theorem ChFr.trans {tb : Nat} {w w1 w2 : World} {q q1 q2 v v2 : Value} {qs qs1 qs2 : List (Value × List Int)} (h : ChFr tb w w1 q qs q1 qs1 v) (h2 : ChFr tb w1 w2 q1 qs1 q2 qs2 v2) (hv : ∀ g, g < w.heap.size → v.ownBlock ≠ some g → v2.ownBlock ≠ some g) : ChFr tb w w2 q qs q2 qs2 v :=
  ⟨h2.os.trans h.os, h2.tape.trans h.tape, h2.output.trans h.output, Nat.le_trans h.size h2.size, fun g a b c d => (h2.block g (Nat.lt_of_lt_of_le a h.size) b (h.away g a c d) (hv g a d)).trans (h.block g a b c d), fun g a c d => h2.away g (Nat.lt_of_lt_of_le a h.size) (h.away g a c d) (hv g a d)⟩

theorem child_pre {base g4 c4 : Nat} {wr W w4 : World} {v q1 : Value} {R : List (Value × List Int)} {zs : List Int} (hW : Below wr.heap.size wr W) (hg : W.grownBy w4 v.ownBlock) (hor : v = .slice (some ⟨g4, 0, none⟩) zs.length c4 ∨ (g4 = W.heap.size ∧ W.grownBy w4 none)) (hR : FRT base wr q1 R) (hva : ∀ g, v.ownBlock = some g → NotAt g q1 R) :
    FRT base w4 q1 R ∧ (∀ g, (Value.slice (some ⟨g4, 0, none⟩) (zs.length + 1) c4).ownBlock = some g → NotAt g q1 R) ∧ wr.grownBy w4 v.ownBlock ∧ (v = .slice (some ⟨g4, 0, none⟩) zs.length c4 ∨ (wr.heap.size ≤ g4 ∧ wr.grownBy w4 none)) := by
  have hwg := below_grown_trans hW hg
  refine ⟨?_, ?_, hwg, hor.imp id (fun h => ⟨by have := hW.size; omega, below_grown_trans hW h.2⟩)⟩
  · cases hv : v.ownBlock with
    | none => rw [hv] at hwg; exact hR.below ⟨hwg.os, hwg.tape, hwg.output, hwg.size, fun i hi => hwg.block i hi (by simp)⟩
    | some gv => rw [hv] at hwg; exact hR.grown hwg (hva gv hv)
  · intro g e
    obtain rfl : g4 = g := by simpa [Value.ownBlock] using e
    rcases hor with h | h
    · exact hva _ (by rw [h]; rfl)
    · exact hR.notTop (by have := hW.size; omega)
theorem child_post {base tb g4 c4 : Nat} {wr w4 w' : World} {v q1 q2 : Value} {R R2 : List (Value × List Int)} {zs : List Int} {y : Int} (htb : tb < base) (hwg : wr.grownBy w4 v.ownBlock) (hor : v = .slice (some ⟨g4, 0, none⟩) zs.length c4 ∨ (wr.heap.size ≤ g4 ∧ wr.grownBy w4 none)) (hva : ∀ g, v.ownBlock = some g → NotAt g q1 R)
    (hF : ChFr tb w4 w' q1 R q2 R2 (.slice (some ⟨g4, 0, none⟩) (zs.length + 1) c4)) (hO4 : OwnI base w' (.slice (some ⟨g4, 0, none⟩) (zs.length + 1) c4) (zs ++ [y])) (hv4 : ∀ g, (Value.slice (some ⟨g4, 0, none⟩) (zs.length + 1) c4).ownBlock = some g → NotAt g q2 R2) (hO : OwnI base wr v zs) :
    ChFr tb wr w' q1 R q2 R2 v ∧ OwnI base w' v zs ∧ ∀ g, v.ownBlock = some g → NotAt g q2 R2 := by
  have hne : ∀ g, g < wr.heap.size → v.ownBlock ≠ some g → (Value.slice (some ⟨g4, 0, none⟩) (zs.length + 1) c4).ownBlock ≠ some g := by
    intro g hg hd e
    obtain rfl : g4 = g := by simpa [Value.ownBlock] using e
    rcases hor with h | h
    · exact hd (by rw [h]; rfl)
    · omega
  refine ⟨⟨hF.os.trans hwg.os, hF.tape.trans hwg.tape, hF.output.trans hwg.output, Nat.le_trans hwg.size hF.size, fun g a b c d => (hF.block g (Nat.lt_of_lt_of_le a hwg.size) b c (hne g a d)).trans (hwg.block g a (fun e => d e.symm)), fun g a c d => hF.away g (Nat.lt_of_lt_of_le a hwg.size) c (hne g a d)⟩, ?_, ?_⟩
  · rcases hO.2 with h0 | ⟨gv, cap, cur, rfl, hl, hh, hnc, hcm, hcs, htk⟩
    · exact ⟨hO.1, .inl h0⟩
    · rcases hor with h | ⟨h, hgn⟩
      · injection h with h1 h2 h3
        injection h1 with h1
        injection h1 with h1
        subst h1 h3
        rcases hO4.2 with ⟨h4, _⟩ | ⟨g', cap', cur', e', hl', hh', hnc', hcm', hcs', htk'⟩
        · cases h4
        · injection e' with e1 e2 e3
          injection e1 with e1
          injection e1 with e1
          subst e1 e3
          refine ⟨hO.1, .inr ⟨gv, cap, cur', rfl, hl', hh', hnc, hcm', hcs', ?_⟩⟩
          have h5 := congrArg (List.take zs.length) htk'
          rw [List.take_take] at h5
          simpa [ic] using h5
      · have hgl : gv < wr.heap.size := Blk.lt (t := 3) (cs := cur) hh
        refine ⟨hO.1, .inr ⟨gv, cap, cur, rfl, hl, ?_, hnc, hcm, hcs, htk⟩⟩
        rw [hF.block gv (Nat.lt_of_lt_of_le hgl hwg.size) (by omega) (hva gv rfl) (by intro e; have : g4 = gv := (by simpa [Value.ownBlock] using e); omega), hgn.block gv hgl (by simp)]
        exact hh
  · intro g e
    by_cases h4 : g4 = g
    · subst h4; exact hv4 _ rfl
    · have hgl : g < wr.heap.size := (World.ownsRow.lt hO g e).2
      exact hF.away g (Nat.lt_of_lt_of_le hgl hwg.size) (hva g e) (by intro e2; exact h4 (by simpa [Value.ownBlock] using e2))

set_option maxHeartbeats 1600000 in
set_option maxRecDepth 20000 in
theorem i_choose (n size tb lb sb nb fb lim base : Nat) (hlim2 : lim ≤ 4096) (hn12 : n ≤ 12) (hsz : size ≤ 12) (htb : tb < base) (hlb : lb < base) (hsb : sb < base) (hnb : nb < base) (hfb : fb < base) (hd : tb ≠ lb ∧ tb ≠ sb ∧ tb ≠ nb ∧ tb ≠ fb) : ∀ (m k : Nat) (v : Value) (zs : List Int) (q : Value) (qs : List (Value × List Int)) (w : World) (hm : zs.length + m = size) (h : OwnI base w v zs) (hva : ∀ g, v.ownBlock = some g → NotAt g q qs)
    (hB : Blk w tb 22 #[q]) (hR : FRT base w q qs) (hbs : base ≤ w.heap.size) (hl : w.cell? ⟨lb, 0, none⟩ = some (.int .i64 lim)) (hs : w.cell? ⟨sb, 0, none⟩ = some (.int .i64 size)) (hnn : w.cell? ⟨nb, 0, none⟩ = some (.int .i64 n))
    (hf : w.cell? ⟨fb, 0, none⟩ = some (.func (.func 136) #[] #[.pointer (some ⟨tb, 0, none⟩), .pointer (some ⟨lb, 0, none⟩), .pointer (some ⟨sb, 0, none⟩), .pointer (some ⟨nb, 0, none⟩), .pointer (some ⟨fb, 0, none⟩)]))
    (hcnt : qs.length + (chs (n + 1) m k).length ≤ lim) (hk1 : 1 ≤ k) (hk2 : k ≤ n + 1),
    Calls Try.prog 136 #[v, .int .i64 k, .pointer (some ⟨tb, 0, none⟩), .pointer (some ⟨lb, 0, none⟩), .pointer (some ⟨sb, 0, none⟩), .pointer (some ⟨nb, 0, none⟩), .pointer (some ⟨fb, 0, none⟩)] w fun e w' => ∃ q' rs, e = .returned (.tuple #[]) ∧ Blk w' tb 22 #[q'] ∧ FRT base w' q' (qs ++ rs) ∧ rs.map (·.2) = (chs (n + 1) m k).map (fun l => zs ++ castL l) ∧ ChFr tb w w' q qs q' (qs ++ rs) v ∧ OwnI base w' v zs ∧ ∀ g, v.ownBlock = some g → NotAt g q' (qs ++ rs) := by
  intro m
  induction m with
  | zero =>
    intro k v zs q qs w hm h hva hB hR hbs hl hs hnn hf hcnt hk1 hk2
    have hm' : zs.length = size := by omega
    rw [← hm'] at hs
    refine (i_choose0 v zs k tb lb sb nb fb lim q qs w h.fints.ints (by omega) hB hR (hR.notAt htb) htb hbs hl hs (by omega) hlim2).mono ?_
    rintro e w' ⟨q', u, rfl, hB', hR', hF⟩
    refine ⟨q', [(u, zs)], rfl, hB', hR', by simp [chs], ⟨hF.os, hF.tape, hF.output, hF.size, fun g h1 h2 h3 _ => hF.block g h1 h2 h3 (by simp [Value.ownBlock]), fun g h1 h2 _ => hF.away g h1 h2 (by simp [Value.ownBlock])⟩, ?_⟩
    refine ⟨⟨h.1, ?_⟩, fun g e => hF.away g (World.ownsRow.lt h g e).2 (hva g e) (by simp [Value.ownBlock])⟩
    rcases h.2 with h1 | ⟨g, cap, cur, e, hl', hh, hr⟩
    · exact .inl h1
    · refine .inr ⟨g, cap, cur, e, hl', ?_, hr⟩
      rw [hF.block g (Blk.lt (t := 3) (cs := cur) hh) (by omega) (hva g (by rw [e]; rfl)) (by simp [Value.ownBlock])]
      exact hh
  | succ m ih =>
    intro k v zs q qs w hm h hva hB hR hbs hl hs hnn hf hcnt hk1 hk2
    obtain ⟨A, c, rfl, hc, hmx, hrow⟩ := id h.fints
    unfold maxLen at hmx
    obtain ⟨Aq, cq, rfl⟩ := hR.open_
    have x0 : w.cell? ⟨tb, 0, none⟩ = some (.slice Aq qs.length cq) := by simpa using hB.cell 0
    have hlc : ¬ ((lim : Int) < (qs.length : Int)) := by omega
    have hne : ((zs.length : Int) == (size : Int)) = false := by simp; omega
    have HIH := hide ih
    have HO := hide h
    clear ih h hrow
    go_enter Try.func136, Try.ntmps136
    go_wp2_with fail
    go_loopw [9] (fun i wr => ∃ (j : Nat) (q' : Value) (rs : List (Value × List Int)), k ≤ j ∧ j ≤ n + 1 ∧ i = .int .i64 j ∧ Blk wr tb 22 #[q'] ∧ FRT base wr q' (qs ++ rs) ∧ Hid ((chs (n + 1) (m + 1) k).map (fun l => zs ++ castL l) = rs.map (·.2) ++ (chs (n + 1) (m + 1) j).map (fun l => zs ++ castL l)) ∧ ChFr tb w wr (.slice Aq qs.length cq) qs q' (qs ++ rs) (.slice A zs.length c) ∧ OwnI base wr (.slice A zs.length c) zs ∧ Hid (∀ g, (Value.slice A zs.length c).ownBlock = some g → NotAt g q' (qs ++ rs))) (fun i _ => (n + 1) - (intOf i).toNat)
    case atStart => exact ⟨k, _, [], Nat.le_refl _, hk2, rfl, hB, by simpa using hR, rfl, ⟨rfl, rfl, rfl, Nat.le_refl _, fun _ _ _ _ _ => rfl, fun g _ hna _ => by simpa using hna⟩, HO.out, by intro g e; simpa using hva g e⟩
    case round =>
      obtain ⟨j, q', rs, hkj, hj, rfl, hB', hR', hch, hFr, hO', hva'⟩ := hrel
      have hnb0 : ∀ g, g < base → g ≠ tb → wr.heap[g]? = w.heap[g]? := fun g hg hne => hFr.block g (by omega) hne (hR.notAt hg) (fun e => by have := (World.ownsRow.lt HO.out _ e).1; omega)
      have hcell : ∀ g u, g < base → g ≠ tb → w.cell? ⟨g, 0, none⟩ = some u → wr.cell? ⟨g, 0, none⟩ = some u := fun g u hg hne hu => (World.cell?_of_block (a := ⟨g, 0, none⟩) (hnb0 g hg hne)).trans hu
      have y1 := hcell lb _ hlb (fun e => hd.1 e.symm) hl
      have y2 := hcell sb _ hsb (fun e => hd.2.1 e.symm) hs
      have y3 := hcell nb _ hnb (fun e => hd.2.2.1 e.symm) hnn
      have y4 := hcell fb _ hfb (fun e => hd.2.2.2 e.symm) hf
      have hsr := hFr.size
      by_cases hlt : j ≤ n
      · have hjle : (j : Int) ≤ (n : Int) := by omega
        obtain ⟨Ar, cr, rfl⟩ := hR'.open_
        have HSZ := hide hsr
        have HBW := hide (show base ≤ wr.heap.size by omega)
        have hz12 : zs.length ≤ 12 := by omega
        have HREC := hide (show ∀ (W w4 : World) (g4 c4 : Nat), Below wr.heap.size wr W → OwnI base w4 (.slice (some ⟨g4, 0, none⟩) (zs.length + 1) c4) (zs ++ [(j : Int)]) → W.grownBy w4 (Value.slice A zs.length c).ownBlock → (Value.slice A zs.length c = .slice (some ⟨g4, 0, none⟩) zs.length c4 ∨ (g4 = W.heap.size ∧ W.grownBy w4 none)) →
            Calls Try.prog 136 #[.slice (some ⟨g4, 0, none⟩) (zs.length + 1) c4, .int .i64 (IntKind.i64.wrap ((j : Int) + 1)), .pointer (some ⟨tb, 0, none⟩), .pointer (some ⟨lb, 0, none⟩), .pointer (some ⟨sb, 0, none⟩), .pointer (some ⟨nb, 0, none⟩), .pointer (some ⟨fb, 0, none⟩)] w4 fun e w' => ∃ q2 rs2, e = .returned (.tuple #[]) ∧ Blk w' tb 22 #[q2] ∧ FRT base w' q2 (qs ++ (rs ++ rs2)) ∧ rs2.map (·.2) = (chs (n + 1) m (j + 1)).map (fun l => zs ++ castL (j :: l)) ∧ ChFr tb w w' (.slice Aq qs.length cq) qs q2 (qs ++ (rs ++ rs2)) (.slice A zs.length c) ∧ OwnI base w' (.slice A zs.length c) zs ∧ ∀ g, (Value.slice A zs.length c).ownBlock = some g → NotAt g q2 (qs ++ (rs ++ rs2)) from fun W w4 g4 c4 hW hO4 hg4 hor => by
          obtain ⟨p1, p2, p3, p4⟩ := child_pre hW hg4 hor hR' hva'.out
          have hold : ∀ g, g < base → w4.heap[g]? = wr.heap[g]? := fun g hg => p3.block g (by omega) (fun e => by have := (World.ownsRow.lt hO' g e.symm).1; omega)
          have hcel : ∀ g u, g < base → wr.cell? ⟨g, 0, none⟩ = some u → w4.cell? ⟨g, 0, none⟩ = some u := fun g u hg hu => (World.cell?_of_block (a := ⟨g, 0, none⟩) (hold g hg)).trans hu
          have hwj : IntKind.i64.wrap ((j : Int) + 1) = ((j + 1 : Nat) : Int) := by rw [IntKind.wrap_i64]; omega
          have hcn : (qs ++ rs).length + (chs (n + 1) m (j + 1)).length ≤ lim := by
            have h1 := congrArg List.length hch.out
            rw [chs_step (n + 1) m j (by omega)] at h1
            simp only [List.length_map, List.length_append] at h1 ⊢
            omega
          rw [hwj]
          have hvl : (zs ++ [(j : Int)]).length = zs.length + 1 := by simp
          refine (HIH.out (j + 1) (.slice (some ⟨g4, 0, none⟩) (zs.length + 1) c4) (zs ++ [(j : Int)]) _ (qs ++ rs) w4 (by rw [hvl]; omega) hO4 p2 ((hold tb htb).trans hB') p1 (Nat.le_trans (by omega) p3.size) (hcel lb _ hlb y1) (hcel sb _ hsb y2) (hcel nb _ hnb y3) (hcel fb _ hfb y4) hcn (by omega) (by omega)).mono ?_
          rintro e w' ⟨q2, rs2, rfl, c1, c2, c3, c4', c5, c6⟩
          obtain ⟨d1, d2, d3⟩ := child_post htb p3 p4 hva'.out c4' c5 c6 hO'
          rw [List.append_assoc] at c2 d1 d3
          exact ⟨q2, rs2, rfl, c1, c2, by rw [c3]; simp, hFr.trans d1 (fun g _ hd => hd), d2, d3⟩)
        have HK4 := hide (show ∀ W w4, Below wr.heap.size wr W → W.grownBy w4 (Value.slice A zs.length c).ownBlock → w4.cell? ⟨fb, 0, none⟩ = some (.func (.func 136) #[] #[.pointer (some ⟨tb, 0, none⟩), .pointer (some ⟨lb, 0, none⟩), .pointer (some ⟨sb, 0, none⟩), .pointer (some ⟨nb, 0, none⟩), .pointer (some ⟨fb, 0, none⟩)]) from fun W w4 hW hg => (World.cell?_of_block (a := ⟨fb, 0, none⟩) ((below_grown_trans hW hg).block fb (by omega) (fun e => by have := (World.ownsRow.lt hO' fb e.symm).1; omega))).trans y4)
        have HK5 := hide (show ∀ w5 q5 rs5, ChFr tb w w5 (.slice Aq qs.length cq) qs q5 rs5 (.slice A zs.length c) → w5.cell? ⟨fb, 0, none⟩ = some (.func (.func 136) #[] #[.pointer (some ⟨tb, 0, none⟩), .pointer (some ⟨lb, 0, none⟩), .pointer (some ⟨sb, 0, none⟩), .pointer (some ⟨nb, 0, none⟩), .pointer (some ⟨fb, 0, none⟩)]) from fun w5 q5 rs5 hc5 => (World.cell?_of_block (a := ⟨fb, 0, none⟩) (hc5.block fb (by omega) (fun e => hd.2.2.2 e.symm) (hR.notAt hfb) (fun e => by have := (World.ownsRow.lt HO.out fb e).1; omega))).trans hf)
        have HCH := hide hch.out
        have HCN := hide (chs_step (n + 1) m j (by omega))
        clear hch hFr hva'
        go_wp2_with fail
        go_region_held3 (fun w' => w'.cell? ⟨fb, 0, none⟩ = some (.func (.func 136) #[] #[.pointer (some ⟨tb, 0, none⟩), .pointer (some ⟨lb, 0, none⟩), .pointer (some ⟨sb, 0, none⟩), .pointer (some ⟨nb, 0, none⟩), .pointer (some ⟨fb, 0, none⟩)])) (first | exact HK5.out _ _ _ e4 | exact HK4.out _ _ (by (repeat (first | exact Below.refl _ _ | apply below_drew_of | apply below_alloc_of))) hg4 | exact below_old (w := wr) (by (repeat (first | exact Below.refl _ _ | apply below_drew_of | apply below_alloc_of))) _ _ y4)
          ((first | ((refine step_int1 (H := wr.heap.size) rfl _ _ rfl base ?_ wr hO' ?_ HBW.out ?_ (y := (j : Int)) ?_ ?_ ?_); (· rfl); (· (repeat (first | exact Below.refl _ _ | apply below_drew_of | apply below_alloc_of))); (· rfl); (· simp); (· omega); (intro g4 c4 w4 hO4 hg4 hat4)) | (go_at_call 136; go_loud(refine (HREC.out _ w4 g4 c4 ?_ hO4 hg4 hat4).mono ?_; (· (repeat (first | exact Below.refl _ _ | apply below_drew_of | apply below_alloc_of))); rintro e w5 ⟨q5, rs5, rfl, e1, e2, e3, e4, e5, e6⟩)) | fail))
        all_goals go_wp2_with fail
        all_goals go_roundw
        all_goals first
          | exact ⟨j + 1, q5, rs ++ rs5, by omega, by omega, by go_num, e1, e2, by rw [HCH.out, HCN.out, List.map_append, List.map_append, e3, List.map_map, List.append_assoc]; rfl, e4, e5, e6⟩
          | (simp [intOf]; omega)
      · obtain rfl : j = n + 1 := by omega
        have HF := hide hFr
        have HR := hide hR'
        have HBB := hide hB'
        have HOO := hide hO'
        have HC := hide (show rs.map (·.2) = (chs (n + 1) (m + 1) k).map (fun l => zs ++ castL l) by rw [hch.out, chs_end _ _ _ (Nat.le_refl _)]; simp)
        clear hch hFr hR' hB' hO'
        go_wp2_with fail
        refine bodyPost_end (v := .tuple #[]) (by first | rfl | simp [results, Try.results136, go_sem]) rfl ⟨q', rs, rfl, HBB.out, HR.out, HC.out, HF.out, HOO.out, hva'.out⟩

end Go.Proofs.Ytkmkdfogpdndoaa
