/- The walks of the program's PrimeClauses: what is done at each clause, and the visit of all. -/
import Derived.Test.YtlipmbcjpmbjnaaPrimePl
import Derived.Test.YtlipmbcjpmbjnaaImp
namespace Go.Proofs.Ytlipmbcjpmbjnaa
open Go.RowKit
set_option linter.unusedVariables false

/-- what a visit leaves alone: each block but the answer's box and the answer's own block -/
structure PrFr (tb : Nat) (w w' : World) (q q' : Value) : Prop where
  os : w'.os = w.os
  tape : w'.tape = w.tape
  output : w'.output = w.output
  size : w.heap.size ≤ w'.heap.size
  block : ∀ g, g < w.heap.size → g ≠ tb → q.ownBlock ≠ some g → w'.heap[g]? = w.heap[g]?
  away : ∀ g, g < w.heap.size → q.ownBlock ≠ some g → q'.ownBlock ≠ some g
theorem PrFr.trans {tb : Nat} {w w1 w2 : World} {q q1 q2 : Value} (h : PrFr tb w w1 q q1) (h2 : PrFr tb w1 w2 q1 q2) : PrFr tb w w2 q q2 :=
  ⟨h2.os.trans h.os, h2.tape.trans h.tape, h2.output.trans h.output, Nat.le_trans h.size h2.size, fun g a b c => (h2.block g (Nat.lt_of_lt_of_le a h.size) b (h.away g a c)).trans (h.block g a b c), fun g a c => h2.away g (Nat.lt_of_lt_of_le a h.size) (h.away g a c)⟩
theorem PrFr.below {tb : Nat} {w w' : World} {q : Value} (h : Below w.heap.size w w') : PrFr tb w w' q q :=
  ⟨h.os, h.tape, h.output, h.size, fun g a _ _ => h.block g a, fun g _ c => c⟩
theorem Blk.two' {w : World} {g : Nat} {T : TypeId} {a b : Value} (h : Blk w g T #[a, b]) : w.cell? ⟨g, 0, none⟩ = some a ∧ w.cell? ⟨g, 1, none⟩ = some b ∧ w.frozen? ⟨g, 0, none⟩ = false ∧ w.frozen? ⟨g, 1, none⟩ = false :=
  ⟨by simpa using h.cell 0, by simpa using h.cell 1, h.frozen 0, h.frozen 1⟩

/-- append of one fresh row, with what the world at the append keeps -/
theorem append_frowW {ops : Array Oper} {rest : List Oper} {o : Oper} {a : Act} {Q : Exit → Act → World → Prop} {w : World} {u : Value} {z : List Int} (hgd : o.guard = none) (s x : Operand)
    (ho : o.op = .call { callee := .builtin .append, args := #[s, x], argTypes := #[22, 22] })
    (base : Nat) {v : Value} {ps : List (Value × List Int)} (hs : a.eval s = v) {wr : World} (hown : FRT base wr v ps) (hwr : Below wr.heap.size wr w) (hu : FInts wr.heap.size w.heap.size w u z)
    {H : Nat} (hx : a.eval x = .slice (some ⟨H, 0, none⟩) 1 1) (hH : w.heap.size = H) (hn : ps.length ≤ 1073741824) (hb : base ≤ wr.heap.size)
    (h : ∀ v' w', FRT base w' v' (ps ++ [(u, z)]) → w.grownBy w' v.ownBlock → (∀ b, v'.ownBlock = some b → v.ownBlock = some b ∨ w.heap.size ≤ b) → wpList Try.prog ops Q rest (a.put o.dst v') w') : wpList Try.prog ops Q (o :: rest) a (w.alloc (.cells #[u] 26)) := by
  refine append_hdr hgd s x ho base hs (hown.1.below hwr) hu.ints.oneCell hx hH (by simpa using hn) (Nat.le_trans hb hwr.size) ?_
  intro v' w' hown2 hg hbw hat
  exact h v' w' (frt_grown hown hwr hu hb hown2 hg hat) hg hat

set_option maxHeartbeats 1600000 in
theorem i_prime1 {base hi : Nat} (nv : Nat) (t : List (List Int)) (sl vc q : Value) (c : List Int) (qs : List (Value × List Int)) (fb tb : Nat) (w0 w : World)
    (hF : Blk w fb 29 #[.int .i64 nv, sl]) (hT : Tab hi w sl t) (hB : Blk w tb 29 #[.int .i64 nv, q]) (hR : FRT base w0 q qs) (hw : Below w0.heap.size w0 w) (hu : FInts w0.heap.size w.heap.size w vc c)
    (htb : tb < base) (hbs : base ≤ w0.heap.size) (hn : nv ≤ 12) (hs : ∀ c ∈ t, ∀ l ∈ c, l ≠ 0 ∧ -12 ≤ l ∧ l ≤ 12) (htl : t.length ≤ 60) (hcs : smallL c) (hcl : c.length ≤ 12) (hql : qs.length ≤ 100000) :
    Calls Try.prog 63 #[vc, .pointer (some ⟨fb, 0, none⟩), .pointer (some ⟨tb, 0, none⟩)] w fun e w' => ∃ q' rs, e = .returned (.tuple #[]) ∧ Blk w' tb 29 #[.int .i64 nv, q'] ∧ FRT base w' q' (qs ++ rs) ∧ rs.map (·.2) = [c].filter (primeI ((nv : Int), t)) ∧ PrFr tb w w' q q' := by
  obtain ⟨A, cap, rfl, hc, hm, -⟩ := id hu
  obtain ⟨At, ct, ps, rfl, hct, hmt, htt, -, -⟩ := hT.open_
  have hpl : t.length = ps.length := by rw [htt]; simp
  clear htt
  obtain ⟨x0, x1, -, -⟩ := hF.two'
  have HT := hide hT
  have HS := hide hs
  have HU := hide hu
  have HCS := hide hcs
  have HTL := hide (show t.length ≤ 1048576 by omega)
  have HCL := hide (show c.length ≤ 1048576 by omega)
  have HR := hide hR
  have HB := hide hB
  have HF := hide hF
  have HBW := hide hw
  have HBS := hide hbs
  have HQL := hide hql
  cases hp : impliesF ((nv : Int), t) c with
  | false =>
    have HP := hide hp
    clear hF hT hB hR hw hu hs hcs htl hql hp
    go_enter Try.func63, Try.ntmps63
    go_wp2_with fail
    refine (i_implies nv _ _ t c w HT.out HU.out.ints hn HS.out HCS.out HTL.out HCL.out).mono ?_
    rintro e w1 ⟨rfl, hb1⟩
    rw [HP.out]
    go_wp2_with fail
    refine bodyPost_ret (results_none rfl _ _ _) rfl ?_
    exact ⟨q, [], rfl, HB.out.below hb1 HB.out.lt, by simpa using (HR.out.below HBW.out).below hb1, by simp [primeI, HP.out], PrFr.below hb1⟩
  | true =>
    have HP := hide hp
    clear hF hT hB hR hw hu hs hcs htl hql hp
    go_enter Try.func63, Try.ntmps63
    go_wp2_with fail
    refine (i_implies nv _ _ t c w HT.out HU.out.ints hn HS.out HCS.out HTL.out HCL.out).mono ?_
    rintro e w1 ⟨rfl, hb1⟩
    rw [HP.out]
    have HB1 := hide hb1
    clear hb1
    go_wp2_with fail
    go_loopw [14] (fun i wk => ∃ k : Nat, k ≤ c.length ∧ i = .int .i64 k ∧ Hid (∀ j, j < k → impliesF ((nv : Int), t) (skipL c j) = false) ∧ Below w.heap.size w wk) (fun i _ => c.length - (intOf i).toNat)
    case atStart => exact ⟨0, Nat.zero_le _, rfl, hide (by intro j hj; omega), HB1.out⟩
    case round =>
      obtain ⟨k, hk, rfl, hno, hbk⟩ := hrel
      have y0 := below_old hbk _ _ x0
      have y1 := below_old hbk _ _ x1
      by_cases hlt : k < c.length
      · have tq := (HT.out.top.below hbk).below (below_drew wr)
        have cq := (HU.out.ints.top.below hbk).below (below_drew wr)
        have HLT := hide hlt
        have HSK := hide (show ∀ l ∈ skipL c k, l ≠ 0 ∧ -12 ≤ l ∧ l ≤ 12 from fun l hl => HCS.out l (skipL_mem hl))
        have HSL := hide (show (skipL c k).length ≤ 1048576 by rw [skipL_length hlt]; omega)
        have hbd : Below w.heap.size w wr.drew := below_drew_of hbk
        have HNO := hide hno.out
        clear hno hbk
        cases hi : impliesF ((nv : Int), t) (skipL c k) with
        | true =>
          have HPF := hide (show primeI ((nv : Int), t) c = false by
            cases h9 : primeI ((nv : Int), t) c with
            | false => rfl
            | true => have := ((primeI_iff _ c).1 h9).2 k hlt; rw [hi] at this; cases this)
          have HI := hide hi
          clear hi
          go_wp2_with fail
          go_region_held3 (fun w' => w'.cell? ⟨fb, 0, none⟩ = some (.int .i64 (nv : Int)) ∧ w'.cell? ⟨fb, 1, none⟩ = some (.slice At ps.length ct)) (first | exact ⟨y0, y1⟩ | go_keep)
            ((first | (go_at_call 65; refine (i_without _ c k _ cq HLT.out HCL.out).mono ?_; rintro e w3 ⟨v3, rfl, hO3, hb3⟩; obtain ⟨A3, c3, rfl, -⟩ := id hO3.fints; have c3 := hO3.fints.ints; replace y0 := below_old hb3 _ _ y0; replace y1 := below_old hb3 _ _ y1; replace tq := tq.below hb3; replace hbd := below_stp hbd hb3) | (go_at_call 64; refine (i_implies nv _ _ t (skipL c k) _ tq c3 hn HS.out HSK.out HTL.out HSL.out).mono ?_; rintro e w4 ⟨rfl, hb4⟩; rw [HI.out]; replace y0 := below_old hb4 _ _ y0; replace y1 := below_old hb4 _ _ y1; replace hbd := below_stp hbd hb4)))
          go_wp2_with fail
          refine bodyPost_ret (results_none rfl _ _ _) rfl ?_
          exact ⟨q, [], rfl, HB.out.below hbd HB.out.lt, by simpa using (HR.out.below HBW.out).below hbd, by simp [HPF.out], PrFr.below hbd⟩
        | false =>
          have HNX := hide (show ∀ j, j < k + 1 → impliesF ((nv : Int), t) (skipL c j) = false from fun j hj => by
            rcases Nat.lt_or_ge j k with h9 | h9
            · exact HNO.out j h9
            · obtain rfl : j = k := by omega
              exact hi)
          have HI := hide hi
          clear hi
          go_wp2_with fail
          go_region_held3 (fun w' => w'.cell? ⟨fb, 0, none⟩ = some (.int .i64 (nv : Int)) ∧ w'.cell? ⟨fb, 1, none⟩ = some (.slice At ps.length ct)) (first | exact ⟨y0, y1⟩ | go_keep)
            ((first | (go_at_call 65; refine (i_without _ c k _ cq HLT.out HCL.out).mono ?_; rintro e w3 ⟨v3, rfl, hO3, hb3⟩; obtain ⟨A3, c3, rfl, -⟩ := id hO3.fints; have c3 := hO3.fints.ints; replace y0 := below_old hb3 _ _ y0; replace y1 := below_old hb3 _ _ y1; replace tq := tq.below hb3; replace hbd := below_stp hbd hb3) | (go_at_call 64; refine (i_implies nv _ _ t (skipL c k) _ tq c3 hn HS.out HSK.out HTL.out HSL.out).mono ?_; rintro e w4 ⟨rfl, hb4⟩; rw [HI.out]; replace y0 := below_old hb4 _ _ y0; replace y1 := below_old hb4 _ _ y1; replace hbd := below_stp hbd hb4)))
          go_wp2_with fail
          go_roundw
          case rel => exact ⟨k + 1, by omega, by go_num, HNX.out, hbd⟩
          case measure => (simp [intOf] <;> omega)
      · obtain rfl : k = c.length := by omega
        have HPT := hide (show primeI ((nv : Int), t) c = true from (primeI_iff _ c).2 ⟨HP.out, fun j hj => hno.out j hj⟩)
        have hBk := HB.out.below hbk HB.out.lt
        obtain ⟨z0, z1, -, -⟩ := hBk.two'
        obtain ⟨Aq, cq, rfl⟩ := HR.out.open_
        have hBlt : tb < wr.heap.size := hBk.lt
        have HBK := hide hBk
        have HBB := hide hbk
        have HUK := hide ((HU.out.below hbk).mono (Nat.le_refl _) hbk.size)
        have HWK := hide (HBW.out.trans (hbk.mono HBW.out.size))
        have hql2 : qs.length ≤ 1073741824 := by have := HQL.out; omega
        clear hno hbk hBk y0 y1
        have HLT := hide hBlt
        go_wp2_with (at_builtin; refine append_frowW (H := wr.heap.size) (v := .slice Aq qs.length cq) rfl _ _ rfl base rfl HR.out HWK.out HUK.out rfl rfl hql2 HBS.out ?_; intro v3 w3 hR3 hg3 hat3; obtain ⟨A3, c3, rfl⟩ := hR3.open_; have hB3 := (hg3.block tb HLT.out (fun e => (HR.out.notAt htb).1 e.symm)).trans HBK.out; have q0 := (Blk.two' hB3).2.1; have q1 := (Blk.two' hB3).2.2.2)
        have hB4 := Blk.set_ hB3 1 (.slice A3 (qs ++ [(Value.slice A c.length cap, c)]).length c3)
        go_end0
        refine ⟨_, [(Value.slice A c.length cap, c)], rfl, by simpa using hB4, by simpa using hR3.set_ (hR3.notAt htb) 1 (.slice A3 (qs ++ [(Value.slice A c.length cap, c)]).length c3), by simp [HPT.out], ?_⟩
        have hsz := HBB.out.size
        refine ⟨hg3.os.trans HBB.out.os, hg3.tape.trans HBB.out.tape, hg3.output.trans HBB.out.output, by have := hg3.size; simp [World.setCell]; omega, fun g a b c => ?_, fun g a c e => ?_⟩
        · exact (Below.heap_setCell _ _ _ g (by simpa using b)).trans ((hg3.block g (by omega) (fun e => c e.symm)).trans (HBB.out.block g a))
        · rcases hat3 g (by simp only [List.length_append, List.length_cons, List.length_nil, Nat.zero_add]; exact e) with h9 | h9
          · exact c h9
          · omega

end Go.Proofs.Ytlipmbcjpmbjnaa
