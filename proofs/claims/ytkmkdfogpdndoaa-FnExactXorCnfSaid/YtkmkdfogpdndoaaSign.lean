/- The program's family of all signed clauses: append of two rows at once, and the walk of signings. -/
import Derived.Test.YtkmkdfogpdndoaaFull
namespace Go.Proofs.Ytkmkdfogpdndoaa
open Go.RowKit
set_option linter.unusedVariables false

/-- append of two rows to a header -/
theorem append_hdr2 {ops : Array Oper} {rest : List Oper} {o : Oper} {a : Act} {Q : Exit → Act → World → Prop} {w : World} {u u' : Value} (hgd : o.guard = none) (s x : Operand)
    (ho : o.op = .call { callee := .builtin .append, args := #[s, x], argTypes := #[22, 22] })
    (base : Nat) {v : Value} {vs : List Value} (hs : a.eval s = v) (hown : OwnH base w v vs) (hu : u.oneCell' = true) (hu' : u'.oneCell' = true)
    {H : Nat} (hx : a.eval x = .slice (some ⟨H, 0, none⟩) 2 2) (hH : w.heap.size = H) (hn : vs.length ≤ 1073741824) (hb : base ≤ w.heap.size)
    (h : ∀ v' w', OwnH base w' v' (vs ++ [u, u']) → w.grownBy w' v.ownBlock → Below base w w' → (∀ b, v'.ownBlock = some b → v.ownBlock = some b ∨ w.heap.size ≤ b) → wpList Try.prog ops Q rest (a.put o.dst v') w') : wpList Try.prog ops Q (o :: rest) a (w.alloc (.cells #[u, u'] 25)) := by
  subst hH
  obtain ⟨i0, hi, hz0, hz1, hz2⟩ := info_parts ints_info
  have hal : Below w.heap.size w (w.alloc (.cells #[u, u'] 25)) := (Below.refl _ _).alloc (Nat.le_refl _) _
  have hown' : OwnH base (w.alloc (.cells #[u, u'] 25)) v vs := hown.below hal
  refine wpList_append_lies (w.alloc (.cells #[u, u'] 25)) hgd s x _ ho base 25 i0 (.slice none 0 0) 1 24 Try.underlying22 hi hz0 hz1 hz2 rfl (by decide) v vs.length vs hs hown' ⟨w.heap.size, 0, none⟩ 2 2 [u, u'] hx rfl ?_ ?_ (by decide) ?_ ?_ (by simp; omega) (w.heap.size + 1) (by simp) ?_
  · intro j y hj
    match j, hj with
    | 0, hj => simp at hj; subst hj; simp [Addr.add]
    | 1, hj => simp at hj; subst hj; simp [Addr.add]
  · intro y hy
    rcases List.mem_cons.1 hy with rfl | hy
    · exact hu
    · simp at hy; subst hy; exact hu'
  · unfold maxLen; omega
  · omega
  · intro g cap w' hown2 hg hat hlt
    have hgw : w.grownBy w' v.ownBlock := by
      refine ⟨hg.os, hg.tape, hg.output, Nat.le_trans (by simp) hg.size, fun i hi2 hne => ?_⟩
      rw [hg.block i (by simp; omega) hne]
      exact hal.block i hi2
    have hbw : Below base w w' := by
      refine ⟨hgw.os, hgw.tape, hgw.output, hgw.size, fun i hi2 => hgw.block i (by omega) ?_⟩
      intro e
      have := hown.block_lt e.symm
      omega
    refine h _ w' (by unfold OwnH; simpa using hown2) hgw hbw ?_
    intro b hb2
    obtain rfl : g = b := by simpa [Value.ownBlock] using hb2
    rcases hat with e | e
    · exact .inl e
    · exact .inr (by omega)

theorem frt_grownD {base mid : Nat} {wr W w' : World} {v v' u u2 : Value} {z z2 : List Int} {ps : List (Value × List Int)} (hown : FRT base wr v ps) (hwW : Below wr.heap.size wr W) (hu : FInts wr.heap.size mid W u z) (hu2 : FInts mid W.heap.size W u2 z2) (h1 : wr.heap.size ≤ mid) (h2 : mid ≤ W.heap.size) (hb : base ≤ wr.heap.size)
    (hO : OwnH base w' v' (ps.map (·.1) ++ [u, u2])) (hg : W.grownBy w' v.ownBlock) (hat : ∀ b, v'.ownBlock = some b → v.ownBlock = some b ∨ W.heap.size ≤ b) : FRT base w' v' (ps ++ [(u, z), (u2, z2)]) := by
  have hR : Rws base W.heap.size W (ps ++ [(u, z), (u2, z2)]) := by
    have := (((hown.2.1.below hwW).snoc hu hb h1).snoc hu2 (by omega) h2)
    simpa using this
  have hsep : ∀ p ∈ ps ++ [(u, z), (u2, z2)], p.2 ≠ [] → p.1.ownBlock ≠ v.ownBlock := by
    intro p hp h0
    rcases List.mem_append.1 hp with hp | hp
    · exact hown.2.2 p hp h0
    · rcases List.mem_cons.1 hp with rfl | hp
      · obtain ⟨b, hb1, hb2, _⟩ := hu.block h0
        intro e
        rw [hb1] at e
        have := hown.1.block_lt e.symm
        omega
      · obtain rfl := List.mem_singleton.1 hp
        obtain ⟨b, hb1, hb2, _⟩ := hu2.block h0
        intro e
        rw [hb1] at e
        have := hown.1.block_lt e.symm
        omega
  refine ⟨by simpa using hO, ⟨fun p hp => ?_, hR.2⟩, fun p hp h0 e => ?_⟩
  · refine ((hR.1 p hp).grown hg ?_).mono (Nat.le_refl _) hg.size
    by_cases h0 : p.2 = []
    · exact .inl h0
    · exact .inr (hsep p hp h0)
  · obtain ⟨b, hqb, _, hlt⟩ := (hR.1 p hp).block h0
    rw [hqb] at e
    rcases hat b e.symm with h1 | h1
    · exact hsep p hp h0 (hqb.trans h1.symm)
    · omega

theorem append_frow2 {ops : Array Oper} {rest : List Oper} {o : Oper} {a : Act} {Q : Exit → Act → World → Prop} {w : World} {u u2 : Value} {z z2 : List Int} (hgd : o.guard = none) (s x : Operand)
    (ho : o.op = .call { callee := .builtin .append, args := #[s, x], argTypes := #[22, 22] })
    (base : Nat) {v : Value} {ps : List (Value × List Int)} (hs : a.eval s = v) {wr : World} (hown : FRT base wr v ps) (hwr : Below wr.heap.size wr w) {mid : Nat} (hu : FInts wr.heap.size mid w u z) (hu2 : FInts mid w.heap.size w u2 z2) (h1 : wr.heap.size ≤ mid) (h2 : mid ≤ w.heap.size)
    {H : Nat} (hx : a.eval x = .slice (some ⟨H, 0, none⟩) 2 2) (hH : w.heap.size = H) (hn : ps.length ≤ 1073741824) (hb : base ≤ wr.heap.size)
    (h : ∀ v' w', FRT base w' v' (ps ++ [(u, z), (u2, z2)]) → Below base wr w' → wpList Try.prog ops Q rest (a.put o.dst v') w') : wpList Try.prog ops Q (o :: rest) a (w.alloc (.cells #[u, u2] 25)) := by
  refine append_hdr2 hgd s x ho base hs (hown.1.below hwr) hu.ints.oneCell hu2.ints.oneCell hx hH (by simpa using hn) (Nat.le_trans hb hwr.size) ?_
  intro v' w' hown2 hg hbw hat
  exact h v' w' (frt_grownD hown hwr hu hu2 h1 h2 hb hown2 hg hat) ((hwr.mono hb).trans hbw)

theorem signStep_snoc (t : List (List Int)) (k : Nat) (z : List Int) (v : Int) (h : t[k]? = some z) : signStep (t.take (k + 1)) v = signStep (t.take k) v ++ [z ++ [v], z ++ [-v]] := by
  rw [List.take_add_one, h]
  unfold signStep
  simp

set_option maxHeartbeats 1600000 in
theorem i_signings {hi : Nat} (v : Value) (zs : List Int) (w : World) (h : Ints hi w v zs) (hn : zs.length ≤ 5) (hs : ∀ y ∈ zs, y ≠ 0 ∧ -12 ≤ y ∧ y ≤ 12) :
    Calls Try.prog 72 #[v] w fun e w' => ∃ v' ps, e = .returned v' ∧ ps.map (·.2) = maskT zs ∧ FRT w.heap.size w' v' ps ∧ Below w.heap.size w w' := by
  obtain ⟨A, c, rfl, hc, hm, hrow⟩ := h.top
  obtain ⟨n, hzn⟩ : ∃ n, zs.length = n := ⟨_, rfl⟩
  have HZN := hide hzn
  have HROW := hide hrow
  have HS := hide hs
  rw [hzn] at hc hn ⊢
  unfold maxLen at hm
  obtain ⟨wb, hwb⟩ : ∃ wb, wb = w.alloc (.cells #[.slice none 0 0] 25) := ⟨_, rfl⟩
  have hal : Below w.heap.size w wb := by rw [hwb]; exact (Below.refl _ _).alloc (Nat.le_refl _) _
  have HAL := hide hal
  have hF : FRT w.heap.size wb (.slice (some ⟨w.heap.size, 0, none⟩) 1 1) [(.slice none 0 0, [])] := by
    rw [hwb]
    refine ⟨⟨by simp, .inr ⟨w.heap.size, 1, #[.slice none 0 0], rfl, Nat.le_refl _, heap_alloc_new w _, Nat.le_refl _, by simp [maxLen], rfl, by simp⟩⟩, ⟨fun p hp => ?_, by simp⟩, fun p hp h0 => ?_⟩
    · obtain rfl := List.mem_singleton.1 hp; exact FInts.nil _ _ _
    · obtain rfl := List.mem_singleton.1 hp; exact absurd rfl h0
  have HF0 := hide hF
  have HWB := hide hwb
  clear hwb hrow hs hzn h hal hF
  go_enter Try.func72, Try.ntmps72
  go_wp2_with fail
  rw [← HWB.out]
  go_loopw [3, 5, 6, 12] (fun q _ _ i wr => ∃ (b : Nat) (qs : List (Value × List Int)), b ≤ n ∧ i = .int .i64 b ∧ Hid (qs.length = 2 ^ b ∧ (∀ p ∈ qs, p.2.length = b) ∧ signL (zs.drop b) (qs.map (·.2)) = signL zs [[]]) ∧ FRT w.heap.size wr q qs ∧ Below w.heap.size wb wr) (fun _ _ _ i _ => n - (intOf i).toNat)
  case atStart => exact ⟨0, [(.slice none 0 0, [])], Nat.zero_le _, rfl, ⟨rfl, by simp, rfl⟩, HF0.out, Below.refl _ _⟩
  case round =>
    obtain ⟨b, qs, hbn, rfl, hqs, hR, hbel⟩ := hrel
    obtain ⟨wo, hwo⟩ : ∃ wo, wo = wr := ⟨_, rfl⟩
    subst hwo
    by_cases hlt : b < n
    · obtain ⟨bz, oz, x, rfl, hx, hcx⟩ := (HROW.out).int (k := b) (by rw [HZN.out]; exact hlt)
      have hbz : bz < w.heap.size := by obtain ⟨b', off', e', hlt', _⟩ := HROW.out (by simp [HZN.out]; omega); injection e' with e'; injection e' with e1 e2; omega
      have hcr : wo.cell? ⟨bz, oz + b, none⟩ = some (.int .i64 x) := by
        rw [hbel.cell (p := ⟨bz, oz + b, none⟩) (by show bz < _; omega), HAL.out.cell (p := ⟨bz, oz + b, none⟩) hbz]
        exact hcx
      have hxs := HS.out x (List.mem_of_getElem? (get_of_drop hx))
      have hneg : wrap64 (-x) = -x := IntWalk.wrap64_in _ (by omega)
      have HQS := hide hqs.out
      have HDR := hide hx
      obtain ⟨Aq, cq, rfl⟩ := hR.open_
      obtain ⟨m, hm1⟩ : ∃ m, qs.length = m := ⟨_, rfl⟩
      have hm32 : m ≤ 32 := by
        have h1 : 2 ^ b ≤ 2 ^ 5 := Nat.pow_le_pow_right (by decide) (by omega)
        have := hqs.out.1
        omega
      have HM := hide hm1
      have HRO := hide hR
      obtain ⟨A', c', e', hcc', hm', hown'⟩ := hR.1.own
      obtain ⟨rfl, rfl⟩ : A' = Aq ∧ c' = cq := by simp at e'; exact ⟨e'.1.symm, e'.2.symm⟩
      rw [hm1]
      have HHR := hide (hown'.row)
      have HPS := hide hR.2.1.1
      have hcc2 : m ≤ c' := by rw [← hm1]; simpa using hcc'
      clear hown' e' hcc'
      have HBL := hide hbel
      clear hx hcx hR hbel hqs
      go_wp2_with fail
      go_loopw [6, 8, 18] (fun q _ i ws => ∃ (k : Nat) (us : List (Value × List Int)), k ≤ m ∧ i = .int .i64 k ∧ Hid (us.length = 2 * k ∧ (∀ p ∈ us, p.2.length = b + 1) ∧ us.map (·.2) = signStep ((qs.map (·.2)).take k) x) ∧ FRT wo.heap.size ws q us ∧ Below wo.heap.size wo ws) (fun _ _ i _ => m - (intOf i).toNat)
      case atStart => exact ⟨0, [], Nat.zero_le _, rfl, ⟨rfl, by simp, rfl⟩, FRT.nil _ _, Below.refl _ _⟩
      case round =>
        obtain ⟨k, us, hkm, rfl, hus, hU, hbs⟩ := hrel
        obtain ⟨wi, hwi⟩ : ∃ wi, wi = wr := ⟨_, rfl⟩
        subst hwi
        by_cases hlt2 : k < m
        · obtain ⟨p, hp⟩ : ∃ p, qs[k]? = some p := ⟨_, List.getElem?_eq_getElem (by rw [HM.out]; exact hlt2)⟩
          obtain ⟨bh, oh, rfl, hlh, hch⟩ := HHR.out (by simp; rw [HM.out]; omega)
          have hcp : wi.cell? ⟨bh, oh + k, none⟩ = some p.1 := by
            rw [hbs.cell (p := ⟨bh, oh + k, none⟩) hlh]
            exact hch k _ (by simp [hp])
          have HP := hide ((HPS.out p (List.mem_of_getElem? hp)).below hbs).ints
          obtain ⟨pv, z⟩ := p
          dsimp only at hcp HP
          have HZ5 := hide (show z.length = b from HQS.out.2.1 _ (List.mem_of_getElem? hp))
          have HZL := hide (show z.length ≤ 16777216 by rw [HZ5.out]; omega)
          have HSN := hide (signStep_snoc (qs.map (·.2)) k z x (by simp [hp]))
          have HUS := hide hus.out
          have HU0 := hide hU
          have HBS := hide hbs
          obtain ⟨Au, cu, rfl⟩ := hU.open_
          have kl : (k : Int) < (m : Int) := by omega
          have k0 : (0 : Int) ≤ (k : Int) := by omega
          clear hp hch hus hU hbs
          go_wp2_with fail
          refine (g_Clone pv z _ HP.out HZL.out).mono ?_
          rintro e w2 ⟨v2, rfl, hown2, hb2⟩
          have hs2 := hb2.size
          go_wp2_with (at_builtin; refine append_int rfl _ _ rfl wi.heap.size rfl hown2 rfl (by have := HZL.out; omega) hs2 ?_; intro v3 w3 hown3 hb3; obtain ⟨A3, c3, rfl, -⟩ := id hown3.fints; simp only [List.length_append, List.length_cons, List.length_nil, Nat.zero_add] at hown3)
          have HB3 := hide (hb2.trans hb3)
          have HP3 := hide (HP.out.below (hb2.trans hb3))
          have HO3 := hide hown3
          clear hown2 hown3 hb2 hb3 hs2
          go_wp2_with fail
          refine (g_Clone pv z _ HP3.out HZL.out).mono ?_
          rintro e w4 ⟨v4, rfl, hown4, hb4⟩
          have hs4 := hb4.size
          have hs3 := HB3.out.size
          have hus30 : us.length ≤ 1073741824 := by have := HUS.out.1; omega
          go_wp2_with (at_builtin; first | (refine append_int rfl _ _ rfl w3.heap.size rfl hown4 rfl (by have := HZL.out; omega) hs4 ?_; intro v5 w5 hown5 hb5; obtain ⟨A5, c5, rfl, -⟩ := id hown5.fints; simp only [List.length_append, List.length_cons, List.length_nil, Nat.zero_add] at hown5; have HB5 := hide (hb4.trans hb5); have hs5 := HB5.out.size; have HF1 := hide ((HO3.out.fints.below HB5.out)); have HF2 := hide hown5.fints; have hwi0 : Below wi.heap.size wi w5 := HB3.out.trans (HB5.out.mono hs3)) | (go_loud(refine append_frow2 (H := w5.heap.size) rfl _ _ rfl wo.heap.size rfl HU0.out hwi0 HF1.out HF2.out hs3 hs5 rfl rfl hus30 HBS.out.size ?_; intro v6 w6 hU6 hb6)))
          go_roundw
          case rel =>
            refine ⟨k + 1, _, by omega, by go_num, ⟨?_, ?_, ?_⟩, hU6, HBS.out.trans hb6⟩
            · have := HUS.out.1
              simp; omega
            · intro p hp
              rcases List.mem_append.1 hp with hp | hp
              · exact HUS.out.2.1 p hp
              · have hz := HZ5.out
                rcases List.mem_cons.1 hp with rfl | hp
                · simp [hz]
                · obtain rfl := List.mem_singleton.1 hp
                  simp [hz]
            · rw [HSN.out, List.map_append, HUS.out.2.2]
              rfl
          case measure => simp [intOf]; omega
        · obtain rfl : k = m := by omega
          have hR5 := hU.mono (show w.heap.size ≤ wo.heap.size from Nat.le_trans HAL.out.size HBL.out.size)
          have hB5 := HBL.out.trans (hbs.mono (Nat.le_trans HAL.out.size HBL.out.size))
          have HQ := hide (show us.length = 2 ^ (b + 1) ∧ (∀ p ∈ us, p.2.length = b + 1) ∧ signL (zs.drop (b + 1)) (us.map (·.2)) = signL zs [[]] by
            refine ⟨by have := hus.out.1; have := HQS.out.1; have := HM.out; rw [Nat.pow_succ]; omega, hus.out.2.1, ?_⟩
            have h3 := HQS.out.2.2
            rw [HDR.out, signL] at h3
            rw [hus.out.2.2, List.take_of_length_le (by simp; have := HM.out; omega)]
            exact h3)
          clear hus hU
          go_wp2_with fail
          go_roundw
          case rel => exact ⟨b + 1, us, by omega, by go_num, HQ.out, hR5, hB5⟩
          case measure => simp [intOf]; omega
    · obtain rfl : b = n := by omega
      have HQ := hide (show qs.map (·.2) = maskT zs by
        have h3 := hqs.out.2.2
        rw [List.drop_of_length_le (by have := HZN.out; omega), signL_nil] at h3
        exact h3)
      have HB := hide (HAL.out.trans hbel)
      go_wp2_with fail
      go_ret
      exact ⟨_, qs, rfl, HQ.out, hR, HB.out⟩

end Go.Proofs.Ytkmkdfogpdndoaa
