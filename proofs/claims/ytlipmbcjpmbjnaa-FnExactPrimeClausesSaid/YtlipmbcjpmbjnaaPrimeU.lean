/- The walks of the reference's l5Clauses and PrimeClauses. -/
import Derived.Test.YtlipmbcjpmbjnaaPrimePl
import Derived.Test.YtlipmbcjpmbjnaaPut
import Derived.Test.YtlipmbcjpmbjnaaSign
import Derived.Deep.DeepAppendRoom
import Derived.Deep.AppendLies
import Derived.Test.YtlipmbcjpmbjnaaSrtS
import Derived.Test.YtlipmbcjpmbjnaaBothI
import Derived.Test.YtlipmbcjpmbjnaaVal
import Derived.Test.YtlipmbcjpmbjnaaModels
namespace Go.Proofs.Ytlipmbcjpmbjnaa
open Go.RowKit
set_option linter.unusedVariables false

theorem run_rows2 {ty base : Nat} {v u u2 : Value} {vs : List Value} {W : World} (hown : OwnH base W v vs) (hb : base ≤ W.heap.size) (hu : u.oneCell' = true) (hu2 : u2.oneCell' = true) {H : Nat} (hc0 : W.cell? ⟨H, 0, none⟩ = some u) (hc1 : W.cell? ⟨H, 1, none⟩ = some u2) (hn : vs.length ≤ 1048576) :
    ∃ g cap w', (Builtin.append_ #[22, 22] ty #[v, .slice (some ⟨H, 0, none⟩) 2 2]).run Try.prog W = .ok (.slice (some ⟨g, 0, none⟩) (vs.length + 2) cap) w' ∧ OwnH base w' (.slice (some ⟨g, 0, none⟩) (vs.length + 2) cap) (vs ++ [u, u2]) ∧ W.grownBy w' v.ownBlock ∧ (v = .slice (some ⟨g, 0, none⟩) vs.length cap ∨ (g = W.heap.size ∧ W.grownBy w' none)) := by
  obtain ⟨i0, hi, hz0, hz1, hz2⟩ := info_parts ints_info
  have hnews : ∀ (j : Nat) (y : Value), [u, u2][j]? = some y → W.cell? ((⟨H, 0, none⟩ : Addr).add j) = some y := by
    intro j y hj
    match j, hj with
    | 0, hj => simp at hj; subst hj; simpa [Addr.add] using hc0
    | 1, hj => simp at hj; subst hj; simpa [Addr.add] using hc1
  have h1 : ∀ y ∈ [u, u2], y.oneCell' = true := by
    intro y hy
    rcases List.mem_cons.1 hy with rfl | hy
    · exact hu
    · obtain rfl := List.mem_singleton.1 hy; exact hu2
  obtain ⟨g, cap, w', hr, h2, h3, h4, _⟩ := run_append_lies (P := Try.prog) W 22 ty base 26 i0 (.slice none 0 0) 1 24 Try.underlying22 hi hz0 hz1 hz2 rfl (by decide) v vs.length vs hown ⟨H, 0, none⟩ 2 2 [u, u2] rfl hnews h1 (by decide) (by unfold maxLen; omega) (by omega) hb W.heap.size rfl
  have hO : OwnH base w' (.slice (some ⟨g, 0, none⟩) (vs.length + 2) cap) (vs ++ [u, u2]) := by unfold OwnH; simpa using h2
  by_cases hroom : ∃ g0 c0, v = .slice (some ⟨g0, 0, none⟩) vs.length c0 ∧ vs.length + 2 ≤ c0
  · obtain ⟨g0, c0, rfl, hr0⟩ := hroom
    obtain ⟨w2, hr2, _, _⟩ := run_append_own_spare (P := Try.prog) W base 22 ty 26 i0 1 Try.underlying22 hi hz1 g0 vs.length c0 vs hown ⟨H, 0, none⟩ 2 2 [u, u2] rfl hnews h1 hr0
    have he := hr.symm.trans hr2
    injection he with e1 e2
    injection e1 with e3 e4 e5
    injection e3 with e3
    injection e3 with e3
    subst e3 e5 e2
    exact ⟨g, cap, w', hr, hO, h3, .inl rfl⟩
  · rcases hown.2 with ⟨rfl, h0⟩ | ⟨g0, c0, cur, rfl, hl, hh, hnc, hcm, hcs, htk⟩
    · refine ⟨g, cap, w', hr, hO, h3, .inr ?_⟩
      rcases h4 with h4 | h4
      · simp [Value.ownBlock] at h4
      · exact ⟨h4, h3⟩
    · have hg : c0 < vs.length + 2 := by
        rcases Nat.lt_or_ge c0 (vs.length + 2) with h | h
        · exact h
        · exact absurd ⟨g0, c0, rfl, h⟩ hroom
      have hr2 := run_append_grow (P := Try.prog) W 22 ty 26 i0 (.slice none 0 0) Try.underlying22 hi hz0 ⟨g0, 0, none⟩ vs.length c0 vs (by rw [hz1]; simp) (World.ownsRow.cells hown rfl) ⟨H, 0, none⟩ 2 2 [u, u2] (by rw [hz1]; rfl) hnews hg (by omega) (by rw [hz2]; exact growslice_fits (by omega) (by omega))
      have he := hr.symm.trans hr2
      injection he with e1 e2
      injection e1 with e3 e4 e5
      injection e3 with e3
      injection e3 with e3
      refine ⟨g, cap, w', hr, hO, h3, .inr ⟨e3, ?_⟩⟩
      rw [e2]
      exact ⟨rfl, rfl, rfl, by simp, fun k hk _ => heap_alloc_old W.drew _ hk⟩

/-- append of two fresh rows, in a region that draws its order: the answer's block is the old one or a new one -/
theorem step_frow2 {ops : Array Oper} {o : Oper} {a : Act} {K : Act → World → Prop} {Q : Exit → Act → World → Prop} {E : Prop} {W : World} {u u2 : Value} {z z2 : List Int} (hgd : o.guard = none) (s x : Operand)
    (ho : o.op = .call { callee := .builtin .append, args := #[s, x], argTypes := #[22, 22] })
    (base : Nat) {v : Value} {ps : List (Value × List Int)} (hs : a.eval s = v) (wr : World) (hown : FRT base wr v ps) (wm : World) (hwm : Below wr.heap.size wr wm) (mid : Nat) (hu : FInts wr.heap.size mid wm u z) (hu2 : FInts mid wm.heap.size wm u2 z2) (h1 : wr.heap.size ≤ mid) (h2 : mid ≤ wm.heap.size) (hbw : Below wm.heap.size wm W) (hb : base ≤ wr.heap.size) (hn : ps.length ≤ 1048576)
    {H : Nat} (hx : a.eval x = .slice (some ⟨H, 0, none⟩) 2 2) (hc0 : W.cell? ⟨H, 0, none⟩ = some u) (hc1 : W.cell? ⟨H, 1, none⟩ = some u2)
    (h : ∀ g cap w', FRT base w' (.slice (some ⟨g, 0, none⟩) (ps.length + 2) cap) (ps ++ [(u, z), (u2, z2)]) → Below base wr w' → wr.grownBy w' v.ownBlock → wm.grownBy w' v.ownBlock → (v = .slice (some ⟨g, 0, none⟩) ps.length cap ∨ (wr.heap.size ≤ g ∧ wr.grownBy w' none)) → K (a.put o.dst (.slice (some ⟨g, 0, none⟩) (ps.length + 2) cap)) w') :
    if Region.wanted o (yielded ops a.tmps) = true then Oper.wp Try.prog o a W K Q else E := by
  have hw : Region.wanted o (yielded ops a.tmps) = true := by simp [Region.wanted, hgd]
  rw [if_pos hw]
  have hwW : Below wr.heap.size wr W := hwm.trans (hbw.mono hwm.size)
  have hbW : base ≤ W.heap.size := Nat.le_trans hb hwW.size
  have hO : OwnH base W v (ps.map (·.1)) := (hown.below hwW).1
  obtain ⟨g, cap, w', hr, k1, k2, k3⟩ := run_rows2 (ty := o.type) hO hbW hu.ints.oneCell hu2.ints.oneCell hc0 hc1 (by simpa using hn)
  unfold Oper.wp execOp
  simp only [ho, resolve, invoke, builtin, Sem.run_bind, Sem.run_pure, Result.andThen_ok, List.map_toArray, List.map_cons, List.map_nil, hs, hx, hr]
  rw [List.length_map] at k1 k3
  rw [List.length_map]
  have hat : ∀ b, (Value.slice (some ⟨g, 0, none⟩) (ps.length + 2) cap).ownBlock = some b → v.ownBlock = some b ∨ W.heap.size ≤ b := fun b e => by
    obtain rfl : g = b := by simpa [Value.ownBlock] using e
    rcases k3 with e2 | ⟨e2, _⟩
    · exact .inl (by rw [e2]; rfl)
    · exact .inr (by omega)
  have hF := frt_grownD hown hwW (hu.below hbw) ((hu2.below hbw).mono (Nat.le_refl _) hbw.size) h1 (Nat.le_trans h2 hbw.size) hb k1 k2 hat
  have hg := below_grown_trans hwW k2
  refine h g cap w' hF ⟨hg.os, hg.tape, hg.output, hg.size, fun i hi2 => hg.block i (by omega) fun e => ?_⟩ hg (below_grown_trans hbw k2) (k3.imp id fun ⟨e, hgn⟩ => ⟨by have := hwW.size; omega, below_grown_trans hwW hgn⟩)
  have := hO.block_lt e.symm
  omega

theorem own_ne {base base' : Nat} {w : World} {v v' : Value} {zs : List Int} {vs : List Value} (h : OwnI base w v zs) (h2 : OwnH base' w v' vs) : v.ownBlock = none ∨ v.ownBlock ≠ v'.ownBlock := by
  rcases h.2 with ⟨rfl, _⟩ | ⟨g, cap, cur, rfl, _, hh, _⟩
  · exact .inl rfl
  · rcases h2.2 with ⟨rfl, _⟩ | ⟨g2, cap2, cur2, rfl, _, hh2, _⟩
    · exact .inr (by simp [Value.ownBlock])
    · refine .inr fun e => ?_
      obtain rfl : g = g2 := by simpa [Value.ownBlock] using e
      rw [hh] at hh2
      injection hh2 with e1
      injection e1 with _ e2
      revert e2
      decide
theorem OwnI.grown {base : Nat} {w w' : World} {v : Value} {zs : List Int} {o : Option Nat} (h : OwnI base w v zs) (hg : w.grownBy w' o) (hne : v.ownBlock = none ∨ v.ownBlock ≠ o) : OwnI base w' v zs := by
  refine ⟨h.1, ?_⟩
  rcases h.2 with h1 | ⟨g, cap, cur, e, hl, hh, r⟩
  · exact .inl h1
  · refine .inr ⟨g, cap, cur, e, hl, (hg.block g (Blk.lt (t := 3) (cs := cur) hh) ?_).trans hh, r⟩
    rw [e] at hne
    rcases hne with h2 | h2
    · simp [Value.ownBlock] at h2
    · simpa [Value.ownBlock] using h2
theorem now_kept {base g g2 cap2 : Nat} {wr w' : World} {v : Value} {qs ns : List (Value × List Int)} {L L2 : Nat} (hc : ∀ j y, (qs.map (·.1))[j]? = some y → wr.cell? ⟨g, j, none⟩ = some y) (hF : FRT base w' (.slice (some ⟨g2, 0, none⟩) L2 cap2) (qs ++ ns)) (hg : wr.grownBy w' v.ownBlock) (k3 : v = .slice (some ⟨g2, 0, none⟩) L cap2 ∨ (wr.heap.size ≤ g2 ∧ wr.grownBy w' none)) :
    ∀ j y, (qs.map (·.1))[j]? = some y → w'.cell? ⟨g, j, none⟩ = some y := by
  intro j y hj
  have h0 := hc j y hj
  have hlt : g < wr.heap.size := World.block_lt_of_cell? _ _ h0
  rcases k3 with rfl | ⟨_, hgn⟩
  · by_cases e : g = g2
    · subst e
      obtain ⟨A, c, e, _, _, h3⟩ := hF.1.own
      injection e with e1 e2 e3
      subst e1
      have hj2 : ((qs ++ ns).map (·.1))[j]? = some y := by rw [List.map_append, List.getElem?_append_left (List.getElem?_eq_some_iff.1 hj).1]; exact hj
      obtain ⟨b, off, e9, _, _, hcel⟩ := h3 (by have := (List.getElem?_eq_some_iff.1 hj2).1; omega)
      injection e9 with e9; injection e9 with e10 e11
      subst e10 e11
      simpa using (hcel j y hj2).1
    · exact (World.cell?_of_block (a := ⟨g, j, none⟩) (hg.block g hlt (by simp [Value.ownBlock]; exact e))).trans h0
  · exact (World.cell?_of_block (a := ⟨g, j, none⟩) (hgn.block g hlt (by simp))).trans h0
theorem upC_var {k : Nat} {z : List Int} (hk : k < 12) (h : UpC 1 k z) (y : Int) (hy : y.natAbs = k + 1) : ∀ x ∈ z, varW x < varW y := fun x hx => by
  have := h.1 x hx
  rw [varW_small (by omega), varW_small (by omega)]
  omega

theorem upC_small {k : Nat} {z : List Int} (hk : k ≤ 12) (h : UpC 1 k z) : smallL z := fun x hx => by
  have := h.1 x hx
  omega
theorem OwnH.base_ {base base' : Nat} {w : World} {v : Value} {vs : List Value} (h : OwnH base w v vs) (hb : base' ≤ base) : OwnH base' w v vs := by
  refine ⟨h.1, ?_⟩
  rcases h.2 with h1 | ⟨g, cap, cur, e, hl, r⟩
  · exact .inl h1
  · exact .inr ⟨g, cap, cur, e, Nat.le_trans hb hl, r⟩
theorem Rws.sub {lo hi : Nat} {w : World} {ps qs : List (Value × List Int)} (h : Rws lo hi w qs) (hs : ps.Sublist qs) : Rws lo hi w ps := ⟨fun p hp => h.1 p (hs.subset hp), h.2.sublist hs⟩

set_option maxRecDepth 20000 in
set_option maxHeartbeats 3200000 in
theorem s_l5Clauses (nv : Nat) (w : World) (hn : nv ≤ 5) :
    Calls Try.prog 59 #[.int .i64 nv] w fun e w' => ∃ v' ps, e = .returned v' ∧ FRT w.heap.size w' v' ps ∧ ps.map (·.2) = putAllC (stg nv) [] ∧ Below w.heap.size w w' := by
  obtain ⟨wa, hwa⟩ : ∃ wa, wa = w.alloc (.cells #[] 3) := ⟨_, rfl⟩
  have hsa : wa.heap.size = w.heap.size + 1 := by rw [hwa]; simp
  have hala : Below w.heap.size w wa := by rw [hwa]; exact below_alloc_of (Below.refl _ _) _
  have hO : OwnI w.heap.size wa (.slice (some ⟨w.heap.size, 0, none⟩) 0 0) [] := by rw [hwa]; exact OwnI.made _ _ (Nat.le_refl _)
  obtain ⟨wb, hwb⟩ : ∃ wb, wb = wa.alloc (.cells #[.slice (some ⟨w.heap.size, 0, none⟩) 0 0] 26) := ⟨_, rfl⟩
  have halb : Below wa.heap.size wa wb := by rw [hwb]; exact below_alloc_of (Below.refl _ _) _
  have hal : Below w.heap.size w wb := hala.trans (halb.mono (by omega))
  have hF : FRT w.heap.size wb (.slice (some ⟨w.heap.size + 1, 0, none⟩) 1 1) [(.slice (some ⟨w.heap.size, 0, none⟩) 0 0, [])] := by
    rw [hwb, ← hsa]
    refine ⟨⟨by simp, .inr ⟨wa.heap.size, 1, #[.slice (some ⟨w.heap.size, 0, none⟩) 0 0], rfl, by omega, heap_alloc_new wa _, Nat.le_refl _, by simp [maxLen], rfl, by simp⟩⟩, ⟨fun p hp => ?_, by simp⟩, fun p hp h0 => ?_⟩
    · obtain rfl := List.mem_singleton.1 hp
      exact ⟨_, 0, rfl, Nat.le_refl _, by simp [maxLen], Own.nil _ _ _ _⟩
    · obtain rfl := List.mem_singleton.1 hp; exact absurd rfl h0
  have HF0 := hide hF
  have HO0 := hide (hO.below halb)
  have HAL := hide hal
  have HWB := hide (show wb = (w.alloc (.cells #[] 3)).alloc (.cells #[.slice (some ⟨w.heap.size, 0, none⟩) 0 0] 26) by rw [hwb, hwa])
  have hszb : w.heap.size + 1 < wb.heap.size := by rw [hwb]; simp; omega
  clear hwa hsa hala hO hwb halb hal hF
  go_enter Try.func59, Try.ntmps59
  go_wp2_with fail
  rw [← HWB.out]
  go_loopw [3, 4, 5, 6] (fun q i _ _ wr => ∃ (k g m cap : Nat) (qs : List (Value × List Int)), k ≤ nv ∧ i = .int .i64 ((k : Int) + 1) ∧ q = .slice (some ⟨g, 0, none⟩) m cap ∧ Hid (qs.length = m ∧ qs.map (·.2) = stg k) ∧ FRT w.heap.size wr q qs ∧ Hid (∀ p ∈ qs, OwnI w.heap.size wr p.1 p.2) ∧ Below w.heap.size w wr) (fun _ i _ _ _ => (nv + 1) - (intOf i).toNat)
  case atStart => exact ⟨0, _, 1, 1, [(.slice (some ⟨w.heap.size, 0, none⟩) 0 0, [])], Nat.zero_le _, rfl, rfl, ⟨rfl, rfl⟩, HF0.out, hide (by intro p hp; obtain rfl := List.mem_singleton.1 hp; exact HO0.out), HAL.out⟩
  case round =>
    obtain ⟨k, g, m, cap, qs, hk, rfl, rfl, hqs, hR, hrows, hbel⟩ := hrel
    obtain ⟨wo, hwo⟩ : ∃ wo, wo = wr := ⟨_, rfl⟩
    subst hwo
    have hm243 : m ≤ 243 := by
      have h1 := congrArg List.length hqs.out.2
      rw [List.length_map, stg_len, hqs.out.1] at h1
      have h2 : 3 ^ k ≤ 3 ^ 5 := Nat.pow_le_pow_right (by decide) (by omega)
      omega
    have hcell : ∀ j y, (qs.map (·.1))[j]? = some y → wo.cell? ⟨g, j, none⟩ = some y := by
      intro j y hj
      obtain ⟨A, c, e, _, _, h3⟩ := hR.1.own
      injection e with e1 e2 e3
      subst e1
      obtain ⟨b, off, e9, _, _, hcel⟩ := h3 (by have := (List.getElem?_eq_some_iff.1 hj).1; omega)
      injection e9 with e9; injection e9 with e10 e11
      subst e10 e11
      simpa using (hcel j y hj).1
    by_cases hlt : k < nv
    · have hkle : ((k : Int) + 1) ≤ (nv : Int) := by omega
      have HQ := hide hqs.out
      have HR0 := hide hR
      have HRW := hide hrows.out
      have HC0 := hide hcell
      have HBL := hide hbel
      clear hqs hR hrows hcell hbel
      go_wp2_with fail
      go_loopw [3, 6] (fun q i ws => ∃ (j g2 cap2 : Nat) (ns : List (Value × List Int)), j ≤ m ∧ i = .int .i64 j ∧ q = .slice (some ⟨g2, 0, none⟩) (m + 2 * j) cap2 ∧ Hid (ns.length = 2 * j ∧ ns.map (·.2) = signStep ((qs.map (·.2)).take j) ((k : Int) + 1)) ∧ FRT w.heap.size ws q (qs ++ ns) ∧ Hid (∀ p ∈ qs ++ ns, OwnI w.heap.size ws p.1 p.2) ∧ Hid (∀ j y, (qs.map (·.1))[j]? = some y → ws.cell? ⟨g, j, none⟩ = some y) ∧ Below w.heap.size w ws) (fun _ i _ => m - (intOf i).toNat)
      case atStart => exact ⟨0, g, cap, [], Nat.zero_le _, rfl, rfl, ⟨rfl, by simp [signStep]⟩, by simpa using HR0.out, by simpa using HRW, HC0, HBL.out⟩
      case round =>
        obtain ⟨j, g2, cap2, ns, hj, rfl, rfl, hns, hR, hrows, hcell, hbel⟩ := hrel
        obtain ⟨ws, hws⟩ : ∃ ws, ws = wr := ⟨_, rfl⟩
        subst hws
        by_cases hlt2 : j < m
        · obtain ⟨pz, hpz⟩ : ∃ pz, qs[j]? = some pz := ⟨_, List.getElem?_eq_getElem (by rw [HQ.out.1]; exact hlt2)⟩
          have hOz := hrows.out pz (List.mem_append.2 (.inl (List.mem_of_getElem? hpz)))
          have hcz := hcell.out j pz.1 (by rw [List.getElem?_map, hpz]; rfl)
          have hzs : pz.2 ∈ stg k := by rw [← HQ.out.2]; exact List.mem_map_of_mem (List.mem_of_getElem? hpz)
          obtain ⟨pv, z⟩ := pz
          dsimp only at hOz hcz hzs
          have hzu := (stg_mem k z).1 hzs
          have hzl := upC_len _ _ _ hzu
          have HP1 := hide (fun (W : World) (hW : Below ws.heap.size ws W) => s_l2PutE pv z ((k : Int) + 1) W (hOz.below hW) (by omega) (upC_var (by omega) hzu _ (by omega)))
          have hneg : IntKind.i64.wrap (-((k : Int) + 1)) = -((k : Int) + 1) := by rw [IntKind.wrap_i64]; omega
          have HP2 := hide (fun (W : World) (hW : Below ws.heap.size ws W) => (show Calls Try.prog 94 #[pv, .int .i64 (IntKind.i64.wrap (-((k : Int) + 1)))] W fun e w' => ∃ v', e = .returned v' ∧ OwnI W.heap.size w' v' (z ++ [-((k : Int) + 1)]) ∧ Below W.heap.size W w' from by rw [hneg]; exact s_l2PutE pv z (-((k : Int) + 1)) W (hOz.below hW) (by omega) (upC_var (by omega) hzu _ (by omega))))
          obtain ⟨zl, hzl2⟩ : ∃ zl, z.length = zl := ⟨_, rfl⟩
          have HZL := hide hzl2
          have HLQ := hide (show (qs ++ ns).length = m + 2 * j by rw [List.length_append, HQ.out.1, hns.out.1])
          have HLN := hide (show (qs ++ ns).length ≤ 1048576 by rw [HLQ.out]; omega)
          have HBS := hide hbel.size
          have HNS := hide hns.out
          have HRS := hide hrows.out
          have HCS := hide hcell.out
          have HR := hide hR
          have HB := hide hbel
          have HPZ := hide hpz
          have HJ := hide (show (qs.map (·.1))[j]? = some pv by rw [List.getElem?_map, hpz]; rfl)
          obtain ⟨ml, hml⟩ : ∃ ml, m + 2 * j = ml := ⟨_, rfl⟩
          rw [hml] at HR HLQ ⊢
          have HML := hide hml
          have jm : (j : Int) < (m : Int) := by omega
          have j0 : (0 : Int) ≤ (j : Int) := by omega
          clear hns hrows hcell hR hbel hpz hOz hzs hzu hzl hzl2 hml
          obtain ⟨x, hx⟩ : ∃ x : Int, x = (k : Int) + 1 := ⟨_, rfl⟩
          rw [← hx] at HP1 HP2
          clear hneg
          have HX := hide hx
          go_wp2_with fail
          rw [← hx]
          clear hx
          go_region_held3 (fun w' => w'.cell? ⟨g, j, none⟩ = some pv) (first | exact hc4 | exact below_old (w := ws) (by (repeat (first | exact hbw2 | exact hbw1 | exact Below.refl _ _ | apply below_drew_of | apply below_alloc_of))) _ _ hcz)
            ((first | (go_at_call 94; have hgo := hbw1; clear hgo; go_loud(refine (HP2.out _ ?_).mono ?_; (· (repeat (first | exact hbw1 | exact Below.refl _ _ | apply below_drew_of | apply below_alloc_of))); rintro e w2 ⟨u2, rfl, hO2, hb2⟩; obtain ⟨g3, c3, rfl⟩ := own_snoc hO2 HZL.out; have hbw2 := below_stp (w := ws) (by (repeat (first | exact hbw1 | exact Below.refl _ _ | apply below_drew_of | apply below_alloc_of))) hb2)) | (go_at_call 94; go_loud(refine (HP1.out _ ?_).mono ?_; (· (repeat (first | exact Below.refl _ _ | apply below_drew_of | apply below_alloc_of))); rintro e w1 ⟨u1, rfl, hO1, hb1⟩; obtain ⟨g1, c1, rfl⟩ := own_snoc hO1 HZL.out; have hbw1 := below_stp (w := ws) (by (repeat (first | exact Below.refl _ _ | apply below_drew_of | apply below_alloc_of))) hb1)) | ((refine step_frow2 (H := w2.heap.size) rfl _ _ rfl w.heap.size ?_ ws HR.out w2 hbw2 w1.heap.size (hO1.fints.below hb2) hO2.fints hbw1.size hb2.size ?_ HBS.out HLN.out ?_ ?_ ?_ ?_); (· rfl); (· (repeat (first | exact Below.refl _ _ | apply below_drew_of | apply below_alloc_of))); (· rfl); (· simp); (· simp); (intro g4 cap4 w4 hF4 hB4 hg4 hm4 k4; rw [List.append_assoc] at hF4; have hc4 := now_kept HCS.out hF4 hg4 k4 _ _ HJ.out)) | fail))
          have hx9 := HX.out
          subst hx9
          obtain ⟨L, hL1, hL2⟩ : ∃ L, (qs ++ ns).length + 2 = L ∧ qs.length + ns.length + 2 = L := ⟨_, rfl, by simp⟩
          have HL := hide (show L = m + 2 * (j + 1) by rw [← hL1, HLQ.out, ← HML.out]; omega)
          rw [hL1, hL2]
          rw [hL1] at hF4
          have HN := hide (show (ns ++ [(Value.slice (some ⟨g1, 0, none⟩) (zl + 1) c1, z ++ [(k : Int) + 1]), (Value.slice (some ⟨g3, 0, none⟩) (zl + 1) c3, z ++ [-((k : Int) + 1)])]).length = 2 * (j + 1) ∧ (ns ++ [(Value.slice (some ⟨g1, 0, none⟩) (zl + 1) c1, z ++ [(k : Int) + 1]), (Value.slice (some ⟨g3, 0, none⟩) (zl + 1) c3, z ++ [-((k : Int) + 1)])]).map (·.2) = signStep ((qs.map (·.2)).take (j + 1)) ((k : Int) + 1) by
            refine ⟨by rw [List.length_append, HNS.out.1]; rfl, ?_⟩
            rw [signStep_snoc _ _ z _ (by rw [List.getElem?_map, HPZ.out]; rfl), List.map_append, HNS.out.2]
            rfl)
          have HRW4 := hide (show ∀ p ∈ qs ++ (ns ++ [(Value.slice (some ⟨g1, 0, none⟩) (zl + 1) c1, z ++ [(k : Int) + 1]), (Value.slice (some ⟨g3, 0, none⟩) (zl + 1) c3, z ++ [-((k : Int) + 1)])]), OwnI w.heap.size w4 p.1 p.2 by
            intro p hp
            rw [← List.append_assoc] at hp
            rcases List.mem_append.1 hp with hp | hp
            · have h9 := HRS.out p hp
              exact h9.grown hg4 (own_ne h9 HR.out.1)
            · rcases List.mem_cons.1 hp with rfl | hp
              · have h9 := (hO1.mono_ (hbw1.mono HBS.out) HBS.out).below hb2
                exact h9.grown hm4 (own_ne h9 (HR.out.below hbw2).1)
              · obtain rfl := List.mem_singleton.1 hp
                have h9 := hO2.mono_ (hbw2.mono HBS.out) (Nat.le_trans HBS.out hbw1.size)
                exact h9.grown hm4 (own_ne h9 (HR.out.below hbw2).1))
          have HC4 := hide (now_kept HCS.out hF4 hg4 k4)
          have HF4 := hide hF4
          have HB4 := hide (HB.out.trans hB4)
          clear hF4 hg4 hm4 k4 hc4 hB4 hO1 hO2 hL1 hL2
          go_wp2_with fail
          go_roundw
          case rel => exact ⟨j + 1, g4, cap4, _, by omega, by go_num, by rw [HL.out], HN.out, HF4.out, HRW4.out, HC4.out, HB4.out⟩
          case measure => simp [intOf]; omega
        · obtain rfl : j = m := by omega
          have HF := hide (show (qs ++ ns).length = j + 2 * j ∧ (qs ++ ns).map (·.2) = stg (k + 1) by
            refine ⟨by rw [List.length_append, hns.out.1, HQ.out.1], ?_⟩
            rw [List.map_append, hns.out.2, HQ.out.2, List.take_of_length_le (by rw [← HQ.out.2, List.length_map, HQ.out.1]; exact Nat.le_refl _)]
            rfl)
          have HRW2 := hide hrows.out
          clear hns hrows hcell
          go_wp2_with fail
          go_roundw
          case rel => exact ⟨k + 1, g2, _, cap2, qs ++ ns, by omega, by go_num, rfl, HF, hR, HRW2, hbel⟩
          case measure => (simp [intOf] <;> omega)
    · obtain rfl : k = nv := by omega
      have HQL := hide hqs.out.1
      have HQS := hide hqs.out.2
      have HR := hide hR
      have HC := hide hcell
      have HB := hide hbel
      clear hqs hR hrows hcell hbel
      go_wp2_with fail
      go_loopw [7, 8] (fun q i wr => ∃ (j g2 n2 cap2 : Nat) (ps sub : List (Value × List Int)), j ≤ m ∧ i = .int .i64 j ∧ q = .slice (some ⟨g2, 0, none⟩) n2 cap2 ∧ Hid (ps.length = n2 ∧ n2 ≤ j ∧ ps.Perm sub ∧ sub.Sublist (qs.take j) ∧ ps.map (·.2) = putAllC ((qs.map (·.2)).take j) []) ∧ OwnH wo.heap.size wr q (ps.map (·.1)) ∧ Below wo.heap.size wo wr) (fun _ i _ => m - (intOf i).toNat)
      case atStart => exact ⟨0, wo.heap.size, 0, 0, [], [], Nat.zero_le _, rfl, rfl, ⟨rfl, Nat.le_refl _, List.Perm.refl _, List.Sublist.refl _, rfl⟩, OwnH.made _ _ (Nat.le_refl _), (Below.refl _ _).alloc (Nat.le_refl _) _⟩
      case round =>
        obtain ⟨j, g2, n2, cap2, ps, sub, hj, rfl, rfl, hps, hO, hbs⟩ := hrel
        by_cases hlt2 : j < m
        · obtain ⟨pz, hpz⟩ : ∃ pz, qs[j]? = some pz := ⟨_, List.getElem?_eq_getElem (by rw [HQL.out]; exact hlt2)⟩
          have hcz := below_old hbs _ _ (HC.out j pz.1 (by rw [List.getElem?_map, hpz]; rfl))
          have hIz := ((HR.out.2.1.1 pz (List.mem_of_getElem? hpz)).ints).below hbs
          have hsm : ∀ y ∈ qs.map (·.2), smallL y := fun y hy => upC_small (by omega) ((stg_mem k y).1 (by rw [← HQS.out]; exact hy))
          have hzs : smallL pz.2 := hsm _ (List.mem_map_of_mem (List.mem_of_getElem? hpz))
          obtain ⟨A, c, e, h1, h2, h3⟩ := hO.own
          injection e with e1 e2 e3
          subst e1 e3
          have hcell2 : ∀ y v, (ps.map (·.1))[y]? = some v → wr.cell? ⟨g2, y, none⟩ = some v := by
            intro y v hv
            have h0 : 0 < (ps.map (·.1)).length := by have := (List.getElem?_eq_some_iff.1 hv).1; omega
            obtain ⟨b, off, e9, _, _, hc⟩ := h3 h0
            injection e9 with e9; injection e9 with e10 e11
            subst e10 e11
            simpa using (hc y v hv).1
          obtain ⟨hp1, hp2, hp3, hp4, hp5⟩ := hps.out
          have hlg := (hO.block_lt (g := g2) rfl).2
          have HI := hide (s_l2Insert g2 n2 cap2 pz.1 _ ps pz.2 wr ⟨by rw [← hp1]; simpa using h1, h2⟩ rfl hp1 hcell2 hlg (fun p hp => ((HR.out.2.1.1 p (List.mem_of_mem_take (hp4.subset (hp3.mem_iff.1 hp)))).ints).below hbs) hIz (by omega) (by rw [hp5]; exact putAllC_asc _ _ List.Pairwise.nil) (fun y hy => hsm y (by
            rw [hp5, putAllC_mem] at hy
            rcases hy with hy | hy
            · exact List.mem_of_mem_take hy
            · cases hy)) hzs)
          have hO' := hO
          obtain ⟨pv, z⟩ := pz
          dsimp only at hcz HI hIz
          have HTK := hide (show putC z (ps.map (·.2)) = putAllC ((qs.map (·.2)).take (j + 1)) [] by
            rw [hp5, List.take_add_one, List.getElem?_map, hpz]
            unfold putAllC
            rw [List.foldl_append]
            rfl)
          have HTJ := hide (show qs.take (j + 1) = qs.take j ++ [(pv, z)] by rw [List.take_add_one, hpz]; rfl)
          have HPS := hide hps.out
          have HBS := hide hbs
          have jm : (j : Int) < (m : Int) := by omega
          have j0 : (0 : Int) ≤ (j : Int) := by omega
          clear hps hp1 hp2 hp3 hp4 hp5 hO h1 h2 h3 e2 hcell2 hpz hIz hsm hzs hbs
          have HOW := hide hO'
          clear hO'
          go_wp2_with fail
          refine HI.out.mono ?_
          rintro e w2 ⟨v2, rfl, hh⟩
          rcases hh with ⟨hq, rfl, hqq⟩ | ⟨k9, hk9, hq, hO2, hb2⟩
          · have hO2 := HOW.out.below (hqq.below _)
            have hB2 := HBS.out.trans (hqq.below _)
            have HQ := hide (show ps.length = n2 ∧ n2 ≤ j + 1 ∧ ps.Perm sub ∧ sub.Sublist (qs.take (j + 1)) ∧ ps.map (·.2) = putAllC ((qs.map (·.2)).take (j + 1)) [] from ⟨HPS.out.1, by have := HPS.out.2.1; omega, HPS.out.2.2.1, by rw [HTJ.out]; exact HPS.out.2.2.2.1.trans (List.sublist_append_left _ _), by rw [← HTK.out, hq]⟩)
            clear hq hqq
            go_wp2_with fail
            go_roundw
            case rel => exact ⟨j + 1, g2, n2, cap2, ps, sub, by omega, by go_num, rfl, HQ.out, hO2, hB2⟩
            case measure => simp [intOf]; omega
          · obtain ⟨hp1, hp2, hp3, hp4, hp5⟩ := HPS.out
            have hperm : (ps.take k9 ++ [(pv, z)] ++ ps.drop k9).Perm (sub ++ [(pv, z)]) := by
              refine List.Perm.trans ?_ (hp3.append_right _)
              conv => rhs; rw [← List.take_append_drop k9 ps]
              rw [List.append_assoc, List.append_assoc]
              exact List.Perm.append_left _ List.perm_append_comm
            have hmap : (ps.take k9 ++ [(pv, z)] ++ ps.drop k9).map (·.1) = (ps.map (·.1)).take k9 ++ [pv] ++ (ps.map (·.1)).drop k9 := by simp [List.map_take, List.map_drop]
            rw [← hmap] at hO2
            obtain ⟨g', cap', hv'⟩ : ∃ g' cap', v2 = .slice (some ⟨g', 0, none⟩) (n2 + 1) cap' := by
              rcases hO2.2 with ⟨_, h9⟩ | ⟨g9, cap9, cur9, e9, _⟩
              · simp at h9
              · exact ⟨g9, cap9, by rw [e9]; simp; omega⟩
            subst hv'
            have hO3 := hO2.base_ HBS.out.size
            have hB2 := HBS.out.trans (hb2.mono HBS.out.size)
            have HQ := hide (show (ps.take k9 ++ [(pv, z)] ++ ps.drop k9).length = n2 + 1 ∧ n2 + 1 ≤ j + 1 ∧ (ps.take k9 ++ [(pv, z)] ++ ps.drop k9).Perm (sub ++ [(pv, z)]) ∧ (sub ++ [(pv, z)]).Sublist (qs.take (j + 1)) ∧ (ps.take k9 ++ [(pv, z)] ++ ps.drop k9).map (·.2) = putAllC ((qs.map (·.2)).take (j + 1)) [] from ⟨by simp; omega, by omega, hperm, by rw [HTJ.out]; exact hp4.append (List.Sublist.refl _), by rw [← HTK.out, hq]; simp [List.map_take, List.map_drop]⟩)
            clear hp1 hp2 hp3 hp4 hp5 hq hperm hmap hO2
            go_wp2_with fail
            go_roundw
            case rel => exact ⟨j + 1, g', n2 + 1, cap', _, _, by omega, by go_num, rfl, HQ.out, hO3, hB2⟩
            case measure => simp [intOf]; omega
        · obtain rfl : j = m := by omega
          obtain ⟨hp1, hp2, hp3, hp4, hp5⟩ := hps.out
          have hlm : (qs.map (·.2)).take j = qs.map (·.2) := List.take_of_length_le (by rw [List.length_map, HQL.out]; exact Nat.le_refl _)
          have HE := hide (show ps.map (·.2) = putAllC (stg k) [] by rw [hp5, hlm, HQS.out])
          have hR9 : Rws w.heap.size wo.heap.size wo ps := (HR.out.2.1.sub (hp4.trans (List.take_sublist _ _))).perm hp3.symm
          have HF := hide (show FRT w.heap.size wr (.slice (some ⟨g2, 0, none⟩) n2 cap2) ps from ⟨hO.base_ HB.out.size, (hR9.below hbs).mono (Nat.le_refl _) hbs.size, fun p hp h0 e => by
            obtain ⟨b9, hb8, _, hb7⟩ := (hR9.1 p hp).block h0
            rw [hb8] at e
            have := (hO.block_lt e.symm).1
            omega⟩)
          have HB2 := hide (HB.out.trans (hbs.mono HB.out.size))
          clear hps hp1 hp2 hp3 hp4 hp5 hlm hR9 hO
          go_wp2_with fail
          go_ret
          exact ⟨_, ps, rfl, HF.out, HE.out, HB2.out⟩


/-- append of one row to a header, in a region that draws its order -/
theorem step_hdrG {ops : Array Oper} {o : Oper} {a : Act} {K : Act → World → Prop} {Q : Exit → Act → World → Prop} {E : Prop} {W : World} {u : Value} (hgd : o.guard = none) (s x : Operand)
    (ho : o.op = .call { callee := .builtin .append, args := #[s, x], argTypes := #[22, 22] })
    (base : Nat) {v : Value} {vs : List Value} (hs : a.eval s = v) (wr : World) (hown : OwnH base wr v vs) (hbw : Below wr.heap.size wr W) (hb : base ≤ wr.heap.size) {L : Nat} (hL : vs.length = L) (hn : L ≤ 1073741824) (hu : u.oneCell' = true)
    {H : Nat} (hx : a.eval x = .slice (some ⟨H, 0, none⟩) 1 1) (hc0 : W.cell? ⟨H, 0, none⟩ = some u)
    (h : ∀ g cap w', OwnH base w' (.slice (some ⟨g, 0, none⟩) (L + 1) cap) (vs ++ [u]) → wr.grownBy w' v.ownBlock → (v.ownBlock = some g ∨ wr.heap.size ≤ g) → K (a.put o.dst (.slice (some ⟨g, 0, none⟩) (L + 1) cap)) w') :
    if Region.wanted o (yielded ops a.tmps) = true then Oper.wp Try.prog o a W K Q else E := by
  subst hL
  have hO := hown.below hbw
  have hbW : base ≤ W.heap.size := Nat.le_trans hb hbw.size
  obtain ⟨i0, hi, hz0, hz1, hz2⟩ := info_parts ints_info
  refine step_append_lies W hgd s x _ ho base 26 i0 (.slice none 0 0) 1 24 Try.underlying22 hi hz0 hz1 hz2 rfl (by decide) v vs.length vs hs hO ⟨H, 0, none⟩ 1 1 [u] hx rfl ?_ ?_ (by decide) ?_ ?_ hbW W.heap.size rfl ?_
  · intro j y hj
    match j, hj with
    | 0, hj => simp at hj; subst hj; simpa [Addr.add] using hc0
  · intro y hy; simp at hy; subst hy; exact hu
  · unfold maxLen; omega
  · omega
  · intro g cap w' hown2 hg hat hlt
    refine h g cap w' (by unfold OwnH; simpa using hown2) (below_grown_trans hbw hg) ?_
    rcases hat with e | e
    · exact .inl e
    · exact .inr (by have := hbw.size; omega)

theorem s_l2SubP {hi hi' : Nat} (va vb : Value) (a b : List Int) (bb : Bool) (w : World) (hb : subI b a = bb) (h : Ints hi w va a) (h2 : Ints hi' w vb b) :
    Calls Try.prog 60 #[va, vb] w fun e w' => e = .returned (.bool bb) ∧ w = w' := hb ▸ s_l2Sub va vb a b w h h2
theorem chg_grown {lo hi : Nat} {a w w' : World} {o : Option Nat} (h : Chg lo hi a w) (hg : w.grownBy w' o) (ho : ∀ b, o = some b → b = lo ∨ a.heap.size ≤ b) (hl : lo < hi) : Chg lo hi a w' := by
  refine ⟨hg.os.trans h.os, hg.tape.trans h.tape, hg.output.trans h.output, Nat.le_trans h.size hg.size, fun k hk hh => ?_⟩
  rw [hg.block k (Nat.lt_of_lt_of_le hk h.size) (fun e => by have := ho k e.symm; omega)]
  exact h.block k hk hh
theorem chg_below {lo hi : Nat} {a w w' : World} (h : Chg lo hi a w) (hb : Below w.heap.size w w') : Chg lo hi a w' :=
  ⟨hb.os.trans h.os, hb.tape.trans h.tape, hb.output.trans h.output, Nat.le_trans h.size hb.size, fun k hk hh => (hb.block k (Nat.lt_of_lt_of_le hk h.size)).trans (h.block k hk hh)⟩
theorem keptL_next {f : CnfL} {t : List (List Int)} {k : Nat} {z : List Int} (h : t[k]? = some z) : keptL f (t.take (k + 1)) [] = if ((keptL f (t.take k) []).all fun d => !subI z d) && impliesF f z then keptL f (t.take k) [] ++ [z] else keptL f (t.take k) [] := by
  rw [List.take_add_one, h]
  exact keptL_snoc f _ z []

set_option maxRecDepth 100000 in
set_option maxHeartbeats 6400000 in
theorem S_PrimeClauses {hi : Nat} (v : Value) (f : CnfL) (r0 : CnfL) (r1 : Bool) (w : World) (h : RCnf hi w v f) (hn0 : szC f ≤ 1048576) (hR : fPrimeClauses f = (r0, r1)) :
    Calls Try.prog 31 #[v] w fun e w' => ∃ v', e = .returned (.tuple #[v', .bool r1]) ∧ FCnf w.heap.size w'.heap.size w' v' r0 ∧ Below w.heap.size w w' := by
  obtain ⟨A, n1, c, rfl, ht⟩ := h.open2
  obtain ⟨vars, t⟩ := f
  dsimp only at ht ⊢
  obtain ⟨wa, hwa⟩ : ∃ wa, wa = w.alloc (.cells #[.int .i64 vars, .slice A n1 c] 29) := ⟨_, rfl⟩
  have hala : Below w.heap.size w wa := by rw [hwa]; exact (Below.refl _ _).alloc (Nat.le_refl _) _
  have hsa : wa.heap.size = w.heap.size + 1 := by rw [hwa]; simp
  have xa00 : wa.cell? ⟨w.heap.size, 0, none⟩ = some (.int .i64 vars) := by rw [hwa]; simp
  have xa01 : wa.cell? ⟨w.heap.size, 1, none⟩ = some (.slice A n1 c) := by rw [hwa]; simp
  obtain ⟨wb, hwb⟩ : ∃ wb, wb = wa.alloc (.cells #[.int .i64 0, .slice none 0 0] 29) := ⟨_, rfl⟩
  have halb : Below wa.heap.size wa wb := by rw [hwb]; exact (Below.refl _ _).alloc (Nat.le_refl _) _
  have hyr : Blk wb (w.heap.size + 1) 29 #[.int .i64 0, .slice none 0 0] := by rw [hwb, ← hsa]; exact Blk.new _ _ _
  have x00 := below_old halb _ _ xa00
  have x01 := below_old halb _ _ xa01
  have hal := hala.trans (halb.mono (by omega))
  have tf := ht.top.below hal
  have HGE := hide (show w.heap.size ≤ w.heap.size + 1 by omega)
  have HWB := hide (show wb = (w.alloc (.cells #[.int .i64 vars, .slice A n1 c] 29)).alloc (.cells #[.int .i64 0, .slice none 0 0] 29) by rw [hwb, hwa])
  clear hwb hwa h hala halb hsa xa00 xa01
  have hfail : fPrimeClauses (vars, t) = ((0, []), false) → r0 = (0, []) ∧ r1 = false := fun e => by
    rw [e] at hR
    injection hR with e1 e2
    exact ⟨e1.symm, e2.symm⟩
  cases hg : goodB (vars, t) with
  | false =>
    obtain ⟨rfl, rfl⟩ := hfail (by simp [fPrimeClauses, hg])
    clear hR hfail
    go_enter Try.func31, Try.ntmps31
    go_wp2_with fail
    rw [← HWB.out]
    refine (s_l2Good _ (vars, t) _ ⟨_, rfl, tf⟩).mono ?_
    rintro e w1 ⟨rfl, hb1⟩
    rw [hg]
    have hyr := hyr.below hb1 hyr.lt
    obtain ⟨z0, z1, g0, g1⟩ := blkTwo hyr
    obtain ⟨u0, u1, -, -⟩ := blkTwo (blkSet hyr (.int .i64 0) (.slice none 0 0))
    have HB := hide (((hal.trans (hb1.mono hal.size)).setCell (p := ⟨w.heap.size + 1, 0, none⟩) HGE.out (.int .i64 0)).setCell (p := ⟨w.heap.size + 1, 1, none⟩) HGE.out (.slice none 0 0))
    go_wp2_with fail
    refine bodyPost_ret (v := .tuple #[.agg #[.int .i64 0, .slice none 0 0], .bool false]) (by simp [results, Try.results31, go_sem, u0, u1]) rfl ⟨_, rfl, ⟨_, rfl, FTab.nil _ _ _⟩, HB.out⟩
  | true =>
    by_cases h5 : 5 < vars
    · obtain ⟨rfl, rfl⟩ := hfail (by simp [fPrimeClauses, hg]; omega)
      clear hR hfail
      go_enter Try.func31, Try.ntmps31
      go_wp2_with fail
      rw [← HWB.out]
      refine (s_l2Good _ (vars, t) _ ⟨_, rfl, tf⟩).mono ?_
      rintro e w1 ⟨rfl, hb1⟩
      rw [hg]
      have hyr := hyr.below hb1 hyr.lt
      obtain ⟨z0, z1, g0, g1⟩ := blkTwo hyr
      obtain ⟨u0, u1, -, -⟩ := blkTwo (blkSet hyr (.int .i64 0) (.slice none 0 0))
      replace x00 := below_old hb1 _ _ x00
      have HB := hide (((hal.trans (hb1.mono hal.size)).setCell (p := ⟨w.heap.size + 1, 0, none⟩) HGE.out (.int .i64 0)).setCell (p := ⟨w.heap.size + 1, 1, none⟩) HGE.out (.slice none 0 0))
      go_wp2_with fail
      refine bodyPost_ret (v := .tuple #[.agg #[.int .i64 0, .slice none 0 0], .bool false]) (by simp [results, Try.results31, go_sem, u0, u1]) rfl ⟨_, rfl, ⟨_, rfl, FTab.nil _ _ _⟩, HB.out⟩
    · obtain ⟨nv, hv, hn⟩ := varsB_nat (goodB_parts hg).1
      dsimp only at hv
      subst hv
      have hn5 : nv ≤ 5 := by omega
      have HVB := hide (show varsB (nv : Int) = true from (goodB_parts hg).1)
      have HS := hide (goodB_small hg)
      have HGD := hide hg
      have HR0 := hide hR
      clear hR hfail
      go_enter Try.func31, Try.ntmps31
      go_wp2_with fail
      rw [← HWB.out]
      refine (s_l2Good _ (_, t) _ ⟨_, rfl, tf⟩).mono ?_
      rintro e w1 ⟨rfl, hb1⟩
      rw [hg]
      replace x00 := below_old hb1 _ _ x00
      replace x01 := below_old hb1 _ _ x01
      replace tf := tf.below hb1
      replace hyr := hyr.below hb1 hyr.lt
      replace hal := hal.trans (hb1.mono hal.size)
      have HW1 := hide (show w.heap.size + 1 < w1.heap.size from hyr.lt)
      clear hb1 ht
      obtain ⟨wc, hwc⟩ : ∃ wc, wc = w1.alloc (.cells #[] 26) := ⟨_, rfl⟩
      have halc : Below w1.heap.size w1 wc := by rw [hwc]; exact (Below.refl _ _).alloc (Nat.le_refl _) _
      have hsc : wc.heap.size = w1.heap.size + 1 := by rw [hwc]; simp
      have hmade : OwnH w1.heap.size wc (.slice (some ⟨w1.heap.size, 0, none⟩) 0 0) [] := by rw [hwc]; exact OwnH.made _ _ (Nat.le_refl _)
      obtain ⟨we, hwe⟩ : ∃ we, we = wc.alloc (.cells #[.int .i64 (nv : Int), .slice (some ⟨w1.heap.size, 0, none⟩) 0 0] 29) := ⟨_, rfl⟩
      have hale : Below wc.heap.size wc we := by rw [hwe]; exact (Below.refl _ _).alloc (Nat.le_refl _) _
      have hBe : Blk we (w1.heap.size + 1) 29 #[.int .i64 (nv : Int), .slice (some ⟨w1.heap.size, 0, none⟩) 0 0] := by rw [hwe, ← hsc]; exact Blk.new _ _ _
      have hb1e : Below w1.heap.size w1 we := halc.trans (hale.mono (by omega))
      have HWE := hide (show we = (w1.alloc (.cells #[] 26)).alloc (.cells #[.int .i64 (nv : Int), .slice (some ⟨w1.heap.size, 0, none⟩) 0 0] 29) by rw [hwe, hwc])
      have hse : w1.heap.size + 1 < we.heap.size := hBe.lt
      have HFE := hide (hmade.below hale)
      have HBE := hide hBe
      have HTF := hide (tf.below hb1e)
      have HY := hide (hyr.below hb1e hyr.lt)
      have HAL := hide (hal.trans (hb1e.mono hal.size))
      have HX00 := hide (below_old hb1e _ _ x00)
      have HX01 := hide (below_old hb1e _ _ x01)
      have x0e := below_old hb1e _ _ x00
      rw [hwe, hwc] at x0e
      clear hwe hwc hale halc hsc hmade hBe tf hyr hal hb1e x01
      go_wp2_with fail
      rw [← HWE.out]
      refine (s_l5Clauses nv we hn5).mono ?_
      rintro e w2 ⟨v2, ps, rfl, hF2, hps, hb2⟩
      clear x00 x0e
      obtain ⟨ga, capa, rfl, hge, hgl⟩ : ∃ ga capa, v2 = .slice (some ⟨ga, 0, none⟩) ps.length capa ∧ we.heap.size ≤ ga ∧ ga < w2.heap.size := by
        have h0 : [] ∈ ps.map (·.2) := by rw [hps, putAllC_mem, stg_mem]; exact .inl (upC_nil _ _)
        rcases hF2.1.2 with ⟨_, h9⟩ | ⟨g9, cap9, cur9, e9, hl9, hh9, _⟩
        · have h8 : ps = [] := by simpa using h9
          rw [h8] at h0
          cases h0
        · exact ⟨g9, cap9, by rw [e9]; simp, hl9, Blk.lt (t := 26) (cs := cur9) hh9⟩
      have hcell2 : ∀ j y, (ps.map (·.1))[j]? = some y → w2.cell? ⟨ga, j, none⟩ = some y := by
        intro j y hj
        obtain ⟨A9, c9, e, _, _, h3⟩ := hF2.1.own
        injection e with e1 e2 e3
        subst e1
        obtain ⟨b, off, e9, _, _, hcel⟩ := h3 (by have := (List.getElem?_eq_some_iff.1 hj).1; omega)
        injection e9 with e9; injection e9 with e10 e11
        subst e10 e11
        simpa using (hcel j y hj).1
      have hpl : ps.length ≤ 243 := by
        have h1 := congrArg List.length hps
        have h2 := putAllC_len (stg nv) []
        have h3 : 3 ^ nv ≤ 3 ^ 5 := Nat.pow_le_pow_right (by decide) hn5
        rw [List.length_map] at h1
        rw [stg_len, List.length_nil] at h2
        omega
      have hup : ∀ p ∈ ps, UpC 1 nv p.2 := fun p hp => by
        have h1 : p.2 ∈ ps.map (·.2) := List.mem_map_of_mem hp
        rw [hps, putAllC_mem, stg_mem] at h1
        rcases h1 with h1 | h1
        · exact h1
        · cases h1
      have hs2 := hb2.size
      have HB2 := hide (HBE.out.below hb2 (by omega))
      have HO2 := hide (HFE.out.below hb2)
      have HY2 := hide (HY.out.below hb2 (by have := HW1.out; omega))
      have HAL2 := hide (HAL.out.trans (hb2.mono (by have := HAL.out.size; omega)))
      have HX0 := hide (below_old hb2 _ _ HX00.out)
      have HX1 := hide (below_old hb2 _ _ HX01.out)
      have HT2 := hide (HTF.out.below hb2)
      have HC2 := hide hcell2
      have HUP := hide hup
      have HPS := hide hps
      have HRW := hide hF2.2.1
      obtain ⟨m, hm⟩ : ∃ m, ps.length = m := ⟨_, rfl⟩
      have HM := hide hm
      rw [hm] at hpl ⊢
      have hse1 : w1.heap.size + 2 ≤ we.heap.size := by omega
      have hwx : w.heap.size + 1 < w1.heap.size := HW1.out
      clear hb2 hcell2 hup hps hm HBE HFE HY HAL HX00 HX01 HTF hF2
      go_wp2_with fail
      go_loopw [6, 7, 8] (fun i pr kk wr => ∃ (k : Nat) (q : Value) (qs : List (Value × List Int)), k ≤ m ∧ i = .int .i64 k ∧ Hid (qs.length ≤ k ∧ qs.map (·.2) = keptL ((nv : Int), t) ((ps.map (·.2)).take k) [] ∧ qs.Sublist (ps.take k)) ∧ Blk wr (w1.heap.size + 1) 29 #[.int .i64 (nv : Int), q] ∧ OwnH w1.heap.size wr q (qs.map (·.1)) ∧ Hid (∀ b, q.ownBlock = some b → b = w1.heap.size ∨ w2.heap.size ≤ b) ∧ Chg w1.heap.size (w1.heap.size + 2) w2 wr) (fun i _ _ _ => m - (intOf i).toNat)
      case atStart => exact ⟨0, _, [], Nat.zero_le _, rfl, ⟨Nat.le_refl _, rfl, List.Sublist.refl _⟩, HB2.out, HO2.out, (show ∀ b, (Value.slice (some ⟨w1.heap.size, 0, none⟩) 0 0).ownBlock = some b → b = w1.heap.size ∨ w2.heap.size ≤ b from fun b e => .inl (by simpa [Value.ownBlock] using e.symm)), chg_refl _ _ _⟩
      case round =>
        obtain ⟨k, q, qs, hk, rfl, hqs, hB, hO, hat, hchg⟩ := hrel
        obtain ⟨wo, hwo⟩ : ∃ wo, wo = wr := ⟨_, rfl⟩
        subst hwo
        obtain ⟨Aq, cq, rfl, hqc, hqm, hqo⟩ := hO.own
        obtain ⟨L, hL⟩ : ∃ L, (qs.map (·.1)).length = L := ⟨_, rfl⟩
        rw [hL] at hB hO hat hqc
        have HL := hide hL
        unfold maxLen at hqm
        have HLQ := hide (show qs.length = L by rw [← hL]; simp)
        obtain ⟨y0, y1, f0, f1⟩ := blkTwo hB
        have x0 := chg_old hchg HX0.out (.inl (by show w.heap.size < w1.heap.size; omega))
        have x1 := chg_old hchg HX1.out (.inl (by show w.heap.size < w1.heap.size; omega))
        have hLk : L ≤ k := by have := hqs.out.1; have := HLQ.out; omega
        by_cases hlt : k < m
        · obtain ⟨pz, hpz⟩ : ∃ pz, ps[k]? = some pz := ⟨_, List.getElem?_eq_getElem (by rw [HM.out]; exact hlt)⟩
          have hcz := chg_old hchg (HC2.out k pz.1 (by rw [List.getElem?_map, hpz]; rfl)) (.inr (by show _ ≤ ga; omega))
          have hzI := (((HRW.out.1 pz (List.mem_of_getElem? hpz)).chg hchg (.inr hse1)).ints).top
          have hzu := HUP.out pz (List.mem_of_getElem? hpz)
          have hqrows : ∀ p ∈ qs, Ints wo.heap.size wo p.1 p.2 := fun p hp => (((HRW.out.1 p (List.mem_of_mem_take (hqs.out.2.2.subset hp))).chg hchg (.inr hse1)).ints).top
          have HQR := hide hqrows
          have HQO := hide hqo.row
          have hkn := keptL_next (f := ((nv : Int), t)) (t := ps.map (·.2)) (k := k) (z := pz.2) (by rw [List.getElem?_map, hpz]; rfl)
          rw [← hqs.out.2.1] at hkn
          have HKN := hide hkn
          have HTJ := hide (show ps.take (k + 1) = ps.take k ++ [pz] by rw [List.take_add_one, hpz]; rfl)
          obtain ⟨pv, z⟩ := pz
          dsimp only at hcz hzI hzu
          have HZU := hide hzu
          have HZI := hide hzI
          have HQS := hide hqs.out
          have HB := hide hB
          have HO := hide hO
          have HAT := hide hat.out
          have HCH := hide hchg
          have HQO2 := hide hqo
          have km : (k : Int) < (m : Int) := by omega
          have k0 : (0 : Int) ≤ (k : Int) := by omega
          clear hpz hzI hzu hqrows hkn hqs hB hO hat hqo
          go_wp2_with fail
          go_loopw [7, 8] (fun pr kk ws => ∃ (n : Nat) (acc : Bool), n ≤ L ∧ kk = .int .i64 n ∧ pr = .bool acc ∧ Hid (((qs.map (·.2)).all fun d => !subI z d) = (acc && (((qs.map (·.2)).drop n).all fun d => !subI z d))) ∧ Quiet wo ws) (fun _ kk _ => L - (intOf kk).toNat)
          case atStart => exact ⟨0, true, Nat.zero_le _, rfl, rfl, hide (by simp), Quiet.refl _⟩
          case round =>
            obtain ⟨n, acc, hnL, rfl, rfl, hr, hq⟩ := hrel
            by_cases hlt2 : n < L
            · cases acc with
              | true =>
                obtain ⟨bq, oq, ud, d, rfl, hx, hcq, hdI⟩ := HQO.out.tab HQR.out (k := n) (by rw [HLQ.out]; exact hlt2)
                obtain ⟨bb, hsub⟩ : ∃ bb, subI z d = bb := ⟨_, rfl⟩
                have HF := hide (show ((qs.map (·.2)).all fun d => !subI z d) = (!bb && (((qs.map (·.2)).drop (n + 1)).all fun d => !subI z d)) by rw [hr.out, ← List.map_drop, hx, ← List.map_drop]; simp [hsub])
                have zd := hdI.below (hq.below wo.heap.size)
                have zc := HZI.out.below (hq.below wo.heap.size)
                rw [← hq.cell] at hcz hcq y1
                have n0 : (0 : Int) ≤ (n : Int) := by omega
                have n1 : (n : Int) < (L : Int) := by omega
                clear hr hx hdI
                go_wp2_with fail
                go_quiet ((go_at_call 60; exact quietE (s_l2SubP _ _ _ _ _ _ hsub (zd.drewN _) (zc.drewN _))))
                go_wp2_with fail
                go_roundw
                case rel => exact ⟨n + 1, !bb, by omega, by go_num, rfl, HF.out, hq.drewN _⟩
                case measure => simp [intOf]; omega
              | false =>
                rw [← hq.cell] at y1
                have HALL := hide (show ((qs.map (·.2)).all fun d => !subI z d) = false by rw [hr.out]; rfl)
                have HKF := hide (show qs.map (·.2) = keptL ((nv : Int), t) ((ps.map (·.2)).take (k + 1)) [] by rw [HKN.out, HALL.out]; rfl)
                clear hr
                go_wp2_with fail
                refine wp_region_quiet_below (by kernel_rfl) (by kernel_rfl) ?_
                repeat (go_big_quiet_step (((go_at_call 61; fail))))
                refine wpQuiet_nil ?_
                intro wq hw'
                have hbwq := below_of_regrown hw'
                clear hw'
                have hb3 := (hq.below wo.heap.size).trans (hbwq.mono (by have := hq.size; omega))
                have hB3 := HB.out.below hb3 HB.out.lt
                have hO3 := HO.out.below hb3
                have hc3 := chg_below HCH.out hb3
                have HQS2 := hide (show qs.length ≤ k + 1 ∧ qs.map (·.2) = keptL ((nv : Int), t) ((ps.map (·.2)).take (k + 1)) [] ∧ qs.Sublist (ps.take (k + 1)) from ⟨by have := HQS.out.1; omega, HKF.out, by rw [HTJ.out]; exact HQS.out.2.2.trans (List.sublist_append_left _ _)⟩)
                clear hb3
                go_wp2_with fail
                go_roundw
                case rel => exact ⟨k + 1, _, qs, by omega, by go_num, HQS2.out, hB3, hO3, HAT.out, hc3⟩
                case measure => simp [intOf]; omega
            · obtain rfl : L = n := by omega
              rw [← hq.cell] at y1
              cases acc with
              | false =>
                have HALL := hide (show ((qs.map (·.2)).all fun d => !subI z d) = false by rw [hr.out]; rfl)
                have HKF := hide (show qs.map (·.2) = keptL ((nv : Int), t) ((ps.map (·.2)).take (k + 1)) [] by rw [HKN.out, HALL.out]; rfl)
                clear hr
                go_wp2_with fail
                refine wp_region_quiet_below (by kernel_rfl) (by kernel_rfl) ?_
                repeat (go_big_quiet_step (((go_at_call 61; fail))))
                refine wpQuiet_nil ?_
                intro wq hw'
                have hbwq := below_of_regrown hw'
                clear hw'
                have hb3 := (hq.below wo.heap.size).trans (hbwq.mono (by have := hq.size; omega))
                have hB3 := HB.out.below hb3 HB.out.lt
                have hO3 := HO.out.below hb3
                have hc3 := chg_below HCH.out hb3
                have HQS2 := hide (show qs.length ≤ k + 1 ∧ qs.map (·.2) = keptL ((nv : Int), t) ((ps.map (·.2)).take (k + 1)) [] ∧ qs.Sublist (ps.take (k + 1)) from ⟨by have := HQS.out.1; omega, HKF.out, by rw [HTJ.out]; exact HQS.out.2.2.trans (List.sublist_append_left _ _)⟩)
                clear hb3
                go_wp2_with fail
                go_roundw
                case rel => exact ⟨k + 1, _, qs, by omega, by go_num, HQS2.out, hB3, hO3, HAT.out, hc3⟩
                case measure => simp [intOf]; omega
              | true =>
                have HALL := hide (show ((qs.map (·.2)).all fun d => !subI z d) = true by rw [hr.out, List.drop_of_length_le (by rw [List.length_map, HLQ.out]; exact Nat.le_refl _)]; rfl)
                have hb0 := hq.below wo.heap.size
                replace x0 := below_old hb0 _ _ x0
                replace x1 := below_old hb0 _ _ x1
                replace hcz := below_old hb0 _ _ hcz
                have hT0 := ((HT2.out.chg HCH.out (by omega)).below hb0)
                have hz0 := HZI.out.below hb0
                obtain ⟨bi, hbi⟩ : ∃ bi, impliesF ((nv : Int), t) z = bi := ⟨_, rfl⟩
                have HIM := hide (show ∀ W, Below wr.heap.size wr W → Calls Try.prog 61 #[.agg #[.int .i64 (nv : Int), .slice A n1 c], pv] W fun e w' => e = .returned (.bool bi) ∧ Below W.heap.size W w' from fun W hW => by rw [← hbi]; exact s_l5Implies _ _ _ z W ⟨_, rfl, hT0.below hW⟩ (hz0.below hW) HVB.out HS.out (upC_small (by omega) HZU.out))
                have HKF := hide (show keptL ((nv : Int), t) ((ps.map (·.2)).take (k + 1)) [] = if bi then qs.map (·.2) ++ [z] else qs.map (·.2) by rw [HKN.out, HALL.out, hbi]; rfl)
                have x0g : ∀ d os, (Go.Sort.grow (redrawn wr d) os).cell? ⟨w.heap.size, 0, none⟩ = some (.int .i64 (nv : Int)) := fun d os => below_old (below_regrown wr d os) _ _ x0
                have x1g : ∀ d os, (Go.Sort.grow (redrawn wr d) os).cell? ⟨w.heap.size, 1, none⟩ = some (.slice A n1 c) := fun d os => below_old (below_regrown wr d os) _ _ x1
                have hzg : ∀ d os, (Go.Sort.grow (redrawn wr d) os).cell? ⟨ga, k, none⟩ = some pv := fun d os => below_old (below_regrown wr d os) _ _ hcz
                have HPV := hide hz0.oneCell
                clear hr hT0 hz0 hbi hb0
                go_wp2_with fail
                refine wp_region_quiet_below (by kernel_rfl) (by kernel_rfl) ?_
                repeat (go_big_quiet_step (((go_at_call 61; exact belowC fun W hW => HIM.out W hW))))
                refine wpQuiet_nil ?_
                intro wq hw'
                have hbwq := below_of_regrown hw'
                clear hw'
                have hb3 := (hq.below wo.heap.size).trans (hbwq.mono (by have := hq.size; omega))
                have hB3 := HB.out.below hb3 HB.out.lt
                have hO3 := HO.out.below hb3
                have hc3 := chg_below HCH.out hb3
                cases bi with
                | false =>
                  have HQS2 := hide (show qs.length ≤ k + 1 ∧ qs.map (·.2) = keptL ((nv : Int), t) ((ps.map (·.2)).take (k + 1)) [] ∧ qs.Sublist (ps.take (k + 1)) from ⟨by have := HQS.out.1; omega, by rw [HKF.out]; rfl, by rw [HTJ.out]; exact HQS.out.2.2.trans (List.sublist_append_left _ _)⟩)
                  clear hb3 x0g x1g hzg
                  go_wp2_with fail
                  go_roundw
                  case rel => exact ⟨k + 1, _, qs, by omega, by go_num, HQS2.out, hB3, hO3, HAT.out, hc3⟩
                  case measure => simp [intOf]; omega
                | true =>
                  obtain ⟨Az, cz, rfl, -⟩ := id HZI.out
                  have HQS2 := hide (show (qs ++ [(Value.slice Az z.length cz, z)]).length ≤ k + 1 ∧ (qs ++ [(Value.slice Az z.length cz, z)]).map (·.2) = keptL ((nv : Int), t) ((ps.map (·.2)).take (k + 1)) [] ∧ (qs ++ [(Value.slice Az z.length cz, z)]).Sublist (ps.take (k + 1)) from ⟨by rw [List.length_append, List.length_singleton]; have := HQS.out.1; omega, by rw [HKF.out, List.map_append]; rfl, by rw [HTJ.out]; exact HQS.out.2.2.append (List.Sublist.refl _)⟩)
                  have hs3 := hc3.size
                  have HCZ3 := below_old hbwq _ _ hcz
                  obtain ⟨p0, p1, -, -⟩ := blkTwo hB3
                  have HBK := hide (show ∀ W, Below wq.heap.size wq W → W.cell? ⟨w1.heap.size + 1, 0, none⟩ = some (.int .i64 (nv : Int)) ∧ W.cell? ⟨w1.heap.size + 1, 1, none⟩ = some (.slice Aq L cq) from fun W hW => ⟨below_old hW _ _ p0, below_old hW _ _ p1⟩)
                  have HBG := hide (show ∀ W, wq.grownBy W (Value.slice Aq L cq).ownBlock → Blk W (w1.heap.size + 1) 29 #[.int .i64 (nv : Int), .slice Aq L cq] from fun W hW => (hW.block (w1.heap.size + 1) hB3.lt (fun e => by have := HAT.out _ e.symm; omega)).trans hB3)
                  have hnn : ¬ (w1.heap.size + 1 = wq.heap.size) := by omega
                  have hp2 : ∀ cs T, (wq.drew.alloc (.cells cs T)).cell? ⟨w1.heap.size + 1, 1, none⟩ = some (.slice Aq L cq) := fun cs T => (HBK.out _ (below_alloc_of (below_drew_of (Below.refl _ _)) _)).2
                  have hp3 : ∀ cs T, ((wq.alloc (.cells cs T)).drew).cell? ⟨w1.heap.size + 1, 1, none⟩ = some (.slice Aq L cq) := fun cs T => (HBK.out _ (below_drew_of (below_alloc_of (Below.refl _ _) _))).2
                  have hL3 : L ≤ 1073741824 := by omega
                  have hsz3 : w1.heap.size ≤ wq.heap.size := by omega
                  clear hb3 x0g x1g hzg hcz
                  go_wp2_with fail
                  go_region_law (first | ((refine step_hdrG (H := wq.heap.size) rfl _ _ rfl w1.heap.size ?_ wq hO3 ?_ hsz3 HL.out hL3 HPV.out ?_ ?_ ?_); (· rfl); (· (repeat (first | exact Below.refl _ _ | apply below_drew_of | apply below_alloc_of))); (· rfl); (· simp); (intro g4 cap4 w4 hO4 hg4 hat4; have hB4 := HBG.out w4 hg4; obtain ⟨b0, b1, k0', k1'⟩ := blkTwo hB4)) | fail)
                  all_goals (have hg4n : g4 ≠ w1.heap.size + 1 := by (rcases hat4 with e | e; (· have := HAT.out _ e; omega); (· omega)))
                  all_goals (have hB5 := hB4.set_ 1 (Value.slice (some ⟨g4, 0, none⟩) (L + 1) cap4))
                  all_goals (have HO5 := hide (show OwnH w1.heap.size (w4.setCell ⟨w1.heap.size + 1, 1, none⟩ (Value.slice (some ⟨g4, 0, none⟩) (L + 1) cap4)) (Value.slice (some ⟨g4, 0, none⟩) (L + 1) cap4) ((qs ++ [(Value.slice Az z.length cz, z)]).map (·.1)) from by rw [List.map_append]; exact hO4.grown (grown_set _ _ _ _) (by simpa [Value.ownBlock] using hg4n)))
                  all_goals (have HAT5 := hide (show ∀ b, (Value.slice (some ⟨g4, 0, none⟩) (L + 1) cap4).ownBlock = some b → b = w1.heap.size ∨ w2.heap.size ≤ b from fun b e => by (obtain rfl : g4 = b := (by simpa [Value.ownBlock] using e); rcases hat4 with e | e; (· exact HAT.out _ e); (· exact .inr (by omega)))))
                  all_goals (have hc5 := (chg_grown hc3 hg4 HAT.out (by omega)).setCell (p := ⟨w1.heap.size + 1, 1, none⟩) (by show _ ≤ w1.heap.size + 1; omega) (by show w1.heap.size + 1 < _; omega) (Value.slice (some ⟨g4, 0, none⟩) (L + 1) cap4))
                  all_goals clear hO4 hg4 hat4 hg4n
                  all_goals go_wp2_with fail
                  all_goals go_roundw
                  all_goals first | (exact ⟨k + 1, _, _, by omega, by go_num, HQS2.out, by simpa using hB5, HO5.out, HAT5.out, hc5⟩) | (simp [intOf]; omega)
        · obtain rfl : k = m := by omega
          have hlaw : qs.map (·.2) = primeL ((nv : Int), t) := by
            rw [hqs.out.2.1, List.take_of_length_le (by rw [List.length_map, HM.out]; exact Nat.le_refl _), HPS.out]
            rfl
          have hlen : (primeL ((nv : Int), t)).length = L := by rw [← hlaw, List.length_map]; exact HLQ.out
          have HLAW := hide hlaw
          have hy3 : Blk wo (w.heap.size + 1) 29 #[.int .i64 0, .slice none 0 0] := (hchg.block _ HY2.out.lt (.inl hwx)).trans HY2.out
          obtain ⟨z0, z1, g0, g1⟩ := blkTwo hy3
          have hal3 := below_chg HAL2.out hchg (by omega) (Nat.le_refl _)
          by_cases h60 : 60 < L
          · obtain ⟨rfl, rfl⟩ : r0 = (0, []) ∧ r1 = false := by
              have e := HR0.out
              unfold fPrimeClauses at e
              rw [if_pos (by simp [HGD.out]; omega), if_pos (by omega)] at e
              injection e with e1 e2
              exact ⟨e1.symm, e2.symm⟩
            have h60i : (60 : Int) < (L : Int) := by omega
            obtain ⟨u0, u1, -, -⟩ := blkTwo (blkSet hy3 (.int .i64 0) (.slice none 0 0))
            have HB := hide ((hal3.setCell (p := ⟨w.heap.size + 1, 0, none⟩) HGE.out (.int .i64 0)).setCell (p := ⟨w.heap.size + 1, 1, none⟩) HGE.out (.slice none 0 0))
            clear hqs hB hO hat hchg hlaw hlen hy3 hal3 x0 x1
            go_wp2_with fail
            refine bodyPost_ret (v := .tuple #[.agg #[.int .i64 0, .slice none 0 0], .bool false]) (by simp [results, Try.results31, go_sem, u0, u1]) rfl ⟨_, rfl, ⟨_, rfl, FTab.nil _ _ _⟩, HB.out⟩
          · obtain ⟨rfl, rfl⟩ : r0 = ((nv : Int), primeL ((nv : Int), t)) ∧ r1 = true := by
              have e := HR0.out
              unfold fPrimeClauses at e
              rw [if_pos (by simp [HGD.out]; omega), if_neg (by omega)] at e
              injection e with e1 e2
              exact ⟨e1.symm, e2.symm⟩
            have h60i : ¬ (60 : Int) < (L : Int) := by omega
            have hRs : Rws we.heap.size w2.heap.size w2 qs := HRW.out.sub (hqs.out.2.2.trans (List.take_sublist _ _))
            have hF : FRT w1.heap.size wo (.slice Aq L cq) qs := ⟨hO, ⟨fun p hp => ((hRs.1 p hp).chg hchg (.inr hse1)).mono (by omega) hchg.size, hRs.2⟩, fun p hp h0 e => by
              obtain ⟨b9, hb8, hb7, hb6⟩ := (hRs.1 p hp).block h0
              rw [hb8] at e
              have := hat.out _ e.symm
              omega⟩
            have hNr := hF.notAt (g := w.heap.size + 1) (by omega)
            have HFS := hide ((hF.set_ hNr 0 (.int .i64 (nv : Int))).set_ hNr 1 (.slice Aq L cq))
            obtain ⟨u0, u1, -, -⟩ := blkTwo (blkSet hy3 (.int .i64 (nv : Int)) (.slice Aq L cq))
            have HB := hide ((hal3.setCell (p := ⟨w.heap.size + 1, 0, none⟩) HGE.out (.int .i64 (nv : Int))).setCell (p := ⟨w.heap.size + 1, 1, none⟩) HGE.out (.slice Aq L cq))
            clear hqs hB hO hat hchg hlaw hlen hy3 hal3 x0 x1 hRs hF hNr
            go_wp2_with fail
            refine bodyPost_ret (v := .tuple #[.agg #[.int .i64 (nv : Int), .slice Aq L cq], .bool true]) (by simp [results, Try.results31, go_sem, u0, u1]) rfl ⟨_, rfl, ⟨_, rfl, by dsimp only; rw [← HLAW.out]; exact HFS.out.ftab.mono (by omega) (Nat.le_refl _)⟩, HB.out⟩

end Go.Proofs.Ytlipmbcjpmbjnaa
