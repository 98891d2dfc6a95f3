/- The library's CompactFunc at tables of the call's own: of equal rows in a run the first alone stays. -/
import Derived.Test.YtlipmbcjpmbjnaaSrtF
import Derived.Test.YtlipmbcjpmbjnaaSame
import Derived.Test.YtlipmbcjpmbjnaaDel
namespace Go.Proofs.Ytlipmbcjpmbjnaa
open Go.RowKit
set_option linter.unusedVariables false

/-- the rows that differ from the one ahead of them -/
def compF (prev : List Int) : List (Value × List Int) → List (Value × List Int)
  | [] => []
  | p :: r => if p.2 = prev then compF p.2 r else p :: compF p.2 r
def compP : List (Value × List Int) → List (Value × List Int)
  | [] => []
  | p :: r => p :: compF p.2 r
theorem compF_sub : ∀ (l : List (Value × List Int)) (prev : List Int), (compF prev l).Sublist l
  | [], _ => List.Sublist.slnil
  | p :: r, prev => by
    rw [compF]
    split
    · exact (compF_sub r p.2).cons _
    · exact (compF_sub r p.2).cons_cons _
theorem compP_sub : ∀ l : List (Value × List Int), (compP l).Sublist l
  | [] => List.Sublist.slnil
  | p :: r => (compF_sub r p.2).cons_cons _
theorem drop_more {α : Type} {L P : List α} {m : Nat} (h : L.drop m = P.drop m) : L.drop (m + 1) = P.drop (m + 1) := by
  have := congrArg (List.drop 1) h
  simpa [List.drop_drop, Nat.add_comm] using this
theorem g_EqualB {hi hi' : Nat} (va vb : Value) (a b : List Int) (bb : Bool) (w : World) (hb : (a == b) = bb) (h : Ints hi w va a) (h2 : Ints hi' w vb b) :
    Calls Try.prog 51 #[va, vb] w fun e w' => e = .returned (.bool bb) ∧ Quiet w w' := by rw [← hb]; exact g_EqualI va vb a b w h h2
theorem below_grownP {w W : World} (h : Below w.heap.size w W) (o : Option Nat) : w.grownBy W o := ⟨h.os, h.tape, h.output, h.size, fun i hi _ => h.block i hi⟩
theorem grown_setCellsP {a : World} {g : Nat} : ∀ (vs : List Value) (off : Nat) (w : World), a.grownBy w (some g) → a.grownBy (w.setCells g off vs) (some g)
  | [], _, _, h => h
  | v :: r, off, w, h => grown_setCellsP r (off + 1) _ (grown_setCell h off v)
theorem chg_of_grown {lo hi b : Nat} {w w' : World} (h : w.grownBy w' (some b)) (h1 : lo ≤ b) (h2 : b < hi) : Chg lo hi w w' :=
  ⟨h.os, h.tape, h.output, h.size, fun k hk hh => h.block k hk (by simp; omega)⟩

set_option maxHeartbeats 3200000 in
theorem g_CompactC {lo hi : Nat} (v : Value) (ps : List (Value × List Int)) (w : World) (h : FTP lo hi w v ps) (hn : ps.length ≤ 1048576) :
    Calls Try.prog 50 #[v, .func (.func 51) #[] #[]] w fun e w' => ∃ v', e = .returned v' ∧ FTP lo hi w' v' (compP ps) ∧ Chg lo hi w w' := by
  obtain ⟨A, c, rfl, hc, hm, hown, hR, hsep⟩ := h
  obtain ⟨n, hnn⟩ : ∃ n, ps.length = n := ⟨_, rfl⟩
  have HN := hide hnn
  have hm' := hm
  unfold maxLen at hm
  rw [hnn] at hc hn ⊢
  by_cases h2 : n < 2
  · have HF := hide (show compP ps = ps by
      match ps, HN.out with
      | [], _ => rfl
      | [p], _ => rfl
      | p :: q :: r, h9 => simp at h9; omega)
    have HW := hide (show FTP lo hi w (.slice A n c) ps from ⟨A, c, by rw [hnn], by rw [hnn]; exact hc, hm', hown, hR, hsep⟩)
    have c1 : (n : Int) < 2 := by omega
    clear hown hR hsep hnn
    go_enter Try.func50, Try.ntmps50
    go_wp2_with fail
    go_ret
    exact ⟨_, rfl, by rw [HF.out]; exact HW.out, chg_refl _ _ _⟩
  have c1 : ¬ ((n : Int) < 2) := by omega
  obtain ⟨b, off, rfl, hl, hh, hcel⟩ := hown.cel (by rw [List.length_map]; omega)
  have hsep2 : ∀ p ∈ ps, p.2 = [] ∨ p.1.ownBlock ≠ some b := fun p hp => by
    by_cases e : p.2 = []
    · exact .inl e
    · exact .inr (hsep p hp e)
  have HRW := hide (fun W (hW : w.grownBy W (some b)) (p : Value × List Int) (hp : p ∈ ps) => (hR.1 p hp).grown hW (hsep2 p hp))
  have HR := hide hR
  have HSEP := hide hsep
  have HCEL := hide hcel
  have HMM := hide hm'
  clear hown hcel hR hsep hsep2 hm'
  have HGT := hide (show ∀ j, j < n → ∃ x, ps[j]? = some x ∧ ps.drop j = x :: ps.drop (j + 1) ∧ x ∈ ps from fun j hj => by
    have hj' : j < ps.length := by rw [HN.out]; exact hj
    exact ⟨ps[j], List.getElem?_eq_getElem hj', List.drop_eq_getElem_cons hj', List.getElem_mem hj'⟩)
  go_enter Try.func50, Try.ntmps50
  go_wp2_with fail
  go_loopw [5] (fun i wr => ∃ j : Nat, j + 1 ≤ n ∧ i = .int .i64 ((j : Int) + 1) ∧ Hid (∃ x, ps.drop j = x :: ps.drop (j + 1) ∧ compP ps = ps.take (j + 1) ++ compF x.2 (ps.drop (j + 1))) ∧ Quiet w wr) (fun i _ => n - (intOf i).toNat)
  case atStart =>
    refine ⟨0, by omega, rfl, hide ?_, Quiet.refl _⟩
    obtain ⟨x, h1, h2, -⟩ := HGT.out 0 (by omega)
    refine ⟨x, h2, ?_⟩
    have h3 : ps = x :: ps.drop 1 := by simpa using h2
    conv => lhs; rw [h3]
    rw [compP]
    conv => rhs; rw [h3]
    rfl
  case round =>
    obtain ⟨j, hj, rfl, hx0, hq⟩ := hrel
    obtain ⟨wo, hwo⟩ : ∃ wo, wo = wr := ⟨_, rfl⟩
    subst hwo
    by_cases hlt : j + 1 < n
    · obtain ⟨⟨xv, xz⟩, hxd, hcp⟩ := hx0.out
      obtain ⟨⟨yv, yz⟩, hyg, hyd, hym⟩ := HGT.out (j + 1) hlt
      obtain ⟨⟨xv', xz'⟩, hxg, hxd', hxm⟩ := HGT.out j (by omega)
      rw [hxd] at hxd'
      injection hxd' with e1 _
      injection e1 with e1 e2
      subst e1 e2
      dsimp only at hcp
      have hxi : Ints hi wo xv xz := (HRW.out wo (below_grownP (hq.below _) _) _ hxm).ints
      have hyi : Ints hi wo yv yz := (HRW.out wo (below_grownP (hq.below _) _) _ hym).ints
      have hcx := (HCEL.out j xv (by rw [List.getElem?_map, hxg]; rfl)).1
      have hcy := (HCEL.out (j + 1) yv (by rw [List.getElem?_map, hyg]; rfl)).1
      rw [← hq.cell] at hcx hcy
      have k0 : (0 : Int) ≤ (j : Int) + 1 := by omega
      have k1 : (j : Int) + 1 < (n : Int) := by omega
      have k2 : (0 : Int) ≤ (j : Int) := by omega
      have k3 : (j : Int) < (n : Int) := by omega
      have kw : IntKind.i64.wrap ((j : Int) + 1 - 1) = (j : Int) := by rw [IntKind.wrap_i64]; omega
      have kw2 : IntKind.i64.wrap ((j : Int) + 1 + 1) = (j : Int) + 1 + 1 := by rw [IntKind.wrap_i64]; omega
      have kn : ((j : Int) + 1).toNat = j + 1 := by omega
      have ke : (j : Int) + 1 - 1 = (j : Int) := by omega
      obtain ⟨Ax, cx, rfl, -⟩ := id hxi
      obtain ⟨Ay, cy, rfl, -⟩ := id hyi
      cases hb : (yz == xz) with
      | false =>
        have HF := hide (show ∃ x, ps.drop (j + 1) = x :: ps.drop (j + 1 + 1) ∧ compP ps = ps.take (j + 1 + 1) ++ compF x.2 (ps.drop (j + 1 + 1)) from ⟨_, hyd, by
          rw [hcp, hyd, compF, if_neg (fun e => by dsimp only at e; rw [e] at hb; simp at hb), take_snoc_l hyd, List.append_assoc]; rfl⟩)
        clear hxd hcp hyg hyd hxg hx0
        go_wp2_with fail
        go_quiet ((go_at_call 51; exact quietC (g_EqualB _ _ _ _ _ _ hb (hyi.drewN _) (hxi.drewN _))))
        go_wp2_with fail
        go_roundw
        case rel => exact ⟨j + 1, by omega, by go_num, HF.out, hq.drewN _⟩
        case measure => simp [intOf]; omega
      | true =>
        have HF := hide (show compP ps = ps.take (j + 1) ++ compF yz (ps.drop (j + 1 + 1)) by rw [hcp, hyd, compF, if_pos (beq_iff_eq.1 hb)])
        have HYD := hide hyd
        have hce : ¬ (c = j + 1) := by omega
        have b1 : (j : Int) + 1 ≤ (n : Int) := by omega
        have b2 : (j : Int) + 1 ≤ (c : Int) := by omega
        clear hxd hcp hyg hyd hxg hx0
        go_wp2_with fail
        go_quiet ((go_at_call 51; exact quietC (g_EqualB _ _ _ _ _ _ hb (hyi.drewN _) (hxi.drewN _))))
        go_wp2_with fail
        clear hxi hyi hcx hcy hb hxm hym
        go_loopw [5, 7] (fun iv kv wr => ∃ (kk q : Nat) (L : List (Value × List Int)), iv = .int .i64 ((kk : Int) + 1) ∧ kv = .int .i64 ((q : Int) + 1) ∧ j ≤ kk ∧ kk ≤ j + q ∧ j + 1 + q + 1 ≤ n ∧ Hid (L.length = n) ∧ Hid (L.drop (j + 1 + q) = ps.drop (j + 1 + q) ∧ ∃ x, ps.drop (j + 1 + q) = x :: ps.drop (j + 1 + q + 1) ∧ compP ps = L.take (kk + 1) ++ compF x.2 (ps.drop (j + 1 + q + 1))) ∧ Hid (Cel wr b off (L.map (·.1))) ∧ w.grownBy wr (some b)) (fun _ kv _ => n - (intOf kv).toNat)
        case atStart => exact ⟨j, 0, ps, rfl, rfl, Nat.le_refl _, Nat.le_refl _, by omega, HN.out, ⟨rfl, _, HYD.out, HF.out⟩, HCEL.out.below ((hq.drewN _).below _), below_grownP ((hq.drewN _).below _) _⟩
        case round =>
          obtain ⟨kk, q, L, rfl, rfl, hkj, hkq, hqn, hLn, hcp, hC, hgr⟩ := hrel
          obtain ⟨hLd, ⟨xv, xz⟩, hxd, hcc⟩ := hcp.out
          dsimp only at hcc
          have hCo := hC.out
          have hLl := hLn.out
          by_cases hlt2 : j + 1 + q + 1 < n
          · obtain ⟨⟨yv, yz⟩, hyg, hyd, hym⟩ := HGT.out (j + 1 + q + 1) hlt2
            obtain ⟨⟨xv', xz'⟩, hxg, hxd', hxm⟩ := HGT.out (j + 1 + q) (by omega)
            rw [hxd] at hxd'
            injection hxd' with e1 _
            injection e1 with e1 e2
            subst e1 e2
            have hxi : Ints hi wr xv xz := (HRW.out wr hgr _ hxm).ints
            have hyi : Ints hi wr yv yz := (HRW.out wr hgr _ hym).ints
            have hLx : L[j + 1 + q]? = some (xv, xz) := by
              have := congrArg (fun l => l[0]?) hLd
              simpa [List.getElem?_drop, hxg] using this
            have hLy : L[j + 1 + q + 1]? = some (yv, yz) := by
              have := congrArg (fun l => l[1]?) hLd
              simpa [List.getElem?_drop, hyg] using this
            have hcx := (hCo (j + 1 + q) xv (by rw [List.getElem?_map, hLx]; rfl)).1
            have hcy := (hCo (j + 1 + q + 1) yv (by rw [List.getElem?_map, hLy]; rfl)).1
            rw [show off + (j + 1 + q) = off + (j + 1) + q by omega] at hcx
            rw [show off + (j + 1 + q + 1) = off + (j + 1) + (q + 1) by omega] at hcy
            have k0 : (0 : Int) ≤ (q : Int) + 1 := by omega
            have k1 : (q : Int) + 1 < ((n - (j + 1) : Nat) : Int) := by omega
            have k2 : (0 : Int) ≤ (q : Int) := by omega
            have k3 : (q : Int) < ((n - (j + 1) : Nat) : Int) := by omega
            have kw : IntKind.i64.wrap ((q : Int) + 1 - 1) = (q : Int) := by rw [IntKind.wrap_i64]; omega
            have kw2 : IntKind.i64.wrap ((q : Int) + 1 + 1) = (q : Int) + 1 + 1 := by rw [IntKind.wrap_i64]; omega
            have kw3 : IntKind.i64.wrap ((kk : Int) + 1 + 1) = (kk : Int) + 1 + 1 := by rw [IntKind.wrap_i64]; omega
            have kn : ((q : Int) + 1).toNat = q + 1 := by omega
            have ke : (q : Int) + 1 - 1 = (q : Int) := by omega
            obtain ⟨Ax, cx, rfl, -⟩ := id hxi
            obtain ⟨Ay, cy, rfl, -⟩ := id hyi
            cases hb : (yz == xz) with
            | true =>
              have HFF := hide (show L.drop (j + 1 + (q + 1)) = ps.drop (j + 1 + (q + 1)) ∧ ∃ x, ps.drop (j + 1 + (q + 1)) = x :: ps.drop (j + 1 + (q + 1) + 1) ∧ compP ps = L.take (kk + 1) ++ compF x.2 (ps.drop (j + 1 + (q + 1) + 1)) from
                ⟨drop_more hLd, _, hyd, by rw [hcc, hyd, compF, if_pos (beq_iff_eq.1 hb)]; rfl⟩)
              clear hLd hxd hcc hcp hyg hyd hxg hLx hLy hCo hLl
              go_wp2_with fail
              go_quiet ((go_at_call 51; exact quietC (g_EqualB _ _ _ _ _ _ hb (hyi.drewN _) (hxi.drewN _))))
              go_wp2_with fail
              go_roundw
              case rel => exact ⟨kk, q + 1, L, rfl, by go_num, hkj, by omega, by omega, hLn.out, HFF.out, hC.out, grown_trans hgr (below_grownP (Quiet.below ⟨_, rfl⟩ _) _)⟩
              case measure => simp [intOf]; omega
            | false =>
              have hkL : kk + 1 < L.length := by rw [hLl]; omega
              have hset : (L.set (kk + 1) (Value.slice Ay yz.length cy, yz)).take (kk + 1 + 1) = L.take (kk + 1) ++ [(Value.slice Ay yz.length cy, yz)] := by
                rw [List.take_succ_eq_append_getElem (by simpa using hkL), List.getElem_set_self]
                congr 1
                apply List.ext_getElem?
                intro i
                rw [List.getElem?_take, List.getElem?_take]
                split
                · rw [List.getElem?_set_ne (by omega)]
                · rfl
              have HFF := hide (show (L.set (kk + 1) (Value.slice Ay yz.length cy, yz)).drop (j + 1 + (q + 1)) = ps.drop (j + 1 + (q + 1)) ∧ ∃ x, ps.drop (j + 1 + (q + 1)) = x :: ps.drop (j + 1 + (q + 1) + 1) ∧ compP ps = (L.set (kk + 1) (Value.slice Ay yz.length cy, yz)).take (kk + 1 + 1) ++ compF x.2 (ps.drop (j + 1 + (q + 1) + 1)) from
                ⟨by rw [List.drop_set_of_lt (by omega)]; exact drop_more hLd, _, hyd, by rw [hset, hcc, hyd, compF, if_neg (fun e => by dsimp only at e; rw [e] at hb; simp at hb), List.append_assoc]; rfl⟩)
              obtain ⟨u0, hu0⟩ : ∃ u0, (L[kk + 1]'hkL).1 = u0 := ⟨_, rfl⟩
              have hci := hCo (kk + 1) u0 (by rw [List.getElem?_map, List.getElem?_eq_getElem hkL, ← hu0]; rfl)
              have hci1 := hci.1
              have hci2 := hci.2
              have HC3 := hide (fun m => (show Cel (wr.drewN m) b off (L.map (·.1)) from hCo).set_ (i := kk + 1) (by simpa using hkL) (Value.slice Ay yz.length cy))
              have HLS := hide (show (L.set (kk + 1) (Value.slice Ay yz.length cy, yz)).length = n by rw [List.length_set, hLl])
              have m0 : (0 : Int) ≤ (kk : Int) + 1 := by omega
              have m1 : (kk : Int) + 1 < (n : Int) := by omega
              have mn : ((kk : Int) + 1).toNat = kk + 1 := by omega
              have HGR := hide (fun m (u : Value) => grown_setCell (grown_trans hgr (below_grownP (Quiet.below ⟨m, rfl⟩ _) _) : w.grownBy (wr.drewN m) (some b)) (off + (kk + 1)) u)
              clear hLd hxd hcc hcp hyg hyd hxg hLx hLy hCo hLl hset hu0 hci hkL
              go_wp2_with fail
              go_quiet ((go_at_call 51; exact quietC (g_EqualB _ _ _ _ _ _ hb (hyi.drewN _) (hxi.drewN _))))
              go_wp2_with fail
              go_roundw
              case rel => exact ⟨kk + 1, q + 1, _, by go_num, by go_num, by omega, by omega, by omega, HLS.out, HFF.out, hide (by simpa [List.map_set] using HC3.out _), HGR.out _ _⟩
              case measure => simp [intOf]; omega
          · have hqe : j + 1 + q + 1 = n := by omega
            have hFin : compP ps = L.take (kk + 1) := by rw [hcc, List.drop_eq_nil_of_le (by rw [HN.out]; omega), compF, List.append_nil]
            have hlen : (compP ps).length = kk + 1 := by rw [hFin, List.length_take, hLl]; omega
            have hcl := fun ty => Lib.run_clear_slice (P := Try.prog) wr 22 26 ty (.slice none 0 0) Try.underlying22 (fun w => by kernel_rfl) rfl rfl b (off + (kk + 1)) (n - (kk + 1)) (c - (kk + 1)) (by omega)
              (fun x hx => by
                have := (hCo (kk + 1 + x) ((L[kk + 1 + x]'(by omega)).1) (by rw [List.getElem?_map, List.getElem?_eq_getElem (show kk + 1 + x < L.length by omega)]; rfl)).1
                rw [Nat.add_assoc, this]; rfl)
              (fun x hx => by
                have := (hCo (kk + 1 + x) ((L[kk + 1 + x]'(by omega)).1) (by rw [List.getElem?_map, List.getElem?_eq_getElem (show kk + 1 + x < L.length by omega)]; rfl)).2
                rw [Nat.add_assoc, this])
            have HFN := hide hFin
            have HLE := hide hlen
            have HCF := hide (hCo.clear (kk + 1) (List.replicate (n - (kk + 1)) (.slice none 0 0)))
            have HGF := hide (grown_setCellsP (List.replicate (n - (kk + 1)) (.slice none 0 0)) (off + (kk + 1)) wr hgr)
            have k1 : ¬ ((q : Int) + 1 < ((n - (j + 1) : Nat) : Int)) := by omega
            have hce2 : ¬ (c = kk + 1) := by omega
            have d0 : (0 : Int) ≤ (kk : Int) + 1 := by omega
            have d1 : (kk : Int) + 1 ≤ (n : Int) := by omega
            have d2 : (kk : Int) + 1 ≤ (c : Int) := by omega
            have d3 : kk + 1 ≤ c := by omega
            have dn : ((kk : Int) + 1).toNat = kk + 1 := by omega
            clear hLd hxd hcc hcp hCo hLl hFin hlen hC hLn
            go_wp2_with fail
            go_ret
            refine ⟨_, rfl, ⟨some ⟨b, off, none⟩, c, by rw [HLE.out]; rfl, by rw [HLE.out]; omega, HMM.out, ?_, ⟨fun p hp => HRW.out _ HGF.out p ((compP_sub ps).subset hp), HR.out.2.sublist (compP_sub ps)⟩, fun p hp => HSEP.out p ((compP_sub ps).subset hp)⟩, chg_of_grown HGF.out hl hh⟩
            rw [HFN.out]
            exact Cel.own (by simpa [List.map_take] using HCF.out) hl hh
    · obtain rfl : n = j + 1 := by omega
      have HF := hide (show compP ps = ps by
        obtain ⟨x, h1, h3⟩ := hx0.out
        rw [h3, List.drop_eq_nil_of_le (by rw [HN.out]; exact Nat.le_refl _), compF, List.take_of_length_le (by rw [HN.out]; exact Nat.le_refl _), List.append_nil])
      clear hx0
      go_wp2_with fail
      go_ret
      refine ⟨_, rfl, by rw [HF.out]; exact ⟨some ⟨b, off, none⟩, c, by rw [HN.out]; rfl, by rw [HN.out]; exact hc, HMM.out, (HCEL.out.own hl hh).below (hq.below _), HR.out.below (hq.below _), HSEP.out⟩, chg_of_grown (below_grownP (hq.below _) _) hl hh⟩

end Go.Proofs.Ytlipmbcjpmbjnaa
