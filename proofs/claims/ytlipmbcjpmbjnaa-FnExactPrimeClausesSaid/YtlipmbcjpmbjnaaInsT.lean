/- The walks: the reference's l2Place and l2Insert (a clause to its place, once). -/
import Derived.Test.YtlipmbcjpmbjnaaClsPl
import Derived.Test.YtlipmbcjpmbjnaaTabs2
import Derived.Test.YtlipmbcjpmbjnaaSame
import Derived.Test.YtlipmbcjpmbjnaaOwnG
import Derived.Test.YtlipmbcjpmbjnaaCmpC
namespace Go.Proofs.Ytlipmbcjpmbjnaa
open Go.RowKit
set_option linter.unusedVariables false

abbrev smallL (c : List Int) : Prop := ∀ l ∈ c, l ≠ 0 ∧ -12 ≤ l ∧ l ≤ 12
theorem before_lt {a b : List Int} (ha : smallL a) (hb : smallL b) : beforeB a b = clsLt a b := by
  unfold clsLt
  rw [cmpC_before ha hb]
  cases beforeB a b with
  | true => rfl
  | false => cases beforeB b a <;> rfl
/-- k of the clauses, the first ones, are before x -/
def IsPlace (x : List Int) (t : List (List Int)) (k : Nat) : Prop := k ≤ t.length ∧ (∀ y ∈ t.take k, clsLt y x = true) ∧ ∀ y ∈ t.drop k, clsLt y x = false
theorem place_up {t : List (List Int)} {x : List Int} {m : Nat} (hp : t.Pairwise (fun a b => clsLt a b = true)) (hm : m < t.length) (h : clsLt t[m] x = true) : ∀ y ∈ t.take (m + 1), clsLt y x = true := by
  intro y hy
  obtain ⟨j, hj, rfl⟩ := List.mem_iff_getElem.1 hy
  rw [List.length_take] at hj
  rw [List.getElem_take]
  by_cases e : j = m
  · subst e; exact h
  · exact clsLt_trans _ _ _ (List.pairwise_iff_getElem.1 hp j m (by omega) hm (by omega)) h
theorem place_dn {t : List (List Int)} {x : List Int} {m : Nat} (hp : t.Pairwise (fun a b => clsLt a b = true)) (hm : m < t.length) (h : clsLt t[m] x = false) : ∀ y ∈ t.drop m, clsLt y x = false := by
  intro y hy
  obtain ⟨j, hj, rfl⟩ := List.mem_iff_getElem.1 hy
  rw [List.length_drop] at hj
  rw [List.getElem_drop]
  by_cases e : j = 0
  · subst e; simpa using h
  · cases h9 : clsLt t[m + j] x with
    | false => rfl
    | true =>
      have := clsLt_trans _ _ _ (List.pairwise_iff_getElem.1 hp m (m + j) hm (by omega) (by omega)) h9
      rw [h] at this; cases this
theorem put_same {t : List (List Int)} {x : List Int} {k : Nat} (h : IsPlace x t k) (hk : k < t.length) (he : t[k] = x) : putC x t = t := by
  rw [putC_skip x t k h.2.1, List.drop_eq_getElem_cons hk, putC]
  have := h.2.2 t[k] (List.mem_iff_getElem?.2 ⟨0, by rw [List.getElem?_drop, Nat.add_zero, List.getElem?_eq_getElem hk]⟩)
  rw [if_neg (by rw [this]; simp), if_pos he, ← List.drop_eq_getElem_cons hk, List.take_append_drop]
theorem put_new {t : List (List Int)} {x : List Int} {k : Nat} (h : IsPlace x t k) (he : ∀ hk : k < t.length, t[k] ≠ x) : putC x t = t.take k ++ [x] ++ t.drop k := by
  rw [putC_skip x t k h.2.1]
  by_cases hk : k < t.length
  · rw [List.drop_eq_getElem_cons hk, putC]
    have := h.2.2 t[k] (List.mem_iff_getElem?.2 ⟨0, by rw [List.getElem?_drop, Nat.add_zero, List.getElem?_eq_getElem hk]⟩)
    rw [if_neg (by rw [this]; simp), if_neg (he hk)]
    simp
  · rw [List.drop_eq_nil_of_le (by omega), putC]
    simp

theorem lit_cellsV {W : World} {g : Nat} {u : Value} (h : W.cell? ⟨g, 0, none⟩ = some u) : ∀ (j : Nat) (y : Value), ([u] : List Value)[j]? = some y → W.cell? ⟨g, 0 + j, none⟩ = some y := by
  intro j y hj
  match j, hj with
  | 0, hj => simp at hj; subst hj; simpa using h
theorem OwnH.made1 (base : Nat) (w : World) (o : Obj) (hb : base ≤ w.heap.size) : OwnH base ((w.alloc o).alloc (.cells #[] 26)) (.slice (some ⟨w.heap.size + 1, 0, none⟩) 0 0) [] := by
  have h := OwnH.made base (w.alloc o) (by simp; omega)
  simpa using h
theorem step_valsG {ops : Array Oper} {o : Oper} {a : Act} {K : Act → World → Prop} {Q : Exit → Act → World → Prop} {E : Prop} {W : World} (hgd : o.guard = none) (s x : Operand)
    (ho : o.op = .call { callee := .builtin .append, args := #[s, x], argTypes := #[22, 22] })
    (base : Nat) {v : Value} {zs : List Value} (hs : a.eval s = v) (wr : World) (hown : OwnH base wr v zs) (hbw : Below wr.heap.size wr W) (hb : base ≤ wr.heap.size)
    {b off m c : Nat} {ys : List Value} (hx : a.eval x = .slice (some ⟨b, off, none⟩) m c) (hl : ys.length = m) (hc : ∀ j u, ys[j]? = some u → W.cell? ⟨b, off + j, none⟩ = some u) (h1 : ∀ y ∈ ys, y.oneCell' = true) (hn : zs.length + ys.length ≤ 1048576)
    (h : ∀ v' w', OwnH base w' v' (zs ++ ys) → Below base wr w' → W.grownBy w' v.ownBlock → K (a.put o.dst v') w') :
    if Region.wanted o (yielded ops a.tmps) = true then Oper.wp Try.prog o a W K Q else E := by
  have hw : Region.wanted o (yielded ops a.tmps) = true := by simp [Region.wanted, hgd]
  rw [if_pos hw]
  have hown' := hown.below hbw
  have hbW : base ≤ W.heap.size := Nat.le_trans hb hbw.size
  obtain ⟨i0, hi, hz0, hz1, hz2⟩ := info_parts ints_info
  refine wp_append_own W s x _ ho base 26 i0 (.slice none 0 0) 1 24 Try.underlying22 hi hz0 hz1 hz2 rfl (by decide) v zs.length zs hs hown' ⟨b, off, none⟩ m c ys hx (by simp; omega) ?_ h1 ?_ ?_ hbW ?_
  · intro j u hj
    have := hc j u hj
    unfold Addr.add
    split
    · rename_i h0; subst h0; simpa using this
    · exact this
  · unfold maxLen; omega
  · omega
  · intro v' w' hown2 hg _
    refine h v' w' (by unfold OwnH; rw [show (zs ++ ys).length = zs.length + m by simp [hl]]; exact hown2) ⟨hg.os.trans hbw.os, hg.tape.trans hbw.tape, hg.output.trans hbw.output, Nat.le_trans hbw.size hg.size, fun i hi2 => ?_⟩ hg
    rw [hg.block i (by omega) (fun e => by have := World.ownsRow.lt hown' i e.symm; omega)]
    exact hbw.block i (by omega)

set_option maxHeartbeats 1600000 in
theorem s_l2Place {hi hi' : Nat} (v vc : Value) (t : List (List Int)) (x : List Int) (w : World) (h : Tab hi w v t) (h2 : Ints hi' w vc x) (hn : t.length ≤ 100000) (hp : t.Pairwise (fun a b => clsLt a b = true)) (hs : ∀ c ∈ t, smallL c) (hx : smallL x) :
    Calls Try.prog 80 #[v, vc] w fun e w' => ∃ k : Nat, e = .returned (.int .i64 k) ∧ IsPlace x t k ∧ Quiet w w' := by
  obtain ⟨A, c, ps, rfl, hc, hm, hpt, hrow, hrows⟩ := h
  unfold maxLen at hm
  obtain ⟨n, hnn⟩ : ∃ n, t.length = n := ⟨_, rfl⟩
  have HN := hide hnn
  have HP := hide hp
  have HS := hide hs
  have HX := hide hx
  have HPT := hide hpt
  have HROW := hide hrow
  have HRS := hide hrows
  have H2 := hide h2
  rw [hnn] at hc hn ⊢
  clear hp hs hx hpt hrow hrows hnn h2
  go_enter Try.func80, Try.ntmps80
  go_wp2_with fail
  go_loopw [5, 6] (fun i j wr => ∃ f u : Nat, f ≤ u ∧ u ≤ n ∧ i = .int .i64 f ∧ j = .int .i64 u ∧ Hid ((∀ y ∈ t.take f, clsLt y x = true) ∧ ∀ y ∈ t.drop u, clsLt y x = false) ∧ Quiet w wr) (fun i j _ => (intOf j).toNat - (intOf i).toNat)
  case atStart => exact ⟨0, n, Nat.zero_le _, Nat.le_refl _, rfl, rfl, hide ⟨by simp, by rw [List.drop_of_length_le (by rw [HN.out]; exact Nat.le_refl _)]; simp⟩, Quiet.refl _⟩
  case round =>
    obtain ⟨f, u, hfu, hun, rfl, rfl, hr, hq⟩ := hrel
    by_cases hlt : f < u
    · obtain ⟨m, hmd⟩ : ∃ m : Nat, ((f : Int) + (u : Int)) / 2 = (m : Int) := ⟨(f + u) / 2, by omega⟩
      have hfm : f ≤ m := by omega
      have hmu : m < u := by omega
      have w1 : IntKind.i64.wrap ((f : Int) + (u : Int)) = (f : Int) + (u : Int) := by rw [IntKind.wrap_i64]; omega
      have w2 : IntKind.i64.wrap (m : Int) = (m : Int) := by rw [IntKind.wrap_i64]; omega
      have w4 : Int.tdiv ((f : Int) + (u : Int)) 2 = (m : Int) := by rw [Int.tdiv_eq_ediv_of_nonneg (by omega)]; exact hmd
      have hmt : m < t.length := by rw [HN.out]; omega
      have hmp : m < ps.length := by have := HPT.out; rw [this] at hmt; simpa using hmt
      obtain ⟨b, off, hA, -, hcell⟩ := HROW.out (by simp; omega)
      subst hA
      obtain ⟨pv, pz, hpm⟩ : ∃ pv pz, ps[m] = (pv, pz) := ⟨_, _, rfl⟩
      have hcm := hcell m pv (by rw [List.getElem?_map, List.getElem?_eq_getElem hmp, hpm]; rfl)
      have hpi : Ints hi w pv pz := HRS.out (pv, pz) (by rw [← hpm]; exact List.getElem_mem hmp)
      have htm : t[m] = pz := by
        have : t[m]? = some pz := by rw [HPT.out, List.getElem?_map, List.getElem?_eq_getElem hmp, hpm]; rfl
        rw [List.getElem?_eq_getElem hmt] at this
        injection this
      have hps : smallL pz := by rw [← htm]; exact HS.out _ (List.getElem_mem hmt)
      rw [← hq.cell] at hcm
      have HB := hide (s_l2Before pv vc pz x wr (hpi.below (hq.below _)) (H2.out.below (hq.below _)) hps HX.out)
      rw [before_lt hps HX.out] at HB
      have b0 : (0 : Int) ≤ (m : Int) := by omega
      have b1 : (m : Int) < (n : Int) := by omega
      obtain ⟨Av, cv, rfl, -⟩ := id hpi
      cases hb : clsLt pz x with
      | true =>
        rw [hb] at HB
        have HF := hide (show (∀ y ∈ t.take (m + 1), clsLt y x = true) ∧ ∀ y ∈ t.drop u, clsLt y x = false from ⟨place_up HP.out hmt (by rw [htm]; exact hb), hr.out.2⟩)
        clear hr hcell hpm hpi htm hmd
        go_wp2_with fail
        refine HB.out.mono ?_
        rintro e w3 ⟨rfl, hq3⟩
        go_wp2_with fail
        go_roundw
        case rel => exact ⟨m + 1, u, by omega, by omega, by go_num, rfl, HF.out, hq.trans hq3⟩
        case measure => simp [intOf]; omega
      | false =>
        rw [hb] at HB
        have HF := hide (show (∀ y ∈ t.take f, clsLt y x = true) ∧ ∀ y ∈ t.drop m, clsLt y x = false from ⟨hr.out.1, place_dn HP.out hmt (by rw [htm]; exact hb)⟩)
        clear hr hcell hpm hpi htm hmd
        go_wp2_with fail
        refine HB.out.mono ?_
        rintro e w3 ⟨rfl, hq3⟩
        go_wp2_with fail
        go_roundw
        case rel => exact ⟨f, m, by omega, by omega, rfl, by go_num, HF.out, hq.trans hq3⟩
        case measure => simp [intOf]; omega
    · obtain rfl : f = u := by omega
      have HF := hide (show IsPlace x t f from ⟨by rw [HN.out]; exact hun, hr.out⟩)
      clear hr
      go_wp2_with fail
      go_ret
      exact ⟨f, rfl, HF.out, hq⟩

set_option maxRecDepth 100000 in
set_option maxHeartbeats 3200000 in
/-- a clause to its place: the table as it was, or a new header with the row among the others -/
theorem s_l2Insert {hi hi' : Nat} (g n cap : Nat) (u : Value) (t : List (List Int)) (ps : List (Value × List Int)) (x : List Int) (w : World) (hcap : n ≤ cap ∧ cap ≤ maxLen) (hpt : t = ps.map (·.2)) (hpn : ps.length = n) (hcell : ∀ j y, (ps.map (·.1))[j]? = some y → w.cell? ⟨g, j, none⟩ = some y) (hgw : g < w.heap.size) (hrows : ∀ p ∈ ps, Ints hi w p.1 p.2) (h2 : Ints hi' w u x) (hn : n ≤ 100000) (hp : t.Pairwise (fun a b => clsLt a b = true)) (hs : ∀ c ∈ t, smallL c) (hx : smallL x) :
    Calls Try.prog 45 #[.slice (some ⟨g, 0, none⟩) n cap, u] w fun e w' => ∃ v', e = .returned v' ∧ ((putC x t = t ∧ v' = .slice (some ⟨g, 0, none⟩) n cap ∧ Quiet w w') ∨ (∃ k, k ≤ n ∧ putC x t = t.take k ++ [x] ++ t.drop k ∧ OwnH w.heap.size w' v' ((ps.map (·.1)).take k ++ [u] ++ (ps.map (·.1)).drop k) ∧ Below w.heap.size w w')) := by
  have htl : t.length = n := by rw [hpt]; simpa using hpn
  have hTab : Tab (max hi w.heap.size) w (.slice (some ⟨g, 0, none⟩) n cap) t := ⟨some ⟨g, 0, none⟩, cap, ps, by rw [htl], by rw [htl]; exact hcap.1, hcap.2, hpt, fun h0 => ⟨g, 0, rfl, by omega, fun j y hy => by rw [Nat.zero_add]; exact hcell j y hy⟩, fun p hp => (hrows p hp).mono (Nat.le_max_left _ _)⟩
  have HPL := hide (s_l2Place _ u t x w hTab h2 (by rw [htl]; exact hn) hp hs hx)
  obtain ⟨vs, hvs⟩ : ∃ vs, ps.map (·.1) = vs := ⟨_, rfl⟩
  rw [hvs] at hcell ⊢
  have HVS := hide hvs
  have hvl : vs.length = n := by rw [← hvs]; simpa using hpn
  have HTL := hide htl
  have HN' := hide hvl
  have HCELL := hide hcell
  have HPT := hide hpt
  have HPN := hide hpn
  have HRW := hide hrows
  have H2 := hide h2
  obtain ⟨Au, cu, hu, -⟩ := id h2
  subst hu
  have HOU := hide (show ∀ y ∈ [Value.slice Au x.length cu], y.oneCell' = true from fun y hy => by rw [List.mem_singleton.1 hy]; exact h2.oneCell)
  have HON := hide (show ∀ y ∈ ([] : List Value), y.oneCell' = true from fun y hy => by cases hy)
  have HOV := hide (show ∀ y ∈ vs, y.oneCell' = true from fun y hy => by
    rw [← hvs] at hy
    obtain ⟨p, hp, rfl⟩ := List.mem_map.1 hy
    exact (hrows p hp).oneCell)
  obtain ⟨hc1, hc2⟩ := hcap
  unfold maxLen at hc2
  clear hTab hp hs hx hpt hpn hcell hrows h2 hvs hvl htl
  go_enter Try.func45, Try.ntmps45
  go_wp2_with fail
  refine HPL.out.mono ?_
  rintro e w1 ⟨k, rfl, hpl, hq⟩
  have hkn' : k ≤ n := by rw [← HTL.out]; exact hpl.1
  have HKN := hide hkn'
  have HPLC := hide hpl
  by_cases hk : k < n
  · obtain ⟨pv, pz, hpm⟩ : ∃ pv pz, ps[k]'(by rw [HPN.out]; exact hk) = (pv, pz) := ⟨_, _, rfl⟩
    have hgm : ps[k]? = some (pv, pz) := by rw [List.getElem?_eq_getElem (by rw [HPN.out]; exact hk), hpm]
    have hcm : w.cell? ⟨g, k, none⟩ = some pv := HCELL.out k pv (by rw [← HVS.out, List.getElem?_map, hgm]; rfl)
    have hpi : Ints hi w pv pz := HRW.out (pv, pz) (List.mem_of_getElem? hgm)
    have htk : k < t.length := by rw [HTL.out]; exact hk
    have htm : t[k] = pz := by
      have : t[k]? = some pz := by rw [HPT.out, List.getElem?_map, hgm]; rfl
      rw [List.getElem?_eq_getElem htk] at this
      injection this
    rw [← hq.cell] at hcm
    have HSM := hide (s_l1Same pv _ pz x w1 (hpi.below (hq.below _)) (H2.out.below (hq.below _)))
    have b0 : (0 : Int) ≤ (k : Int) := by omega
    have b1 : (k : Int) < (n : Int) := by omega
    obtain ⟨Av, cv, rfl, -⟩ := id hpi
    cases hb : (pz == x) with
    | true =>
      rw [hb] at HSM
      have HQ := hide (put_same hpl htk (by rw [htm]; exact beq_iff_eq.1 hb))
      clear hpl hpm hgm hpi htm
      go_wp2_with fail
      refine HSM.out.mono ?_
      rintro e w3 ⟨rfl, hq3⟩
      go_wp2_with fail
      go_ret
      exact ⟨_, rfl, .inl ⟨HQ.out, rfl, hq.trans hq3⟩⟩
    | false =>
      rw [hb] at HSM
      have HQ := hide (put_new hpl (fun _ => by rw [htm]; exact fun e => by rw [e] at hb; simp at hb))
      clear hpl hpm hgm hpi htm
      go_wp2_with fail
      refine HSM.out.mono ?_
      rintro e ww ⟨rfl, hq3⟩
      have hqq := hq.trans hq3
      clear hq3 hq hcm
      have HSZ := hide hqq.size
      have HBW := hide (hqq.below w.heap.size)
      have HL1 := hide (show (vs.take k).length = k by rw [List.length_take, HN'.out]; omega)
      have HL2 := hide (show (vs.drop k).length = n - k by rw [List.length_drop, HN'.out])
      have HO1 := hide (show ∀ y ∈ vs.take k, y.oneCell' = true from fun y hy => HOV.out y (List.mem_of_mem_take hy))
      have HO2 := hide (show ∀ y ∈ vs.drop k, y.oneCell' = true from fun y hy => HOV.out y (List.mem_of_mem_drop hy))
      have hcq : ∀ W, Below ww.heap.size ww W → ∀ (j : Nat) (y : Value), vs[j]? = some y → W.cell? ⟨g, j, none⟩ = some y := fun W hW j y hy => below_old hW _ _ ((hqq.cell _).trans (HCELL.out j y hy))
      have HC1 := hide (show ∀ W, Below ww.heap.size ww W → ∀ (j : Nat) (y : Value), (vs.take k)[j]? = some y → W.cell? ⟨g, 0 + j, none⟩ = some y from fun W hW j y hy => by
        rw [Nat.zero_add]
        refine hcq W hW j y ?_
        rw [List.getElem?_take] at hy
        split at hy
        · exact hy
        · cases hy)
      have HC2 := hide (show ∀ W, Below ww.heap.size ww W → ∀ (j : Nat) (y : Value), (vs.drop k)[j]? = some y → W.cell? ⟨g, k + j, none⟩ = some y from fun W hW j y hy => hcq W hW _ y (by rw [List.getElem?_drop] at hy; exact hy))
      have b6 : (0 : Int) ≤ (k : Int) := by omega
      have b1' : (k : Int) ≤ (cap : Int) := by omega
      have b3 : k ≤ cap := by omega
      clear hcq
      have hce : ¬ (cap = k) := by omega
      have b7 : (k : Int) ≤ (n : Int) := by omega
      go_wp2_with fail
      go_region_held3 (fun _ => True) (trivial)
        ((first | ((refine step_valsG (b := g) (off := k) (m := n - k) (c := cap - k) (ys := vs.drop k) rfl _ _ rfl ww.heap.size ?_ w4 hown4 ?_ ?_ ?_ HL2.out ?_ HO2.out ?_ ?_); (· rfl); (· (repeat (first | exact Below.refl _ _ | apply below_drew_of | apply below_alloc_of))); (· exact hba2.size); (· rfl); (· exact HC2.out _ (by (repeat (first | exact hbc2 | exact hba2 | exact hba | exact Below.refl _ _ | apply below_drew_of | apply below_alloc_of)))); (· (have h7 := HN'.out; simp; omega)); (intro v5 w5 hown5 hb5 hg5; have hbc2 := hba2.trans hb5)) | ((refine step_valsG (b := w3.heap.size) (off := 0) (m := 1) (c := 1) (ys := [.slice Au x.length cu]) rfl _ _ rfl ww.heap.size ?_ w3 hown3 ?_ ?_ ?_ rfl ?_ HOU.out ?_ ?_); (· rfl); (· (repeat (first | exact Below.refl _ _ | apply below_drew_of | apply below_alloc_of))); (· exact hba.size); (· rfl); (· (refine lit_cellsV ?_; simp)); (· (simp; have := HL1.out; simp at this; omega)); (intro v4 w4 hown4 hb4 hg4; have hba2 := hba.trans hb4)) | ((refine step_valsG (b := ww.heap.size + 1) (off := 0) (m := 1) (c := 1) (ys := [.slice Au x.length cu]) rfl _ _ rfl ww.heap.size ?_ w3 hown3 ?_ ?_ ?_ rfl ?_ HOU.out ?_ ?_); (· rfl); (· (repeat (first | exact Below.refl _ _ | apply below_drew_of | apply below_alloc_of))); (· exact hba.size); (· rfl); (· (refine lit_cellsV ?_; exact grown_cell hg3 (by simp) (by simp [Value.ownBlock]))); (· (simp; have := HL1.out; simp at this; omega)); (intro v4 w4 hown4 hb4 hg4; have hba2 := hba.trans hb4)) | ((refine step_valsG (b := ww.heap.size) (off := 0) (m := 1) (c := 1) (ys := [.slice Au x.length cu]) rfl _ _ rfl ww.heap.size ?_ w3 hown3 ?_ ?_ ?_ rfl ?_ HOU.out ?_ ?_); (· rfl); (· (repeat (first | exact Below.refl _ _ | apply below_drew_of | apply below_alloc_of))); (· exact hba.size); (· rfl); (· (refine lit_cellsV ?_; exact grown_cell hg3 (by simp) (by simp [Value.ownBlock]))); (· (simp; have := HL1.out; simp at this; omega)); (intro v4 w4 hown4 hb4 hg4; have hba2 := hba.trans hb4)) | ((refine step_valsG (b := g) (off := 0) (m := k) (c := cap) (ys := vs.take k) rfl _ _ rfl ww.heap.size ?_ _ (OwnH.made ww.heap.size ww (Nat.le_refl _)) ?_ ?_ ?_ HL1.out ?_ HO1.out ?_ ?_); (· rfl); (· (repeat (first | exact Below.refl _ _ | apply below_drew_of | apply below_alloc_of))); (· (first | (simp; done) | (simp; omega))); (· rfl); (· exact HC1.out _ (by (repeat (first | exact hbc2 | exact hba2 | exact hba | exact Below.refl _ _ | apply below_drew_of | apply below_alloc_of)))); (· (rw [HL1.out]; simp; omega)); (intro v3 w3 hown3 hb3 hg3; have hba := (show Below ww.heap.size ww _ from (by (repeat (first | exact hbc2 | exact hba2 | exact hba | exact Below.refl _ _ | apply below_drew_of | apply below_alloc_of)))).trans hb3)) | ((refine step_valsG (b := g) (off := 0) (m := k) (c := cap) (ys := vs.take k) rfl _ _ rfl ww.heap.size ?_ _ (OwnH.made ww.heap.size ww.drew (Nat.le_refl _)) ?_ ?_ ?_ HL1.out ?_ HO1.out ?_ ?_); (· rfl); (· (repeat (first | exact Below.refl _ _ | apply below_drew_of | apply below_alloc_of))); (· (first | (simp; done) | (simp; omega))); (· rfl); (· exact HC1.out _ (by (repeat (first | exact hbc2 | exact hba2 | exact hba | exact Below.refl _ _ | apply below_drew_of | apply below_alloc_of)))); (· (rw [HL1.out]; simp; omega)); (intro v3 w3 hown3 hb3 hg3; have hba := (show Below ww.heap.size ww _ from (by (repeat (first | exact hbc2 | exact hba2 | exact hba | exact Below.refl _ _ | apply below_drew_of | apply below_alloc_of)))).trans hb3)) | ((refine step_valsG (b := g) (off := 0) (m := k) (c := cap) (ys := vs.take k) rfl _ _ rfl ww.heap.size ?_ _ (OwnH.made1 ww.heap.size ww (.cells #[.slice Au x.length cu] 26) (Nat.le_refl _)) ?_ ?_ ?_ HL1.out ?_ HO1.out ?_ ?_); (· rfl); (· (repeat (first | exact Below.refl _ _ | apply below_drew_of | apply below_alloc_of))); (· (first | (simp; done) | (simp; omega))); (· rfl); (· exact HC1.out _ (by (repeat (first | exact hbc2 | exact hba2 | exact hba | exact Below.refl _ _ | apply below_drew_of | apply below_alloc_of)))); (· (rw [HL1.out]; simp; omega)); (intro v3 w3 hown3 hb3 hg3; have hba := (show Below ww.heap.size ww _ from (by (repeat (first | exact hbc2 | exact hba2 | exact hba | exact Below.refl _ _ | apply below_drew_of | apply below_alloc_of)))).trans hb3)) | fail))
      all_goals go_wp2_with fail
      all_goals go_ret
      all_goals exact ⟨_, rfl, .inr ⟨_, HKN.out, HQ.out, by rw [← HSZ.out]; simpa using hown5, HBW.out.trans (hbc2.mono (Nat.le_of_eq HSZ.out.symm))⟩⟩
  · obtain rfl : k = n := by omega
    obtain ⟨ww, hww⟩ : ∃ ww, ww = w1 := ⟨_, rfl⟩
    subst hww
    have hqq := hq
    clear hq
    have HDN := hide (show vs.drop k = [] from List.drop_eq_nil_of_le (by rw [HN'.out]; exact Nat.le_refl _))
    have HQ := hide (put_new hpl (fun h => by rw [HTL.out] at h; exact absurd h (Nat.lt_irrefl _)))
    clear hpl
    have HSZ := hide hqq.size
    have HBW := hide (hqq.below w.heap.size)
    have HL1 := hide (show (vs.take k).length = k by rw [List.length_take, HN'.out]; omega)
    have HL2 := hide (show (vs.drop k).length = k - k by rw [List.length_drop, HN'.out])
    have HO1 := hide (show ∀ y ∈ vs.take k, y.oneCell' = true from fun y hy => HOV.out y (List.mem_of_mem_take hy))
    have HO2 := hide (show ∀ y ∈ vs.drop k, y.oneCell' = true from fun y hy => HOV.out y (List.mem_of_mem_drop hy))
    have hcq : ∀ W, Below ww.heap.size ww W → ∀ (j : Nat) (y : Value), vs[j]? = some y → W.cell? ⟨g, j, none⟩ = some y := fun W hW j y hy => below_old hW _ _ ((hqq.cell _).trans (HCELL.out j y hy))
    have HC1 := hide (show ∀ W, Below ww.heap.size ww W → ∀ (j : Nat) (y : Value), (vs.take k)[j]? = some y → W.cell? ⟨g, 0 + j, none⟩ = some y from fun W hW j y hy => by
      rw [Nat.zero_add]
      refine hcq W hW j y ?_
      rw [List.getElem?_take] at hy
      split at hy
      · exact hy
      · cases hy)
    have HC2 := hide (show ∀ W, Below ww.heap.size ww W → ∀ (j : Nat) (y : Value), (vs.drop k)[j]? = some y → W.cell? ⟨g, k + j, none⟩ = some y from fun W hW j y hy => hcq W hW _ y (by rw [List.getElem?_drop] at hy; exact hy))
    have b6 : (0 : Int) ≤ (k : Int) := by omega
    have b1' : (k : Int) ≤ (cap : Int) := by omega
    have b3 : k ≤ cap := by omega
    clear hcq
    by_cases hce : cap = k
    · subst hce
      go_wp2_with fail
      go_region_held3 (fun _ => True) (trivial)
        ((first | ((refine step_valsG (b := g) (off := 0) (m := 0) (c := 0) (ys := []) rfl _ _ rfl ww.heap.size ?_ w4 hown4 ?_ ?_ ?_ rfl ?_ HON.out ?_ ?_); (· rfl); (· (repeat (first | exact Below.refl _ _ | apply below_drew_of | apply below_alloc_of))); (· exact hba2.size); (· rfl); (· (intro j u hu; simp at hu)); (· (have h7 := HN'.out; simp; omega)); (intro v5 w5 hown5 hb5 hg5; have hbc2 := hba2.trans hb5)) | ((refine step_valsG (b := w3.heap.size) (off := 0) (m := 1) (c := 1) (ys := [.slice Au x.length cu]) rfl _ _ rfl ww.heap.size ?_ w3 hown3 ?_ ?_ ?_ rfl ?_ HOU.out ?_ ?_); (· rfl); (· (repeat (first | exact Below.refl _ _ | apply below_drew_of | apply below_alloc_of))); (· exact hba.size); (· rfl); (· (refine lit_cellsV ?_; simp)); (· (simp; have := HL1.out; simp at this; omega)); (intro v4 w4 hown4 hb4 hg4; have hba2 := hba.trans hb4)) | ((refine step_valsG (b := ww.heap.size + 1) (off := 0) (m := 1) (c := 1) (ys := [.slice Au x.length cu]) rfl _ _ rfl ww.heap.size ?_ w3 hown3 ?_ ?_ ?_ rfl ?_ HOU.out ?_ ?_); (· rfl); (· (repeat (first | exact Below.refl _ _ | apply below_drew_of | apply below_alloc_of))); (· exact hba.size); (· rfl); (· (refine lit_cellsV ?_; exact grown_cell hg3 (by simp) (by simp [Value.ownBlock]))); (· (simp; have := HL1.out; simp at this; omega)); (intro v4 w4 hown4 hb4 hg4; have hba2 := hba.trans hb4)) | ((refine step_valsG (b := ww.heap.size) (off := 0) (m := 1) (c := 1) (ys := [.slice Au x.length cu]) rfl _ _ rfl ww.heap.size ?_ w3 hown3 ?_ ?_ ?_ rfl ?_ HOU.out ?_ ?_); (· rfl); (· (repeat (first | exact Below.refl _ _ | apply below_drew_of | apply below_alloc_of))); (· exact hba.size); (· rfl); (· (refine lit_cellsV ?_; exact grown_cell hg3 (by simp) (by simp [Value.ownBlock]))); (· (simp; have := HL1.out; simp at this; omega)); (intro v4 w4 hown4 hb4 hg4; have hba2 := hba.trans hb4)) | ((refine step_valsG (b := g) (off := 0) (m := cap) (c := cap) (ys := vs.take cap) rfl _ _ rfl ww.heap.size ?_ _ (OwnH.made ww.heap.size ww (Nat.le_refl _)) ?_ ?_ ?_ HL1.out ?_ HO1.out ?_ ?_); (· rfl); (· (repeat (first | exact Below.refl _ _ | apply below_drew_of | apply below_alloc_of))); (· (first | (simp; done) | (simp; omega))); (· rfl); (· exact HC1.out _ (by (repeat (first | exact hbc2 | exact hba2 | exact hba | exact Below.refl _ _ | apply below_drew_of | apply below_alloc_of)))); (· (rw [HL1.out]; simp; omega)); (intro v3 w3 hown3 hb3 hg3; have hba := (show Below ww.heap.size ww _ from (by (repeat (first | exact hbc2 | exact hba2 | exact hba | exact Below.refl _ _ | apply below_drew_of | apply below_alloc_of)))).trans hb3)) | ((refine step_valsG (b := g) (off := 0) (m := cap) (c := cap) (ys := vs.take cap) rfl _ _ rfl ww.heap.size ?_ _ (OwnH.made ww.heap.size ww.drew (Nat.le_refl _)) ?_ ?_ ?_ HL1.out ?_ HO1.out ?_ ?_); (· rfl); (· (repeat (first | exact Below.refl _ _ | apply below_drew_of | apply below_alloc_of))); (· (first | (simp; done) | (simp; omega))); (· rfl); (· exact HC1.out _ (by (repeat (first | exact hbc2 | exact hba2 | exact hba | exact Below.refl _ _ | apply below_drew_of | apply below_alloc_of)))); (· (rw [HL1.out]; simp; omega)); (intro v3 w3 hown3 hb3 hg3; have hba := (show Below ww.heap.size ww _ from (by (repeat (first | exact hbc2 | exact hba2 | exact hba | exact Below.refl _ _ | apply below_drew_of | apply below_alloc_of)))).trans hb3)) | ((refine step_valsG (b := g) (off := 0) (m := cap) (c := cap) (ys := vs.take cap) rfl _ _ rfl ww.heap.size ?_ _ (OwnH.made1 ww.heap.size ww (.cells #[.slice Au x.length cu] 26) (Nat.le_refl _)) ?_ ?_ ?_ HL1.out ?_ HO1.out ?_ ?_); (· rfl); (· (repeat (first | exact Below.refl _ _ | apply below_drew_of | apply below_alloc_of))); (· (first | (simp; done) | (simp; omega))); (· rfl); (· exact HC1.out _ (by (repeat (first | exact hbc2 | exact hba2 | exact hba | exact Below.refl _ _ | apply below_drew_of | apply below_alloc_of)))); (· (rw [HL1.out]; simp; omega)); (intro v3 w3 hown3 hb3 hg3; have hba := (show Below ww.heap.size ww _ from (by (repeat (first | exact hbc2 | exact hba2 | exact hba | exact Below.refl _ _ | apply below_drew_of | apply below_alloc_of)))).trans hb3)) | fail))
      all_goals go_wp2_with fail
      all_goals go_ret
      all_goals exact ⟨_, rfl, .inr ⟨_, HKN.out, HQ.out, by rw [← HSZ.out]; simpa [HDN.out] using hown5, HBW.out.trans (hbc2.mono (Nat.le_of_eq HSZ.out.symm))⟩⟩
    · go_wp2_with fail
      go_region_held3 (fun _ => True) (trivial)
        ((first | ((refine step_valsG (b := g) (off := k) (m := 0) (c := cap - k) (ys := []) rfl _ _ rfl ww.heap.size ?_ w4 hown4 ?_ ?_ ?_ rfl ?_ HON.out ?_ ?_); (· rfl); (· (repeat (first | exact Below.refl _ _ | apply below_drew_of | apply below_alloc_of))); (· exact hba2.size); (· rfl); (· (intro j u hu; simp at hu)); (· (have h7 := HN'.out; simp; omega)); (intro v5 w5 hown5 hb5 hg5; have hbc2 := hba2.trans hb5)) | ((refine step_valsG (b := w3.heap.size) (off := 0) (m := 1) (c := 1) (ys := [.slice Au x.length cu]) rfl _ _ rfl ww.heap.size ?_ w3 hown3 ?_ ?_ ?_ rfl ?_ HOU.out ?_ ?_); (· rfl); (· (repeat (first | exact Below.refl _ _ | apply below_drew_of | apply below_alloc_of))); (· exact hba.size); (· rfl); (· (refine lit_cellsV ?_; simp)); (· (simp; have := HL1.out; simp at this; omega)); (intro v4 w4 hown4 hb4 hg4; have hba2 := hba.trans hb4)) | ((refine step_valsG (b := ww.heap.size + 1) (off := 0) (m := 1) (c := 1) (ys := [.slice Au x.length cu]) rfl _ _ rfl ww.heap.size ?_ w3 hown3 ?_ ?_ ?_ rfl ?_ HOU.out ?_ ?_); (· rfl); (· (repeat (first | exact Below.refl _ _ | apply below_drew_of | apply below_alloc_of))); (· exact hba.size); (· rfl); (· (refine lit_cellsV ?_; exact grown_cell hg3 (by simp) (by simp [Value.ownBlock]))); (· (simp; have := HL1.out; simp at this; omega)); (intro v4 w4 hown4 hb4 hg4; have hba2 := hba.trans hb4)) | ((refine step_valsG (b := ww.heap.size) (off := 0) (m := 1) (c := 1) (ys := [.slice Au x.length cu]) rfl _ _ rfl ww.heap.size ?_ w3 hown3 ?_ ?_ ?_ rfl ?_ HOU.out ?_ ?_); (· rfl); (· (repeat (first | exact Below.refl _ _ | apply below_drew_of | apply below_alloc_of))); (· exact hba.size); (· rfl); (· (refine lit_cellsV ?_; exact grown_cell hg3 (by simp) (by simp [Value.ownBlock]))); (· (simp; have := HL1.out; simp at this; omega)); (intro v4 w4 hown4 hb4 hg4; have hba2 := hba.trans hb4)) | ((refine step_valsG (b := g) (off := 0) (m := k) (c := cap) (ys := vs.take k) rfl _ _ rfl ww.heap.size ?_ _ (OwnH.made ww.heap.size ww (Nat.le_refl _)) ?_ ?_ ?_ HL1.out ?_ HO1.out ?_ ?_); (· rfl); (· (repeat (first | exact Below.refl _ _ | apply below_drew_of | apply below_alloc_of))); (· (first | (simp; done) | (simp; omega))); (· rfl); (· exact HC1.out _ (by (repeat (first | exact hbc2 | exact hba2 | exact hba | exact Below.refl _ _ | apply below_drew_of | apply below_alloc_of)))); (· (rw [HL1.out]; simp; omega)); (intro v3 w3 hown3 hb3 hg3; have hba := (show Below ww.heap.size ww _ from (by (repeat (first | exact hbc2 | exact hba2 | exact hba | exact Below.refl _ _ | apply below_drew_of | apply below_alloc_of)))).trans hb3)) | ((refine step_valsG (b := g) (off := 0) (m := k) (c := cap) (ys := vs.take k) rfl _ _ rfl ww.heap.size ?_ _ (OwnH.made ww.heap.size ww.drew (Nat.le_refl _)) ?_ ?_ ?_ HL1.out ?_ HO1.out ?_ ?_); (· rfl); (· (repeat (first | exact Below.refl _ _ | apply below_drew_of | apply below_alloc_of))); (· (first | (simp; done) | (simp; omega))); (· rfl); (· exact HC1.out _ (by (repeat (first | exact hbc2 | exact hba2 | exact hba | exact Below.refl _ _ | apply below_drew_of | apply below_alloc_of)))); (· (rw [HL1.out]; simp; omega)); (intro v3 w3 hown3 hb3 hg3; have hba := (show Below ww.heap.size ww _ from (by (repeat (first | exact hbc2 | exact hba2 | exact hba | exact Below.refl _ _ | apply below_drew_of | apply below_alloc_of)))).trans hb3)) | ((refine step_valsG (b := g) (off := 0) (m := k) (c := cap) (ys := vs.take k) rfl _ _ rfl ww.heap.size ?_ _ (OwnH.made1 ww.heap.size ww (.cells #[.slice Au x.length cu] 26) (Nat.le_refl _)) ?_ ?_ ?_ HL1.out ?_ HO1.out ?_ ?_); (· rfl); (· (repeat (first | exact Below.refl _ _ | apply below_drew_of | apply below_alloc_of))); (· (first | (simp; done) | (simp; omega))); (· rfl); (· exact HC1.out _ (by (repeat (first | exact hbc2 | exact hba2 | exact hba | exact Below.refl _ _ | apply below_drew_of | apply below_alloc_of)))); (· (rw [HL1.out]; simp; omega)); (intro v3 w3 hown3 hb3 hg3; have hba := (show Below ww.heap.size ww _ from (by (repeat (first | exact hbc2 | exact hba2 | exact hba | exact Below.refl _ _ | apply below_drew_of | apply below_alloc_of)))).trans hb3)) | fail))
      all_goals go_wp2_with fail
      all_goals go_ret
      all_goals exact ⟨_, rfl, .inr ⟨_, HKN.out, HQ.out, by rw [← HSZ.out]; simpa [HDN.out] using hown5, HBW.out.trans (hbc2.mono (Nat.le_of_eq HSZ.out.symm))⟩⟩

end Go.Proofs.Ytlipmbcjpmbjnaa
