/- The walk of the reference's IndependentParts. -/
import Derived.Test.YtlipmbcjpmbjnaaGrpS
namespace Go.Proofs.Ytlipmbcjpmbjnaa
open Go.RowKit
set_option linter.unusedVariables false

theorem nodup_le : ∀ (n : Nat) (l : List Nat), l.Nodup → (∀ a ∈ l, a < n) → l.length ≤ n
  | 0, l, _, h => by
    cases l with
    | nil => exact Nat.le_refl _
    | cons a r => have := h a (List.mem_cons_self ..); omega
  | n + 1, l, hn, h => by
    by_cases hm : n ∈ l
    · have h1 := nodup_le n (l.erase n) (hn.erase n) fun a ha => by
        have h2 := (hn.mem_erase_iff).1 ha
        have := h a h2.2
        have := h2.1
        omega
      rw [List.length_erase_of_mem hm] at h1
      omega
    · have := nodup_le n l hn fun a ha => by
        have := h a ha
        have : a ≠ n := fun e => hm (e ▸ ha)
        omega
      omega
theorem below_dn (w : World) (n : Nat) : Below w.heap.size w (w.drewN n) := ⟨rfl, rfl, rfl, Nat.le_refl _, fun _ _ => rfl⟩
theorem hasI_castL (l : List Nat) (k : Nat) : hasI (castL l) (k : Int) = decide (k ∈ l) := by
  rw [Bool.eq_iff_iff]
  simp [hasI, castL_mem]
theorem hasI_putAll (l : List Nat) (k : Nat) : hasI (putAll (castL l) []) (k : Int) = decide (k ∈ l) := by
  rw [Bool.eq_iff_iff]
  simp only [hasI, List.contains_iff_mem, decide_eq_true_eq, putAll_mem]
  constructor
  · rintro (h | h)
    · exact (castL_mem _ _).1 h
    · cases h
  · exact fun h => .inl ((castL_mem _ _).2 h)
theorem own_cell {base g L c : Nat} {w : World} {zs : List Int} {m : Nat} {x : Int} (h : OwnI base w (.slice (some ⟨g, 0, none⟩) L c) zs) (hm : zs[m]? = some x) : w.cell? ⟨g, m, none⟩ = some (.int .i64 x) := by
  obtain ⟨A, c', e, h1, h2, h3⟩ := h.fints
  injection e with e1 e2 e3
  subst e1 e3
  have hl := (List.getElem?_eq_some_iff.1 hm).1
  obtain ⟨b, off, e9, _, _, hc⟩ := h3 (by simp; omega)
  injection e9 with e9; injection e9 with e10 e11
  subst e10 e11
  have := (hc m (.int .i64 x) (by simp [hm])).1
  simpa using this
theorem own_len {base g L c : Nat} {w : World} {zs : List Int} (h : OwnI base w (.slice (some ⟨g, 0, none⟩) L c) zs) : L = zs.length ∧ L ≤ c ∧ c ≤ maxLen := by
  obtain ⟨A, c', e, h1, h2, h3⟩ := h.fints
  injection e with e1 e2 e3
  subst e3
  exact ⟨e2, by omega, h2⟩

theorem own_cells {base g L c : Nat} {w : World} {zs : List Int} (h : OwnI base w (.slice (some ⟨g, 0, none⟩) L c) zs) : ∀ (j : Nat) (u : Value), (ic zs)[j]? = some u → w.cell? ⟨g, j, none⟩ = some u := by
  intro j u hj
  rw [List.getElem?_map] at hj
  obtain ⟨x, hx, rfl⟩ := Option.map_eq_some_iff.1 hj
  exact own_cell h hx
theorem hdr_neG {base base' : Nat} {w : World} {v v' : Value} {zs : List Int} {vs : List Value} (h : OwnI base w v zs) (h2 : OwnH base' w v' vs) : v'.ownBlock = none ∨ v'.ownBlock ≠ v.ownBlock := by
  rcases own_neG h h2 with e | e
  · cases hb : v'.ownBlock with
    | none => exact .inl rfl
    | some b => exact .inr (by rw [e]; simp)
  · exact .inr fun e2 => e e2.symm
theorem castL_append (a b : List Nat) : castL (a ++ b) = castL a ++ castL b := by simp [castL]

/-- what the search knows -/
structure Srch (mt : Nat → Nat → Bool) (n r : Nat) (ll : List Nat) : Prop where
  has : r ∈ ll
  inn : ∀ a ∈ ll, a < n ∧ labI mt n a = r
  nod : ll.Nodup
theorem Srch.one (mt : Nat → Nat → Bool) {n r : Nat} (hr : r < n) (h : labI mt n r = r) : Srch mt n r [r] :=
  ⟨by simp, fun a ha => by obtain rfl := List.mem_singleton.1 ha; exact ⟨hr, h⟩, by simp⟩
theorem Srch.add {mt : Nat → Nat → Bool} {n r a k : Nat} {ll : List Nat} (h : Srch mt n r ll) (hsym : ∀ a b, mt a b = mt b a) (ha : a ∈ ll) (hk : k < n) (hm : mt a k = true) (hno : k ∉ ll) : Srch mt n r (ll ++ [k]) :=
  ⟨List.mem_append.2 (.inl h.has), fun b hb => by
    rcases List.mem_append.1 hb with hb | hb
    · exact h.inn b hb
    · obtain rfl := List.mem_singleton.1 hb
      exact ⟨hk, (search_adds mt hsym (h.inn a ha).1 hk hm).trans (h.inn a ha).2⟩, List.nodup_append.2 ⟨h.nod, by simp, fun b hb c hc => by obtain rfl := List.mem_singleton.1 hc; exact fun e => hno (e ▸ hb)⟩⟩
theorem Srch.len {mt : Nat → Nat → Bool} {n r : Nat} {ll : List Nat} (h : Srch mt n r ll) : ll.length ≤ n := nodup_le n ll h.nod fun a ha => (h.inn a ha).1
theorem putAll_snoc (l : List Nat) (k : Nat) : putAll (castL (l ++ [k])) [] = putI (k : Int) (putAll (castL l) []) := by
  rw [castL_snoc, putAll_append]
  rfl

set_option maxRecDepth 20000 in
set_option maxHeartbeats 6400000 in
theorem S_IndependentParts {hi : Nat} (v : Value) (f : CnfL) (r0 : List (List Int)) (r1 : Bool) (w : World) (h : RCnf hi w v f) (hn0 : szC f ≤ 1048576) (hR : fIndependentParts f = (r0, r1)) :
    Calls Try.prog 20 #[v] w fun e w' => ∃ v', e = .returned (.tuple #[v', .bool r1]) ∧ FTab w.heap.size w'.heap.size w' v' r0 ∧ Below w.heap.size w w' := by
  obtain ⟨A, n1, c, rfl, ht⟩ := h.open2
  obtain ⟨vars, t⟩ := f
  dsimp only at ht ⊢
  obtain ⟨wa, hwa⟩ : ∃ wa, wa = w.alloc (.cells #[.int .i64 vars, .slice A n1 c] 29) := ⟨_, rfl⟩
  have hala : Below w.heap.size w wa := by rw [hwa]; exact (Below.refl _ _).alloc (Nat.le_refl _) _
  have hsa : wa.heap.size = w.heap.size + 1 := by rw [hwa]; simp
  have xa00 : wa.cell? ⟨w.heap.size, 0, none⟩ = some (.int .i64 vars) := by rw [hwa]; simp
  have xa01 : wa.cell? ⟨w.heap.size, 1, none⟩ = some (.slice A n1 c) := by rw [hwa]; simp
  obtain ⟨wb, hwb⟩ : ∃ wb, wb = wa.alloc (.cells #[] 26) := ⟨_, rfl⟩
  have halb : Below wa.heap.size wa wb := by rw [hwb]; exact (Below.refl _ _).alloc (Nat.le_refl _) _
  have hsb : wb.heap.size = w.heap.size + 2 := by rw [hwb]; simp [hsa]
  have hob : OwnH (w.heap.size + 1) wb (.slice (some ⟨w.heap.size + 1, 0, none⟩) 0 0) [] := by rw [hwb, ← hsa]; exact OwnH.made _ _ (Nat.le_refl _)
  obtain ⟨wc, hwc⟩ : ∃ wc, wc = wb.alloc (.cells #[] 3) := ⟨_, rfl⟩
  have halc : Below wb.heap.size wb wc := by rw [hwc]; exact (Below.refl _ _).alloc (Nat.le_refl _) _
  have hoc : OwnI (w.heap.size + 1) wc (.slice (some ⟨w.heap.size + 1 + 1, 0, none⟩) 0 0) [] := by
    rw [hwc, show w.heap.size + 1 + 1 = wb.heap.size by omega]
    exact OwnI.made _ _ (by omega)
  have HG0 := hide (show GT (w.heap.size + 1) wc (.slice (some ⟨w.heap.size + 1, 0, none⟩) 0 0) [] from ⟨hob.below halc, by simp, by simp⟩)
  have hal := hala.trans ((halb.trans (halc.mono (by omega))).mono (by omega))
  have x01 := below_old (halb.trans (halc.mono (by omega))) _ _ xa01
  have tf := ht.top.below hal
  have HSZ := hide (show w.heap.size + 3 = wc.heap.size by rw [hwc]; simp [hsb])
  have HWC := hide (show wc = ((w.alloc (.cells #[.int .i64 vars, .slice A n1 c] 29)).alloc (.cells #[] 26)).alloc (.cells #[] 3) by rw [hwc, hwb, hwa])
  have HD0 := hide hoc
  clear hwc hwb hwa h hala halb halc hsa hsb xa00 xa01 hob hoc
  cases hg : goodB (vars, t) with
  | false =>
    obtain ⟨rfl, rfl⟩ : r0 = [] ∧ r1 = false := by simpa [fIndependentParts, hg, eq_comm] using hR
    clear hR
    go_enter Try.func20, Try.ntmps20
    go_wp2_with fail
    rw [← HWC.out]
    refine (s_l2Good _ (vars, t) _ ⟨_, rfl, tf⟩).mono ?_
    rintro e w1 ⟨rfl, hb1⟩
    rw [hg]
    have HF := hide ((HG0.out.below hb1).ftab.mono (show w.heap.size ≤ w.heap.size + 1 by omega) (Nat.le_refl _))
    go_wp2_with fail
    go_ret2
    exact ⟨_, rfl, HF.out, hal.trans (hb1.mono hal.size)⟩
  | true =>
    have HS := hide (goodB_small hg)
    have HT60 := hide (show t.length ≤ 60 from goodB_len hg)
    obtain ⟨hr0, rfl⟩ : r0 = partsL (labI (mtC t) t.length) t.length ∧ r1 = true := by simpa [fIndependentParts, hg, eq_comm] using hR
    have HR := hide hr0
    clear hR hr0
    go_enter Try.func20, Try.ntmps20
    go_wp2_with fail
    rw [← HWC.out]
    refine (s_l2Good _ (vars, t) _ ⟨_, rfl, tf⟩).mono ?_
    rintro e w1 ⟨rfl, hb1⟩
    rw [hg]
    replace x01 := below_old hb1 _ _ x01
    replace tf := tf.below hb1
    replace hal := hal.trans (hb1.mono hal.size)
    have hs1 : w.heap.size + 3 ≤ w1.heap.size := by have := HSZ.out; have := hb1.size; omega
    have HG1 := hide (HG0.out.below hb1)
    have HD1 := hide (HD0.out.below hb1)
    obtain ⟨A', c', us, e', hc, hm, hut, hrow, hus⟩ := tf.open_
    injection e' with e1 e2 e3
    subst e1 e2 e3
    unfold maxLen at hm
    obtain ⟨n, hun⟩ : ∃ n, us.length = n := ⟨_, rfl⟩
    have htn : t.length = n := by rw [hut, List.length_map, hun]
    rw [hun] at hc x01
    have HUS := hide hus
    have HUT := hide hut
    have HUN := hide hun
    have HAL := hide hal
    obtain ⟨mt, hmt⟩ : ∃ mt, mtC t = mt := ⟨_, rfl⟩
    have HSY := hide (show ∀ a b, mt a b = mt b a by rw [← hmt]; exact mtC_sym t)
    obtain ⟨M, hM⟩ : ∃ M, labI mt n = M := ⟨_, rfl⟩
    have hlab : Lab M := by rw [← hM]; exact labI_lab mt n
    have HRR := hide (show r0 = partsL M n by rw [HR.out, htn, hmt, hM])
    have hn60 : n ≤ 60 := by rw [← htn]; exact HT60.out
    have HMT := hide hmt
    have HM := hide hM
    have HLAB := hide hlab
    have hcellA : ∀ j u, us[j]? = some u → ∃ b off, A = some ⟨b, off, none⟩ ∧ b < w.heap.size ∧ w1.cell? ⟨b, off + j, none⟩ = some u.1 := by
      intro j u hu
      obtain ⟨b', off', e', hlt', hcc⟩ := hrow (by have := (List.getElem?_eq_some_iff.1 hu).1; simp; omega)
      exact ⟨b', off', e', hlt', hcc j u.1 (by simp [hu])⟩
    have HCA := hide hcellA
    clear hb1 hus hut tf hal hmt hM hlab hun htn hcellA
    go_wp2_with fail
    go_loopw [4, 5, 6] (fun q d i6 wr => ∃ (i : Nat) (qs : List (Value × List Int)) (dl : List Nat), i ≤ n ∧ i6 = .int .i64 i ∧ Hid (qs.map (·.2) = (leads M i).map (fun r => castL (partOf M n r)) ∧ (∀ j, j ∈ dl ↔ j < n ∧ M j < i) ∧ dl.length ≤ i * 60) ∧ GT (w.heap.size + 1) wr q qs ∧ OwnI (w.heap.size + 1) wr d (castL dl) ∧ Hid (∀ p ∈ qs, p.1.ownBlock = none ∨ p.1.ownBlock ≠ d.ownBlock) ∧ Below (w.heap.size + 1) w1 wr) (fun _ _ i6 _ => n - (intOf i6).toNat)
    case atStart => exact ⟨0, [], [], Nat.zero_le _, rfl, ⟨rfl, by simp, by simp⟩, HG1.out, HD1.out, (show ∀ p ∈ ([] : List (Value × List Int)), _ by simp), Below.refl _ _⟩
    case round =>
      obtain ⟨i, qs, dl, hi, rfl, hpl, hG, hD, hap, hbel⟩ := hrel
      obtain ⟨wo, hwo⟩ : ∃ wo, wo = wr := ⟨_, rfl⟩
      subst hwo
      have hs2 : w.heap.size + 3 ≤ wo.heap.size := Nat.le_trans hs1 hbel.size
      have y01 := (hbel.cell (p := ⟨w.heap.size, 1, none⟩) (by show w.heap.size < _; omega)).trans x01
      by_cases hlt : i < n
      · have HPL := hide hpl.out
        have HAP := hide hap.out
        have HG := hide hG
        have HD := hide hD
        have HBL := hide hbel
        have hHD := s_l1Has _ (castL dl) (i : Int) wo hD.fints.ints
        rw [hasI_castL] at hHD
        have i0 : (0 : Int) ≤ (i : Int) := by omega
        have i1 : (i : Int) < (n : Int) := by omega
        have hML := HLAB.out.le i
        clear hpl hap hG hD hbel
        by_cases hroot : M i < i
        · rw [decide_eq_true ((HPL.out.2.1 i).2 ⟨hlt, hroot⟩)] at hHD
          have HHD := hide hHD
          have HN := hide (show qs.map (·.2) = (leads M (i + 1)).map (fun r => castL (partOf M n r)) ∧ (∀ j, j ∈ dl ↔ j < n ∧ M j < i + 1) ∧ dl.length ≤ (i + 1) * 60 from by
            refine ⟨by rw [leads_succ, if_neg (by omega), List.append_nil]; exact HPL.out.1, fun j => ?_, by have := HPL.out.2.2; omega⟩
            rw [HPL.out.2.1 j]
            constructor
            · rintro ⟨a, b⟩; exact ⟨a, by omega⟩
            · rintro ⟨a, b⟩
              refine ⟨a, ?_⟩
              have : M j ≠ i := fun e => by
                have := HLAB.out.fix j
                rw [e] at this
                omega
              omega)
          clear hHD
          go_wp2_with fail
          refine HHD.out.mono ?_
          rintro e w2 ⟨rfl, rfl⟩
          go_wp2_with fail
          go_roundw
          case rel => exact ⟨i + 1, qs, dl, by omega, by go_num, HN.out, HG.out, HD.out, HAP.out, HBL.out⟩
          case measure => simp [intOf]; omega
        · have hMi : M i = i := by omega
          rw [decide_eq_false (fun h9 => by have := (HPL.out.2.1 i).1 h9; omega)] at hHD
          have HHD := hide hHD
          obtain ⟨w2, hw2⟩ : ∃ w2, w2 = (wo.alloc (.cells #[.int .i64 (i : Int)] 3)).alloc (.cells #[.int .i64 (i : Int)] 3) := ⟨_, rfl⟩
          have hal2 : Below wo.heap.size wo w2 := by rw [hw2]; exact below_alloc_of (below_alloc_of (Below.refl _ _) _) _
          have hl2 : OwnI wo.heap.size w2 (.slice (some ⟨wo.heap.size, 0, none⟩) 1 1) (castL [i]) := by
            rw [hw2]
            exact (World.ownsRow_lit (base := wo.heap.size) (e := 3) (size := 1) wo #[.int .i64 (i : Int)] 1 (Nat.le_refl _) (by simp [maxLen]) rfl).alloc _
          have hp2 : OwnI wo.heap.size w2 (.slice (some ⟨wo.heap.size + 1, 0, none⟩) 1 1) (putAll (castL [i]) []) := by
            have h9 := World.ownsRow_lit (base := wo.heap.size) (e := 3) (size := 1) (wo.alloc (.cells #[.int .i64 (i : Int)] 3)) #[.int .i64 (i : Int)] 1 (by simp) (by simp [maxLen]) rfl
            rw [hw2]
            simp only [World.size_alloc] at h9
            exact h9
          have HL2 := hide hl2
          have HP2 := hide hp2
          have HA2 := hide hal2
          have HW2 := hide hw2
          have HMI := hide hMi
          clear hHD hw2 hal2 hl2 hp2 hMi
          go_wp2_with fail
          refine HHD.out.mono ?_
          rintro e w3 ⟨rfl, rfl⟩
          go_wp2_with fail
          rw [← HW2.out]
          go_loopw [7, 8, 9] (fun l p m9 wr => ∃ (m : Nat) (ll : List Nat), m ≤ ll.length ∧ m9 = .int .i64 m ∧ Hid (Srch mt n i ll ∧ ∀ a ∈ ll.take m, ∀ k, k < n → mt a k = true → k ∈ ll) ∧ OwnI wo.heap.size wr l (castL ll) ∧ OwnI wo.heap.size wr p (putAll (castL ll) []) ∧ Hid (∀ b, l.ownBlock = some b → p.ownBlock ≠ some b) ∧ Below wo.heap.size wo wr) (fun _ _ m9 _ => n - (intOf m9).toNat)
          case atStart => exact ⟨0, [i], Nat.zero_le _, rfl, ⟨Srch.one mt hlt (by rw [HM.out]; exact HMI.out), by simp⟩, HL2.out, HP2.out, (show ∀ b, (Value.slice (some ⟨wo.heap.size, 0, none⟩) 1 1).ownBlock = some b → (Value.slice (some ⟨wo.heap.size + 1, 0, none⟩) 1 1).ownBlock ≠ some b from fun b e1 e2 => by simp [Value.ownBlock] at e1 e2; omega), HA2.out⟩
          case round =>
            obtain ⟨m, ll, hml, rfl, hsr, hl, hp, hap2, hbs⟩ := hrel
            obtain ⟨wi, hwi⟩ : ∃ wi, wi = wr := ⟨_, rfl⟩
            subst hwi
            obtain ⟨gl, cl, hle⟩ := own_some hl (fun e => by have := hsr.out.1.has; rw [← castL_mem, e] at this; cases this)
            obtain ⟨LL, hLL⟩ : ∃ LL, (castL ll).length = LL := ⟨_, rfl⟩
            rw [hLL] at hle
            subst hle
            rw [castL_length] at hLL
            have hLn : LL ≤ n := by rw [← hLL]; exact hsr.out.1.len
            have HLL := hide hLL
            have HSR := hide hsr.out
            have HLO := hide hl
            have HPO := hide hp
            have HAP2 := hide hap2.out
            have HBS := hide hbs
            rw [hLL] at hml
            clear hsr hl hp hap2 hbs hLL
            by_cases hlt3 : m < LL
            · obtain ⟨a, ha⟩ : ∃ a, ll[m]? = some a := ⟨_, List.getElem?_eq_getElem (by rw [HLL.out]; exact hlt3)⟩
              have HA := hide ha
              have m0 : (0 : Int) ≤ (m : Int) := by omega
              have m1 : (m : Int) < (LL : Int) := by omega
              clear ha
              go_wp2_with fail
              go_loopw [7, 8, 10] (fun l p k10 ws => ∃ (k : Nat) (l2 : List Nat), k ≤ n ∧ k10 = .int .i64 k ∧ Hid (Srch mt n i l2 ∧ (∀ a ∈ l2.take m, ∀ k, k < n → mt a k = true → k ∈ l2) ∧ l2[m]? = some a ∧ ∀ k', k' < k → mt a k' = true → k' ∈ l2) ∧ OwnI wo.heap.size ws l (castL l2) ∧ OwnI wo.heap.size ws p (putAll (castL l2) []) ∧ Hid (∀ b, l.ownBlock = some b → p.ownBlock ≠ some b) ∧ Below wo.heap.size wo ws) (fun _ _ k10 _ => n - (intOf k10).toNat)
              case atStart => exact ⟨0, ll, Nat.zero_le _, rfl, ⟨HSR.out.1, HSR.out.2, HA.out, fun k' h9 => by omega⟩, HLO.out, HPO.out, HAP2.out, HBS.out⟩
              case round =>
                obtain ⟨k, l2, hk, rfl, hsr, hl, hp, hap2, hbs⟩ := hrel
                obtain ⟨ws, hws⟩ : ∃ ws, ws = wr := ⟨_, rfl⟩
                subst hws
                have hs3 := hbs.size
                replace y01 := (hbs.cell (p := ⟨w.heap.size, 1, none⟩) (by show w.heap.size < _; omega)).trans y01
                by_cases hlt4 : k < n
                · obtain ⟨g3, c3, hle⟩ := own_some hl (fun e => by have := hsr.out.1.has; rw [← castL_mem, e] at this; cases this)
                  obtain ⟨L3, hL3⟩ : ∃ L3, (castL l2).length = L3 := ⟨_, rfl⟩
                  rw [hL3] at hle
                  subst hle
                  rw [castL_length] at hL3
                  obtain ⟨gp, cp, hpe⟩ := own_some hp (fun e => by have := (putAll_mem (i : Int) (castL l2) []).2 (.inl ((castL_mem _ _).2 hsr.out.1.has)); rw [e] at this; cases this)
                  obtain ⟨P3, hP3⟩ : ∃ P3, (putAll (castL l2) []).length = P3 := ⟨_, rfl⟩
                  rw [hP3] at hpe
                  subst hpe
                  have hLn3 : L3 ≤ n := by rw [← hL3]; exact hsr.out.1.len
                  have hPn3 : P3 ≤ n := by
                    have h9 := putAll_len (castL l2) []
                    rw [hP3, castL_length, hL3, List.length_nil] at h9
                    omega
                  have ham : a ∈ l2 := List.mem_of_getElem? hsr.out.2.2.1
                  have han := (hsr.out.1.inn a ham).1
                  have hmL : m < L3 := by rw [← hL3]; exact (List.getElem?_eq_some_iff.1 hsr.out.2.2.1).1
                  have hcl := own_cell hl (m := m) (x := (a : Int)) (by unfold castL; rw [List.getElem?_map, hsr.out.2.2.1]; rfl)
                  obtain ⟨pa, hpa⟩ : ∃ pa, us[a]? = some pa := ⟨_, List.getElem?_eq_getElem (by rw [HUN.out]; exact han)⟩
                  obtain ⟨pk, hpk⟩ : ∃ pk, us[k]? = some pk := ⟨_, List.getElem?_eq_getElem (by rw [HUN.out]; exact hlt4)⟩
                  obtain ⟨b, off, rfl, hbw, hca⟩ := HCA.out a pa hpa
                  obtain ⟨b', off', e', -, hck⟩ := HCA.out k pk hpk
                  injection e' with e'; injection e' with e1 e2
                  subst e1 e2
                  replace hca := (hbs.cell (p := ⟨b, off + a, none⟩) (by show b < _; omega)).trans ((HBL.out.cell (p := ⟨b, off + a, none⟩) (by show b < _; omega)).trans hca)
                  replace hck := (hbs.cell (p := ⟨b, off + k, none⟩) (by show b < _; omega)).trans ((HBL.out.cell (p := ⟨b, off + k, none⟩) (by show b < _; omega)).trans hck)
                  have hIa := ((HUS.out pa (List.mem_of_getElem? hpa)).under HBL.out (by omega)).under hbs (by omega)
                  have hIk := ((HUS.out pk (List.mem_of_getElem? hpk)).under HBL.out (by omega)).under hbs (by omega)
                  have hza : t.getD a [] = pa.2 := by rw [HUT.out, List.getD_eq_getElem?_getD, List.getElem?_map, hpa]; rfl
                  have hzk : t.getD k [] = pk.2 := by rw [HUT.out, List.getD_eq_getElem?_getD, List.getElem?_map, hpk]; rfl
                  have hmeet := meet_mtC HS.out a k
                  rw [hza, hzk, HMT.out] at hmeet
                  obtain ⟨ua, za⟩ := pa
                  obtain ⟨uk, zk⟩ := pk
                  dsimp only at hca hck hIa hIk hmeet
                  obtain ⟨Aa, ca, rfl, -⟩ := id hIa
                  obtain ⟨Ak, ck, rfl, -⟩ := id hIk
                  obtain ⟨bm, hbm⟩ : ∃ bm, mt a k = bm := ⟨_, rfl⟩
                  rw [hbm] at hmeet
                  have HBM := hide hbm
                  have HMEET := hide (show ∀ q, Calls Try.prog 43 #[.slice Aa za.length ca, .slice Ak zk.length ck] (ws.drewN q) fun e w' => e = .returned (.bool bm) ∧ ws.drewN q = w' from fun q => hmeet ▸ s_l2Meet _ _ za zk _ (hIa.drewN q) (hIk.drewN q))
                  obtain ⟨bh, hbh⟩ : ∃ bh, decide (k ∈ l2) = bh := ⟨_, rfl⟩
                  have HHAS := hide (show ∀ q, Calls Try.prog 42 #[.slice (some ⟨gp, 0, none⟩) P3 cp, .int .i64 (k : Int)] (ws.drewN q) fun e w' => e = .returned (.bool bh) ∧ ws.drewN q = w' from fun q => by
                    rw [← hbh, ← hasI_putAll]
                    exact s_l1Has _ _ (k : Int) _ (hp.fints.ints.drewN q))
                  have HSR3 := hide hsr.out
                  have HLO3 := hide hl
                  have HPO3 := hide hp
                  have HAP3 := hide hap2.out
                  have HBS3 := hide hbs
                  have HL3 := hide hL3
                  have HP3 := hide hP3
                  have HAM := hide ham
                  have a0 : (0 : Int) ≤ (a : Int) := by omega
                  have a1 : (a : Int) < (n : Int) := by omega
                  have k0 : (0 : Int) ≤ (k : Int) := by omega
                  have k1 : (k : Int) < (n : Int) := by omega
                  have m2 : (m : Int) < (L3 : Int) := by omega
                  clear hsr hl hp hap2 hbs hL3 hP3 ham hpa hpk hza hzk hmeet hbm hIa hIk
                  cases bh with
                  | true =>
                    have HN := hide (show ∀ k', k' < k + 1 → mt a k' = true → k' ∈ l2 from fun k' h9 h8 => by
                      by_cases e : k' = k
                      · subst e; exact of_decide_eq_true hbh
                      · exact HSR3.out.2.2.2 k' (by omega) h8)
                    go_wp2_with fail
                    go_quiet ((first | (go_at_call 42; exact quietE (HHAS.out _)) | (go_at_call 43; exact quietE (HMEET.out _))))
                    go_wp2_with fail
                    go_roundw
                    case rel => exact ⟨k + 1, l2, by omega, by go_num, ⟨HSR3.out.1, HSR3.out.2.1, HSR3.out.2.2.1, HN.out⟩, HLO3.out.below (below_dn _ _), HPO3.out.below (below_dn _ _), HAP3.out, below_drewN HBS3.out _⟩
                    case measure => simp [intOf]; omega
                  | false =>
                    have hno : k ∉ l2 := of_decide_eq_false hbh
                    cases bm with
                    | false =>
                      have HN := hide (show ∀ k', k' < k + 1 → mt a k' = true → k' ∈ l2 from fun k' h9 h8 => by
                        by_cases e : k' = k
                        · subst e
                          rw [HBM.out] at h8
                          cases h8
                        · exact HSR3.out.2.2.2 k' (by omega) h8)
                      go_wp2_with fail
                      go_quiet ((first | (go_at_call 42; exact quietE (HHAS.out _)) | (go_at_call 43; exact quietE (HMEET.out _))))
                      go_wp2_with fail
                      go_roundw
                      case rel => exact ⟨k + 1, l2, by omega, by go_num, ⟨HSR3.out.1, HSR3.out.2.1, HSR3.out.2.2.1, HN.out⟩, HLO3.out.below (below_dn _ _), HPO3.out.below (below_dn _ _), HAP3.out, below_drewN HBS3.out _⟩
                      case measure => simp [intOf]; omega
                    | true =>
                      have HNO := hide hno
                      have hl9 : (castL l2).length ≤ 1073741824 := by rw [castL_length, HL3.out]; omega
                      clear hno
                      go_wp2_with fail
                      go_quiet ((first | (go_at_call 42; exact quietE (HHAS.out _)) | (go_at_call 43; exact quietE (HMEET.out _))))
                      go_wp2_with (at_builtin; refine append_intA rfl _ _ rfl wo.heap.size rfl (HLO3.out.below (below_dn _ _)) rfl hl9 hs3 ?_; intro g4 c4 w4 hO4 hg4 hat4)
                      have hgl : (ws.drewN _).grownBy w4 (Value.slice (some ⟨g3, 0, none⟩) L3 c3).ownBlock := hg4
                      have hatl : (Value.slice (some ⟨g3, 0, none⟩) L3 c3).ownBlock = some g4 ∨ ws.heap.size ≤ g4 := hat4
                      have hp4 := (HPO3.out.below (below_dn ws _)).keptG hgl (.inr (HAP3.out g3 rfl))
                      have hb4 : wo.heap.size ≤ w4.heap.size := Nat.le_trans hs3 hgl.size
                      refine (s_l1PutF gp P3 cp _ (k : Int) w4 hp4 HP3.out (by omega) hb4).mono ?_
                      rintro e w5 ⟨v5, rfl, hh⟩
                      obtain ⟨hp5, hb5, hat5⟩ : OwnI wo.heap.size w5 v5 (putI (k : Int) (putAll (castL l2) [])) ∧ Below w4.heap.size w4 w5 ∧ ∀ b, v5.ownBlock = some b → b = gp ∨ w4.heap.size ≤ b := by
                        rcases hh with ⟨rfl, rfl, e⟩ | ⟨h1, h2⟩
                        · exact ⟨by rw [e]; exact hp4, Below.refl _ _, fun b e => .inl (by simpa [Value.ownBlock] using e.symm)⟩
                        · exact ⟨h1.monoB hb4, h2, fun b e => .inr (World.ownsRow.lt h1 b e).1⟩
                      have hl5 := hO4.below hb5
                      have hg4l := (World.ownsRow.lt hO4 g4 rfl).2
                      have hgpl := (World.ownsRow.lt HPO3.out gp rfl).2
                      have HAP5 := hide (show ∀ b, (Value.slice (some ⟨g4, 0, none⟩) ((castL l2).length + 1) c4).ownBlock = some b → v5.ownBlock ≠ some b from fun b e1 e2 => by
                        obtain rfl : g4 = b := by simpa [Value.ownBlock] using e1
                        rcases hat5 g4 e2 with h9 | h9
                        · rcases hatl with h8 | h8
                          · exact HAP3.out g4 h8 (by rw [h9]; rfl)
                          · omega
                        · omega)
                      have HB5 := hide (((below_drewN HBS3.out _).grown hgl hs3 (fun b e => (World.ownsRow.lt HLO3.out b e).1)).trans (hb5.mono hb4))
                      have HSN := hide (show Srch mt n i (l2 ++ [k]) ∧ (∀ a ∈ (l2 ++ [k]).take m, ∀ k', k' < n → mt a k' = true → k' ∈ l2 ++ [k]) ∧ (l2 ++ [k])[m]? = some a ∧ ∀ k', k' < k + 1 → mt a k' = true → k' ∈ l2 ++ [k] by
                        refine ⟨HSR3.out.1.add HSY.out HAM.out hlt4 HBM.out HNO.out, fun a' ha' k' h9 h8 => ?_, by rw [List.getElem?_append_left (by rw [HL3.out]; exact hmL)]; exact HSR3.out.2.2.1, fun k' h9 h8 => ?_⟩
                        · rw [List.take_append_of_le_length (by rw [HL3.out]; omega)] at ha'
                          exact List.mem_append.2 (.inl (HSR3.out.2.1 a' ha' k' h9 h8))
                        · by_cases e : k' = k
                          · subst e; simp
                          · exact List.mem_append.2 (.inl (HSR3.out.2.2.2 k' (by omega) h8)))
                      clear hh hat5 hat4 hg4 hgl hatl hp4 hb5
                      go_wp2_with fail
                      go_roundw
                      case rel => exact ⟨k + 1, l2 ++ [k], by omega, by go_num, HSN.out, by rw [castL_snoc]; exact hl5, by rw [putAll_snoc]; exact hp5, HAP5.out, HB5.out⟩
                      case measure => simp [intOf]; omega
                · obtain rfl : n = k := by omega
                  have HN := hide (show ∀ a' ∈ l2.take (m + 1), ∀ k, k < n → mt a' k = true → k ∈ l2 from fun a' h9 => by
                    rw [List.take_add_one, hsr.out.2.2.1] at h9
                    rcases List.mem_append.1 h9 with h9 | h9
                    · exact hsr.out.2.1 a' h9
                    · obtain rfl : a' = a := by simpa using h9
                      exact hsr.out.2.2.2)
                  have HSR3 := hide hsr.out
                  have HMS := hide (show m + 1 ≤ l2.length by have := (List.getElem?_eq_some_iff.1 hsr.out.2.2.1).1; omega)
                  clear hsr
                  go_wp2_with fail
                  go_roundw
                  case rel => exact ⟨m + 1, l2, HMS.out, by go_num, ⟨HSR3.out.1, HN.out⟩, hl, hp, hap2, hbs⟩
                  case measure => (simp [intOf] <;> omega)
            · obtain rfl : LL = m := by omega
              have hpart : putAll (castL ll) [] = castL (partOf M n i) := by
                rw [← HM.out]
                refine part_sorted mt HSY.out n i ll HSR.out.1.has HSR.out.1.inn fun a ha => ?_
                have h9 := HSR.out.2
                rw [List.take_of_length_le (by rw [HLL.out]; exact Nat.le_refl _)] at h9
                exact h9 a ha
              have hpi := HPO.out
              rw [hpart] at hpi
              have hip : i ∈ partOf M n i := (partOf_mem _ _ _ _).2 ⟨hlt, HMI.out⟩
              obtain ⟨gp, cp, hpe⟩ := own_some hpi (fun e => by have := (castL_mem (partOf M n i) i).2 hip; rw [e] at this; cases this)
              obtain ⟨P3, hP3⟩ : ∃ P3, (castL (partOf M n i)).length = P3 := ⟨_, rfl⟩
              rw [hP3] at hpe
              subst hpe
              have hP0 : 0 < P3 := by
                rw [← hP3, castL_length]
                exact List.length_pos_of_mem hip
              have hPn : P3 ≤ n := by
                rw [← hP3, castL_length]
                have := List.length_filter_le (fun j => M j == i) (List.range n)
                rw [List.length_range] at this
                exact this
              have hdl : (castL dl).length + P3 ≤ 1048576 := by rw [castL_length]; have := HPL.out.2.2; omega
              have HPC := hide (own_cells hpi)
              have hsi := HBS.out.size
              have hDi := HD.out.below HBS.out
              have hGi := HG.out.below HBS.out
              have hbi : w.heap.size + 1 ≤ wi.heap.size := by omega
              have hlq : (qs.map (·.1)).length ≤ 1073741824 := by
                rw [List.length_map]
                have h1 := congrArg List.length HPL.out.1
                have h2 := leads_le M i
                rw [List.length_map, List.length_map] at h1
                omega
              have HDI := hide hDi
              have HGI := hide hGi
              have HPI := hide hpi
              have HPT := hide hpart
              have HP3 := hide hP3
              have hgpw := World.ownsRow.lt hpi gp rfl
              clear hpart hpi hip hDi hGi hP3
              go_wp2_with (first | (at_builtin; refine append_intsA rfl _ _ rfl (w.heap.size + 1) rfl HDI.out rfl HP3.out hP0 HPC.out hdl hbi ?_; intro g6 c6 w6 hD6 hg6 hat6; have hG6 := HGI.out.keptO hg6 (hdr_neG HDI.out HGI.out.hdr) HAP.out; have hb6 := Nat.le_trans hbi hg6.size) | (at_builtin; refine append_hdr rfl _ _ rfl (w.heap.size + 1) rfl hG6.hdr rfl rfl rfl hlq hb6 ?_; intro v7 w7 hO7 hg7 hb7 hat7) | fail)
              have hgd : wi.grownBy w6 u5.ownBlock := hg6
              have hatd : u5.ownBlock = some g6 ∨ wi.heap.size ≤ g6 := hat6
              have hgh : w6.grownBy w7 u4.ownBlock := hg7
              have hdb : ∀ b, u5.ownBlock = some b → w.heap.size + 1 ≤ b ∧ b < wo.heap.size := fun b e => World.ownsRow.lt HD.out b e
              have hrb : ∀ p ∈ qs, ∀ b, p.1.ownBlock = some b → b < wo.heap.size := fun p hp b e => (World.ownsRow.lt (HG.out.rows p hp) b e).2
              have hp6 := (HPI.out.monoB (show w.heap.size + 1 ≤ wo.heap.size by omega)).keptG hgd (.inr (fun e => by have := (hdb gp e.symm).2; omega))
              have hG7 := hG6.snocU hp6 (fun q hq => by
                cases hb : q.1.ownBlock with
                | none => exact .inl rfl
                | some b =>
                  refine .inr fun e => ?_
                  have h9 := hrb q hq b hb
                  obtain rfl : b = gp := by simpa [Value.ownBlock] using e
                  omega) hO7 hgh
              have hD7 := hD6.keptG hgh (own_neG hD6 hG6.hdr)
              rw [← castL_append] at hD7
              have HAP7 := hide (show ∀ p ∈ qs ++ [(Value.slice (some ⟨gp, 0, none⟩) P3 cp, castL (partOf M n i))], p.1.ownBlock = none ∨ p.1.ownBlock ≠ (Value.slice (some ⟨g6, 0, none⟩) ((castL dl).length + P3) c6).ownBlock from fun p hp => by
                rcases List.mem_append.1 hp with hp | hp
                · cases hb : p.1.ownBlock with
                  | none => exact .inl rfl
                  | some b =>
                    refine .inr fun e => ?_
                    have h9 := hrb p hp b hb
                    obtain rfl : b = g6 := by simpa [Value.ownBlock] using e
                    rcases hatd with h8 | h8
                    · rcases HAP.out p hp with h7 | h7
                      · rw [hb] at h7; cases h7
                      · exact h7 (by rw [hb, h8])
                    · omega
                · obtain rfl := List.mem_singleton.1 hp
                  refine .inr fun e => ?_
                  obtain rfl : gp = g6 := by simpa [Value.ownBlock] using e
                  rcases hatd with h8 | h8
                  · have := (hdb gp h8).2; omega
                  · omega)
              have HB7 := hide (((HBL.out.trans (HBS.out.mono (by omega))).grown hgd hbi (fun b e => (hdb b e).1)).trans hb7)
              have HPL7 := hide (show (qs ++ [(Value.slice (some ⟨gp, 0, none⟩) P3 cp, castL (partOf M n i))]).map (·.2) = (leads M (i + 1)).map (fun r => castL (partOf M n r)) ∧ (∀ j, j ∈ dl ++ partOf M n i ↔ j < n ∧ M j < i + 1) ∧ (dl ++ partOf M n i).length ≤ (i + 1) * 60 by
                refine ⟨?_, fun j => ?_, ?_⟩
                · rw [leads_succ, if_pos HMI.out, List.map_append, List.map_append, HPL.out.1]
                  rfl
                · rw [List.mem_append, HPL.out.2.1 j, partOf_mem]
                  omega
                · have h1 := HPL.out.2.2
                  have h2 := HP3.out
                  rw [castL_length] at h2
                  rw [List.length_append, h2]
                  omega)
              clear hg6 hat6 hg7 hat7 hp6 hD6 hG6 hO7
              go_roundw
              case rel => exact ⟨i + 1, _, dl ++ partOf M n i, by omega, by go_num, HPL7.out, hG7, hD7, HAP7.out, HB7.out⟩
              case measure => simp [intOf]; omega
      · obtain rfl : n = i := by omega
        have HF := hide (hG.ftab.mono (show w.heap.size ≤ w.heap.size + 1 by omega) (Nat.le_refl _))
        have hq : qs.map (·.2) = partsL M n := hpl.out.1
        rw [hq, ← HRR.out] at HF
        have HB := hide (HAL.out.trans (hbel.mono (by have := HAL.out.size; omega)))
        clear hpl hG hD hap hbel hq
        go_wp2_with fail
        go_ret2
        exact ⟨_, rfl, HF.out, HB.out⟩

end Go.Proofs.Ytlipmbcjpmbjnaa
