/- The program's IndependentParts. -/
import Derived.Test.YtlipmbcjpmbjnaaGrpI
namespace Go.Proofs.Ytlipmbcjpmbjnaa
open Go.RowKit
set_option linter.unusedVariables false

theorem cntT_leB {b : Nat} : ∀ {t : List (List Int)}, (∀ c ∈ t, c.length ≤ b) → cntT t ≤ b * t.length
  | [], _ => by simp [cntT]
  | z :: r, h => by
    have h1 := h z (List.mem_cons_self ..)
    have h2 := cntT_leB (t := r) fun c hc => h c (List.mem_cons_of_mem _ hc)
    rw [cntT, List.length_cons, Nat.mul_succ]
    omega
theorem partsL_sz (M : Nat → Nat) (n : Nat) (hn : n ≤ 60) : (partsL M n).length ≤ 60 ∧ cntT (partsL M n) ≤ 3600 := by
  have h1 : (partsL M n).length ≤ n := by
    have := leads_le M n
    unfold partsL
    rw [List.length_map]
    exact this
  have h2 := cntT_leB (b := 60) (t := partsL M n) fun c hc => by
    unfold partsL at hc
    obtain ⟨r, _, rfl⟩ := List.mem_map.1 hc
    rw [castL_length]
    have := List.length_filter_le (fun j => M j == r) (List.range n)
    rw [List.length_range] at this
    unfold partOf
    omega
  omega
theorem fIndependentParts_len {f : CnfL} {r0 : List (List Int)} {r1 : Bool} (hn : szC f ≤ 1048576) (hR : fIndependentParts f = (r0, r1)) : szT r0 ≤ 1048576 ∧ cntT r0 ≤ 1048576 := by
  unfold fIndependentParts at hR
  split at hR
  · rename_i hg
    injection hR with e1 e2
    subst e1
    have := partsL_sz (labI (mtC f.2) f.2.length) f.2.length (goodB_len hg)
    unfold szT
    omega
  · injection hR with e1 e2
    subst e1
    simp [szT, cntT]

/-- the variables of a clause, as the program lists them -/
def varsZ (c : List Int) : List Int := putAll ([c].flatten.map absW) []
theorem varsZ_mem (c : List Int) (y : Int) : y ∈ varsZ c ↔ ∃ x ∈ c, absW x = y := by
  unfold varsZ
  rw [putAll_mem]
  simp
theorem getD_map {F : List Int → List Int} (h0 : F [] = []) (t : List (List Int)) (i : Nat) : (t.map F).getD i [] = F (t.getD i []) := by
  rw [List.getD_eq_getElem?_getD, List.getD_eq_getElem?_getD, List.getElem?_map]
  cases t[i]? with
  | none => exact h0.symm
  | some c => rfl
theorem getD_small {t : List (List Int)} (hs : ∀ c ∈ t, ∀ l ∈ c, l ≠ 0 ∧ -12 ≤ l ∧ l ≤ 12) (i : Nat) : ∀ l ∈ t.getD i [], l ≠ 0 ∧ -12 ≤ l ∧ l ≤ 12 := by
  intro l hl
  rw [List.getD_eq_getElem?_getD] at hl
  cases h : t[i]? with
  | none => rw [h] at hl; cases hl
  | some c =>
    rw [h] at hl
    exact hs c (List.mem_of_getElem? h) l hl
theorem mtN_mtC {t : List (List Int)} (hs : ∀ c ∈ t, ∀ l ∈ c, l ≠ 0 ∧ -12 ≤ l ∧ l ≤ 12) : mtN (t.map varsZ) = mtC t := by
  funext i k
  unfold mtN mtC
  rw [getD_map (by rfl), getD_map (by rfl)]
  have h1 := getD_small hs i
  have h2 := getD_small hs k
  obtain ⟨a, ha⟩ : ∃ a, t.getD i [] = a := ⟨_, rfl⟩
  obtain ⟨b, hb⟩ : ∃ b, t.getD k [] = b := ⟨_, rfl⟩
  rw [ha] at h1 ⊢
  rw [hb] at h2 ⊢
  have e1 : ∀ x ∈ a, absW x = varW x := fun x hx => by
    have := h1 x hx
    rw [absW_small (by omega), varW_small (by omega)]
  have e2 : ∀ x ∈ b, absW x = varW x := fun x hx => by
    have := h2 x hx
    rw [absW_small (by omega), varW_small (by omega)]
  rw [Bool.eq_iff_iff]
  simp only [List.any_eq_true, beq_iff_eq, hasI, List.contains_iff_mem, varsZ_mem]
  constructor
  · rintro ⟨y, ⟨x, hx, rfl⟩, ⟨z, hz, e⟩⟩
    exact ⟨x, hx, z, hz, by rw [← e1 x hx, ← e2 z hz, e]⟩
  · rintro ⟨x, hx, z, hz, e⟩
    exact ⟨absW x, ⟨x, hx, rfl⟩, z, hz, by rw [e1 x hx, e2 z hz, e]⟩

set_option maxHeartbeats 3200000 in
theorem I_IndependentParts {hi : Nat} (v : Value) (f : CnfL) (r0 : List (List Int)) (r1 : Bool) (w : World) (h : RCnf hi w v f) (hn0 : szC f ≤ 1048576) (hR : fIndependentParts f = (r0, r1)) :
    Calls Try.prog 21 #[v] w fun e w' => ∃ v', e = .returned (.tuple #[v', .bool r1]) ∧ FTab w.heap.size w'.heap.size w' v' r0 ∧ Below w.heap.size w w' := by
  obtain ⟨A, n, c, rfl, ht⟩ := h.open2
  obtain ⟨vars, t⟩ := f
  dsimp only at ht ⊢
  obtain ⟨wb, hwb⟩ : ∃ wb, wb = w.alloc (.cells #[.int .i64 vars, .slice A n c] 29) := ⟨_, rfl⟩
  have hal : Below w.heap.size w wb := by rw [hwb]; exact (Below.refl _ _).alloc (Nat.le_refl _) _
  have x00 : wb.cell? ⟨w.heap.size, 0, none⟩ = some (.int .i64 vars) := by rw [hwb]; simp
  have x01 : wb.cell? ⟨w.heap.size, 1, none⟩ = some (.slice A n c) := by rw [hwb]; simp
  have htb := ht.top.below hal
  have HWB := hide hwb
  clear hwb
  cases hg : goodB (vars, t) with
  | false =>
    obtain ⟨rfl, rfl⟩ : r0 = [] ∧ r1 = false := by simpa [fIndependentParts, hg, eq_comm] using hR
    clear hR
    go_enter Try.func21, Try.ntmps21
    go_wp2_with fail
    rw [← HWB.out]
    refine (i_IsCnf _ (vars, t) _ ⟨_, rfl, htb⟩).mono ?_
    rintro e w1 ⟨rfl, hb1⟩
    rw [hg]
    go_wp2_with fail
    go_ret2
    exact ⟨_, rfl, FTab.nil _ _ _, hal.trans (hb1.mono hal.size)⟩
  | true =>
    have HS := hide (goodB_small hg)
    have HT60 := hide (show t.length ≤ 60 from goodB_len hg)
    have HC12 := hide (show ∀ z ∈ t, z.length ≤ 12 from fun z hz => clauseB_len ((goodB_parts hg).2.2 z hz))
    obtain ⟨hr0, rfl⟩ : r0 = partsL (labI (mtC t) t.length) t.length ∧ r1 = true := by simpa [fIndependentParts, hg, eq_comm] using hR
    have HR := hide hr0
    clear hR hr0
    go_enter Try.func21, Try.ntmps21
    go_wp2_with fail
    rw [← HWB.out]
    refine (i_IsCnf _ (vars, t) _ ⟨_, rfl, htb⟩).mono ?_
    rintro e w1 ⟨rfl, hb1⟩
    rw [hg]
    replace x00 := below_old hb1 _ _ x00
    replace x01 := below_old hb1 _ _ x01
    have tf := (htb.below hb1).top
    have hal1 := hal.trans (hb1.mono hal.size)
    obtain ⟨A', c', us, e', hc, hm, hut, hrow, hus⟩ := tf.open_
    injection e' with e1 e2 e3
    subst e1 e2 e3
    unfold maxLen at hm
    have HUS := hide hus
    have HUT := hide hut
    have HUL := hide (show us.length ≤ 60 by have := HT60.out; rw [hut] at this; simpa using this)
    clear htb hb1 hus hut tf
    go_wp2_with fail
    go_loopw [4, 13] (fun q i wr => ∃ (k : Nat) (qs : List (Value × List Int)), k ≤ us.length ∧ i = .int .i64 k ∧ Hid (qs.length = k ∧ qs.map (·.2) = (t.take k).map varsZ) ∧ FRT w1.heap.size wr q qs ∧ Below w1.heap.size w1 wr) (fun _ i _ => us.length - (intOf i).toNat)
    case atStart => exact ⟨0, [], Nat.zero_le _, rfl, ⟨rfl, rfl⟩, FRT.nil _ _, Below.refl _ _⟩
    case round =>
      obtain ⟨k, qs, hk, rfl, hqs, hF, hbel⟩ := hrel
      obtain ⟨wo, hwo⟩ : ∃ wo, wo = wr := ⟨_, rfl⟩
      subst hwo
      by_cases hlt : k < us.length
      · obtain ⟨b, off, u, z, rfl, hx, hcw, hzz⟩ := hrow.tab HUS.out hlt
        have hcr := below_old hbel _ _ hcw
        have hmem : z ∈ t := by rw [HUT.out]; exact List.mem_map_of_mem (f := (·.2)) (List.mem_of_getElem? (get_of_drop hx))
        have hdk : t.drop k = z :: t.drop (k + 1) := by rw [HUT.out, ← List.map_drop, hx]; simp
        have htk := take_snoc_l hdk
        have hzw := hzz.below hbel
        obtain ⟨Az, cz, rfl, -⟩ := id hzz
        obtain ⟨wx, hwx⟩ : ∃ wx, wx = wo.alloc (.cells #[.slice Az z.length cz] 26) := ⟨_, rfl⟩
        have halx : Below wo.heap.size wo wx := by rw [hwx]; exact (Below.refl _ _).alloc (Nat.le_refl _) _
        have htx : Tab (wo.heap.size + 1) wx (.slice (some ⟨wo.heap.size, 0, none⟩) 1 1) [z] := by
          refine ⟨some ⟨wo.heap.size, 0, none⟩, 1, [(.slice Az z.length cz, z)], rfl, Nat.le_refl _, by simp [maxLen], rfl, fun _ => ⟨wo.heap.size, 0, rfl, by omega, fun j y hj => ?_⟩, fun p hp => ?_⟩
          · match j, hj with
            | 0, hj => simp at hj; subst hj; rw [hwx]; simp
          · obtain rfl := List.mem_singleton.1 hp
            exact ((hzw.top).below halx).mono (by omega)
        have hvars := i_varsOf _ [z] wx htx (by have := HC12.out z hmem; simp; omega)
        have HV := hide hvars
        have HWX := hide hwx
        have HBX := hide halx
        have HF := hide hF
        have HQL := hide hqs.out.1
        have HQS := hide hqs.out.2
        have HTK := hide htk
        have HBL := hide hbel
        have k0 : (0 : Int) ≤ (k : Int) := by omega
        have k1 : (k : Int) < (us.length : Int) := by omega
        clear hx hcw hzz hmem hdk htk hzw halx htx hvars hwx hF hqs hbel
        go_wp2_with fail
        rw [← HWX.out]
        refine HV.out.mono ?_
        rintro e w2 ⟨v2, rfl, hf2, hb2⟩
        have hbo := HBX.out.trans (hb2.mono HBX.out.size)
        have hf3 : FInts wo.heap.size w2.heap.size w2 v2 (varsZ z) := hf2.mono HBX.out.size (Nat.le_refl _)
        obtain ⟨lz, hlz⟩ : ∃ lz, (varsZ z).length = lz := ⟨_, rfl⟩
        obtain ⟨A2, c2, e2, -⟩ := id hf3
        rw [hlz] at e2
        subst e2
        have HF2 := hide hf3
        clear hf3 hlz
        clear hf2 hb2
        have hql : qs.length ≤ 1073741824 := by have := HQL.out; have := HUL.out; omega
        go_wp2_with (at_builtin; refine append_frow (H := w2.heap.size) rfl _ _ rfl w1.heap.size rfl HF.out hbo HF2.out rfl rfl hql HBL.out.size ?_; intro v3 w3 hF3 hb3 hg3 hat3)
        go_roundw
        case rel => exact ⟨k + 1, _, by omega, by go_num, ⟨by rw [List.length_append, HQL.out]; rfl, by rw [List.map_append, HQS.out, HTK.out, List.map_append]; rfl⟩, hF3, HBL.out.trans hb3⟩
        case measure => simp [intOf]; omega
      · obtain rfl : us.length = k := by omega
        have hqt : qs.map (·.2) = t.map varsZ := by
          rw [hqs.out.2, List.take_of_length_le (by rw [HUT.out, List.length_map]; exact Nat.le_refl _)]
        have htab := hF.ftab.read
        rw [hqt] at htab
        have hgr := i_groups _ _ wo htab (by rw [List.length_map]; exact HT60.out)
        rw [mtN_mtC HS.out, List.length_map, ← HR.out] at hgr
        have HGR := hide hgr
        have HB := hide (hal1.trans (hbel.mono hal1.size))
        have hsz := HB.out.size
        clear hqs hF hbel hqt htab hgr
        go_wp2_with fail
        refine HGR.out.mono ?_
        rintro e w2 ⟨v2, rfl, hf2, hb2⟩
        go_wp2_with fail
        go_ret2
        exact ⟨_, rfl, hf2.mono hsz (Nat.le_refl _), HB.out.trans (hb2.mono hsz)⟩

end Go.Proofs.Ytlipmbcjpmbjnaa
