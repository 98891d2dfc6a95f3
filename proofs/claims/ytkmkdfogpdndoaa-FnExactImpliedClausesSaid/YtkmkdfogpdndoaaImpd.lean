/- The walks: ImpliedClauses. -/
import Derived.Test.YtkmkdfogpdndoaaCoreC
namespace Go.Proofs.Ytkmkdfogpdndoaa
open Go.RowKit
set_option linter.unusedVariables false

/-- does the formula without the clause at k imply it? -/
def impdB (vars : Int) (t : List (List Int)) (k : Nat) : Bool := impliesF (vars, skipL t k) (t.getD k [])
def impdL (vars : Int) (t : List (List Int)) (l : List Nat) : List Int := castL (l.filter fun k => impdB vars t k)
def fImpliedClauses (f : CnfL) : List Int × Bool := if goodB f then (impdL f.1 f.2 (rangeFrom 0 f.2.length), true) else ([], false)
theorem fImpliedClauses_len {f : CnfL} {r0 : List Int} {r1 : Bool} (hn : szC f ≤ 1048576) (hR : fImpliedClauses f = (r0, r1)) : r0.length ≤ 1048576 := by
  unfold fImpliedClauses at hR
  split at hR
  · injection hR with h1 _
    have h2 := List.length_filter_le (fun k => impdB f.1 f.2 k) (rangeFrom 0 f.2.length)
    rw [rangeFrom_len] at h2
    unfold szC at hn
    rw [← h1]
    simp [impdL]
    omega
  · injection hR with h1 _; rw [← h1]; simp
theorem impdL_yes {vars : Int} {t : List (List Int)} {k : Nat} {r : List Nat} (h : impdB vars t k = true) : impdL vars t (k :: r) = (k : Int) :: impdL vars t r := by simp [impdL, h]
theorem impdL_no {vars : Int} {t : List (List Int)} {k : Nat} {r : List Nat} (h : impdB vars t k = false) : impdL vars t (k :: r) = impdL vars t r := by simp [impdL, h]
theorem mem_cnt {z : List Int} : ∀ {t : List (List Int)}, z ∈ t → z.length ≤ cntT t
  | [], h => by simp at h
  | y :: r, h => by
    simp only [cntT]
    rcases List.mem_cons.1 h with rfl | h
    · omega
    · have := mem_cnt h; omega
theorem skipL_small {t : List (List Int)} (h : ∀ c ∈ t, ∀ l ∈ c, l ≠ 0 ∧ -12 ≤ l ∧ l ≤ 12) (k : Nat) : ∀ c ∈ skipL t k, ∀ l ∈ c, l ≠ 0 ∧ -12 ≤ l ∧ l ≤ 12 := fun c hc => h c (skipL_mem hc)
theorem getD_mem {t : List (List Int)} {k : Nat} (h : k < t.length) : t.getD k [] ∈ t := by
  rw [List.getD_eq_getElem?_getD, List.getElem?_eq_getElem h]
  exact List.getElem_mem h
/-- the clauses with all indices but one -/
theorem pick_skip (t : List (List Int)) (k : Nat) : pickT t (skipL (idxK t.length) k) = skipL t k := by
  have h1 : pickT t (idxK t.length) = t := by
    unfold pickT idxK castL
    rw [List.map_map]
    apply List.ext_getElem
    · simp
    · intro i h1 h2
      simp [List.getD_eq_getElem?_getD, List.getElem?_eq_getElem h2]
  have h2 : pickT t (skipL (idxK t.length) k) = skipL (pickT t (idxK t.length)) k := by
    unfold pickT skipL
    simp [List.map_take, List.map_drop]
  rw [h2, h1]

set_option maxHeartbeats 1600000 in
theorem I_ImpliedClauses {hi : Nat} (v : Value) (f : CnfL) (r0 : List Int) (r1 : Bool) (w : World) (h : RCnf hi w v f) (hn0 : szC f ≤ 1048576) (hR : fImpliedClauses f = (r0, r1)) :
    Calls Try.prog 43 #[v] w fun e w' => ∃ v', e = .returned (.tuple #[v', .bool r1]) ∧ FInts w.heap.size w'.heap.size w' v' r0 ∧ Below w.heap.size w w' := by
  obtain ⟨A, n, c, rfl, ht⟩ := h.open2
  obtain ⟨vars, t⟩ := f
  dsimp only at ht ⊢
  obtain ⟨wb, hwb⟩ : ∃ wb, wb = w.alloc (.cells #[.int .i64 vars, .slice A n c] 29) := ⟨_, rfl⟩
  have hal : Below w.heap.size w wb := by rw [hwb]; exact (Below.refl _ _).alloc (Nat.le_refl _) _
  have hsb : w.heap.size + 1 = wb.heap.size := by rw [hwb]; simp
  have x00 : wb.cell? ⟨w.heap.size, 0, none⟩ = some (.int .i64 vars) := by rw [hwb]; simp
  have x01 : wb.cell? ⟨w.heap.size, 1, none⟩ = some (.slice A n c) := by rw [hwb]; simp
  have htb := ht.top.below hal
  have HWB := hide hwb
  have HSB := hide hsb
  clear hwb hsb
  cases hg : goodB (vars, t) with
  | false =>
    obtain ⟨rfl, rfl⟩ : r0 = [] ∧ r1 = false := by simpa [fImpliedClauses, hg, eq_comm] using hR
    clear hR
    go_enter Try.func43, Try.ntmps43
    go_wp2_with fail
    rw [← HWB.out]
    refine (i_IsCnf _ (vars, t) _ ⟨_, rfl, htb⟩).mono ?_
    rintro e w1 ⟨rfl, hb1⟩
    rw [hg]
    go_wp2_with fail
    go_ret2
    exact ⟨_, rfl, FInts.nil _ _ _, hal.trans (hb1.mono hal.size)⟩
  | true =>
    have HS := hide (goodB_small hg)
    obtain ⟨A', c', ps, e', hc, hm, htt, hrow, hps⟩ := htb.open_
    injection e' with e1 e2 e3
    subst e1 e2 e3
    have hlen : t.length = ps.length := by rw [htt]; simp
    have HN60 := hide (show ps.length ≤ 60 by have := goodB_len hg; dsimp only at this; omega)
    obtain ⟨nv, hv, hn⟩ := varsB_nat (goodB_parts hg).1
    dsimp only at HS hv
    subst hv
    obtain ⟨hr0, rfl⟩ : r0 = impdL nv t (rangeFrom 0 ps.length) ∧ r1 = true := by simpa [fImpliedClauses, hg, hlen, eq_comm] using hR
    have HR := hide hr0
    have HLE := hide hlen
    have HTT := hide htt
    have HPS := hide hps
    unfold maxLen at hm
    clear hR hr0 hlen htt hps
    go_enter Try.func43, Try.ntmps43
    go_wp2_with fail
    rw [← HWB.out]
    refine (i_IsCnf _ ((nv : Int), t) _ ⟨_, rfl, htb⟩).mono ?_
    rintro e w1 ⟨rfl, hb1⟩
    rw [hg]
    replace x00 := below_old hb1 _ _ x00
    replace x01 := below_old hb1 _ _ x01
    replace htb := htb.below hb1
    have hrow1 := hrow.below hb1
    have HPS1 := hide (show ∀ p ∈ ps, Ints w.heap.size w1 p.1 p.2 from fun p hp => (HPS.out p hp).below hb1)
    replace hal := hal.trans (hb1.mono hal.size)
    have hws : w.heap.size + 1 ≤ w1.heap.size := by have := HSB.out; have := hb1.size; omega
    clear hb1 hrow
    go_wp2_with fail
    go_loopw [4, 13] (fun q i wr => ∃ (k : Nat) (pre : List Int), k ≤ ps.length ∧ i = .int .i64 k ∧ pre.length ≤ k ∧ Hid (impdL nv t (rangeFrom 0 ps.length) = pre ++ impdL nv t (rangeFrom k ps.length)) ∧ OwnI (w.heap.size + 1) wr q pre ∧ Below (w.heap.size + 1) w1 wr) (fun _ i _ => ps.length - (intOf i).toNat)
    case atStart => exact ⟨0, [], Nat.zero_le _, rfl, Nat.le_refl _, rfl, OwnI.nil _ _, Below.refl _ _⟩
    case round =>
      obtain ⟨k, pre, hk, rfl, hpl, hr, hown, hbel⟩ := hrel
      have q00 := (hbel.cell (p := ⟨w.heap.size, 0, none⟩) (by simp)).trans x00
      have q01 := (hbel.cell (p := ⟨w.heap.size, 1, none⟩) (by simp)).trans x01
      have hwr : w.heap.size + 1 ≤ wr.heap.size := Nat.le_trans hws hbel.size
      by_cases hlt : k < ps.length
      · obtain ⟨b, off, u, z, rfl, hx, hcw, hz⟩ := hrow1.tab HPS1.out hlt
        have hbb : b < w.heap.size := by obtain ⟨b', off', e', hlt', _⟩ := hrow1 (by simp; omega); injection e' with e'; injection e' with e1 e2; omega
        replace hcw := (hbel.cell (p := ⟨b, off + k, none⟩) (by simp; omega)).trans hcw
        have tq := (htb.under hbel (by omega)).below (below_drew wr)
        have zq := (hz.under hbel (by omega)).below (below_drew wr)
        have hzt : t.getD k [] = z := by rw [HTT.out, List.getD_eq_getElem?_getD, List.getElem?_map, get_of_drop hx]; rfl
        have hkt : k < t.length := by rw [HLE.out]; exact hlt
        have HSZ := hide (show ∀ l ∈ z, l ≠ 0 ∧ -12 ≤ l ∧ l ≤ 12 by rw [← hzt]; exact HS.out _ (getD_mem hkt))
        have HZL := hide (show z.length ≤ 1048576 by
          have h1 : z ∈ t := by rw [← hzt]; exact getD_mem hkt
          have h2 := mem_cnt h1
          have h3 : szT t ≤ 1048576 := hn0
          unfold szT at h3
          omega)
        have HSK := hide (skipL_small HS.out k)
        have HSL := hide (show (skipL t k).length ≤ 1048576 by rw [skipL_length hkt, HLE.out]; have := HN60.out; omega)
        have HTL := hide (show t.length ≤ 1048576 by rw [HLE.out]; have := HN60.out; omega)
        have HKT := hide hkt
        have HIMP := hide (show impliesF ((nv : Int), skipL t k) z = impdB nv t k by unfold impdB; rw [hzt])
        have hdr : Below (w.heap.size + 1) w1 wr.drew := hbel.trans ((below_drew wr).mono hwr)
        have hownd := hown.below (below_drew wr)
        have hwd : w.heap.size + 1 ≤ wr.drew.heap.size := hwr
        have HL := hide (show pre.length ≤ 1073741824 by have := HN60.out; omega)
        obtain ⟨Au, cu, rfl, -⟩ := id hz
        clear hx hzt hkt hz hown hbel
        cases hb : impdB nv t k with
        | true =>
          have HF := hide (show impdL nv t (rangeFrom 0 ps.length) = (pre ++ [(k : Int)]) ++ impdL nv t (rangeFrom (k + 1) ps.length) by rw [hr.out, rangeFrom_lt hlt, impdL_yes hb]; simp)
          go_wp2_with fail
          go_region_held3 (fun w' => w'.cell? ⟨w.heap.size, 0, none⟩ = some (.int .i64 (nv : Int)) ∧ w'.cell? ⟨w.heap.size, 1, none⟩ = some (.slice (some ⟨b, off, none⟩) ps.length c)) (first | exact ⟨q00, q01⟩ | go_keep)
            ((first | (go_at_call 104; refine (i_withoutT _ t k _ tq HKT.out HTL.out).mono ?_; rintro e w3 ⟨v3, rfl, qs, hqs, hR3, hb3⟩; obtain ⟨A3, c3, rfl⟩ := hR3.open_; have t3 := hR3.tab; rw [hqs] at t3; replace q00 := below_old hb3 _ _ q00; replace q01 := below_old hb3 _ _ q01; replace zq := zq.below hb3; replace hownd := hownd.below hb3; replace hdr := hdr.trans (hb3.mono hwd); replace hwd := Nat.le_trans hwd hb3.size) | (go_at_call 103; refine (i_implies nv _ _ (skipL t k) z _ t3 zq hn HSK.out HSZ.out HSL.out HZL.out).mono ?_; rintro e w4 ⟨rfl, hb4⟩; rw [HIMP.out, hb]; replace q00 := below_old hb4 _ _ q00; replace q01 := below_old hb4 _ _ q01; replace hownd := hownd.below hb4; replace hdr := hdr.trans (hb4.mono hwd); replace hwd := Nat.le_trans hwd hb4.size)))
          go_wp2_with (at_builtin; refine append_int rfl _ _ rfl (w.heap.size + 1) rfl hownd rfl HL.out hwd ?_; intro v5 w5 hown5 hb5)
          go_roundw
          case rel => exact ⟨k + 1, pre ++ [(k : Int)], by omega, by go_num, by simp; omega, HF.out, hown5, hdr.trans hb5⟩
          case measure => simp [intOf]; omega
        | false =>
          have HF := hide (show impdL nv t (rangeFrom 0 ps.length) = pre ++ impdL nv t (rangeFrom (k + 1) ps.length) by rw [hr.out, rangeFrom_lt hlt, impdL_no hb])
          go_wp2_with fail
          go_region_held3 (fun w' => w'.cell? ⟨w.heap.size, 0, none⟩ = some (.int .i64 (nv : Int)) ∧ w'.cell? ⟨w.heap.size, 1, none⟩ = some (.slice (some ⟨b, off, none⟩) ps.length c)) (first | exact ⟨q00, q01⟩ | go_keep)
            ((first | (go_at_call 104; refine (i_withoutT _ t k _ tq HKT.out HTL.out).mono ?_; rintro e w3 ⟨v3, rfl, qs, hqs, hR3, hb3⟩; obtain ⟨A3, c3, rfl⟩ := hR3.open_; have t3 := hR3.tab; rw [hqs] at t3; replace q00 := below_old hb3 _ _ q00; replace q01 := below_old hb3 _ _ q01; replace zq := zq.below hb3; replace hownd := hownd.below hb3; replace hdr := hdr.trans (hb3.mono hwd); replace hwd := Nat.le_trans hwd hb3.size) | (go_at_call 103; refine (i_implies nv _ _ (skipL t k) z _ t3 zq hn HSK.out HSZ.out HSL.out HZL.out).mono ?_; rintro e w4 ⟨rfl, hb4⟩; rw [HIMP.out, hb]; replace q00 := below_old hb4 _ _ q00; replace q01 := below_old hb4 _ _ q01; replace hownd := hownd.below hb4; replace hdr := hdr.trans (hb4.mono hwd); replace hwd := Nat.le_trans hwd hb4.size)))
          go_wp2_with fail
          go_roundw
          case rel => exact ⟨k + 1, pre, by omega, by go_num, by omega, HF.out, hownd, hdr⟩
          case measure => simp [intOf]; omega
      · obtain rfl : k = ps.length := by omega
        have HF := hide (show r0 = pre by rw [HR.out, hr.out, rangeFrom_end]; simp [impdL])
        go_wp2_with fail
        go_ret2
        exact ⟨_, rfl, by rw [HF.out]; exact hown.fints.mono (by omega) (Nat.le_refl _), hal.trans (hbel.mono (by omega))⟩

theorem boxB {w w1 : World} {cs : Array Value} {T : TypeId} (hb : Below (w.alloc (.cells cs T)).heap.size (w.alloc (.cells cs T)) w1) : Blk w1 w.heap.size T cs :=
  (Blk.new w T cs).below hb (Blk.new w T cs).lt
theorem boxD {w w1 : World} {cs : Array Value} {T : TypeId} (hb : Below (w.alloc (.cells cs T)).drew.heap.size (w.alloc (.cells cs T)).drew w1) : Blk w1 w.heap.size T cs :=
  (hb.block _ (Blk.new w T cs).lt).trans (Blk.new w T cs)
theorem Blk.two {w : World} {g : Nat} {T : TypeId} {a b : Value} (h : Blk w g T #[a, b]) : w.cell? ⟨g, 0, none⟩ = some a ∧ w.cell? ⟨g, 1, none⟩ = some b ∧ w.frozen? ⟨g, 0, none⟩ = false ∧ w.frozen? ⟨g, 1, none⟩ = false :=
  ⟨by simpa using h.cell 0, by simpa using h.cell 1, h.frozen 0, h.frozen 1⟩

set_option maxHeartbeats 1600000 in

theorem s_l5Some2 {hi hi' : Nat} (vars : Int) (A : Option Addr) (n c : Nat) (t : List (List Int)) (va : Value) (zs : List Int) (w : World) (ht : Tab hi w (.slice A n c) t) (h : Ints hi' w va zs) (hin : ∀ x ∈ zs, 0 ≤ x ∧ x < (t.length : Int)) (hl : zs.length ≤ 1048576) (hhi : hi ≤ w.heap.size) :
    Calls Try.prog 101 #[.agg #[.int .i64 vars, .slice A n c], va] w fun e w' => ∃ v' ps, e = .returned v' ∧ ps.map (·.2) = pickT t zs ∧ RTab (w.heap.size + 1) w' v' ps ∧ (∀ p ∈ ps, Ints hi w' p.1 p.2) ∧ Below w.heap.size w w' := by
  obtain ⟨wa, hwa⟩ : ∃ wa, wa = w.alloc (.cells #[.int .i64 vars, .slice A n c] 29) := ⟨_, rfl⟩
  have hala : Below w.heap.size w wa := by rw [hwa]; exact (Below.refl _ _).alloc (Nat.le_refl _) _
  have hsa : w.heap.size + 1 = wa.heap.size := by rw [hwa]; simp
  have xa1 : wa.cell? ⟨w.heap.size, 1, none⟩ = some (.slice A n c) := by rw [hwa]; simp
  obtain ⟨wb, hwb⟩ : ∃ wb, wb = wa.alloc (.cells #[] 25) := ⟨_, rfl⟩
  have halb : Below wa.heap.size wa wb := by rw [hwb]; exact (Below.refl _ _).alloc (Nat.le_refl _) _
  have hmade : RTab (w.heap.size + 1) wb (.slice (some ⟨w.heap.size + 1, 0, none⟩) 0 0) [] := by rw [hwb, hsa]; exact RTab.made _ _ (Nat.le_refl _)
  have x01 := below_old halb _ _ xa1
  have hal := hala.trans (halb.mono (by omega))
  have hsb : w.heap.size + 1 ≤ wb.heap.size := by rw [hsa]; exact halb.size
  obtain ⟨A1, c1, rfl, hc, hm, hrow⟩ := h.top.below hal
  obtain ⟨A2, c2, ps, e2, hc2, hm2, rfl, hrow2, hps⟩ := (ht.below hal).open_
  injection e2 with e3 e4 e5
  subst e3 e4 e5
  have HWB := hide (show wb = (w.alloc (.cells #[.int .i64 vars, .slice A ps.length c] 29)).alloc (.cells #[] 25) by rw [hwb, hwa])
  have HPS := hide hps
  have HIN := hide hin
  have HMADE := hide hmade
  unfold maxLen at hm hm2
  clear hwb hwa h ht hps hin hmade hala halb hsa xa1
  go_enter Try.func101, Try.ntmps101
  go_wp2_with fail
  rw [← HWB.out]
  go_loopw [5, 6] (fun q i wr => ∃ (k : Nat) (qs : List (Value × List Int)), k ≤ zs.length ∧ i = .int .i64 k ∧ Hid (qs.length = k ∧ qs.map (·.2) = pickT (ps.map (·.2)) (zs.take k)) ∧ RTab (w.heap.size + 1) wr q qs ∧ Hid (∀ p ∈ qs, Ints hi wr p.1 p.2) ∧ Below (w.heap.size + 1) wb wr) (fun _ i _ => zs.length - (intOf i).toNat)
  case atStart => exact ⟨0, [], Nat.zero_le _, rfl, ⟨rfl, rfl⟩, HMADE.out, hide (by simp), Below.refl _ _⟩
  case round =>
    obtain ⟨k, qs, hk, rfl, hqs, hR, hqi, hbel⟩ := hrel
    have y01 := (hbel.cell (p := ⟨w.heap.size, 1, none⟩) (by simp)).trans x01
    have hszr : w.heap.size + 1 ≤ wr.heap.size := by have := hbel.size; omega
    by_cases hlt : k < zs.length
    · obtain ⟨b, off, x, rfl, hx, hcw⟩ := hrow.int hlt
      have hbb : b < w.heap.size + 1 := by obtain ⟨b', off', e', hlt', _⟩ := hrow (by simp; omega); injection e' with e'; injection e' with e1 e2; omega
      replace hcw := (hbel.cell (p := ⟨b, off + k, none⟩) (by simp; omega)).trans hcw
      have hxi := HIN.out x (List.mem_of_getElem? (get_of_drop hx))
      obtain ⟨m, rfl⟩ : ∃ m : Nat, x = (m : Int) := ⟨x.toNat, by omega⟩
      have hmk : m < ps.length := by have := hxi.2; simp at this; omega
      obtain ⟨b2, off2, u, z, rfl, hx2, hcu, hz⟩ := hrow2.tab HPS.out hmk
      have hbb2 : b2 < w.heap.size + 1 := by obtain ⟨b', off', e', hlt', _⟩ := hrow2 (by simp; omega); injection e' with e'; injection e' with e1 e2; omega
      replace hcu := (hbel.cell (p := ⟨b2, off2 + m, none⟩) (by simp; omega)).trans hcu
      have hzr := hz.under hbel (by omega)
      obtain ⟨Au, cu, rfl, -⟩ := id hz
      have HF : Hid (qs.map (·.2) ++ [z] = pickT (ps.map (·.2)) (zs.take (k + 1))) := by
        show _ = _
        rw [take_snoc hx, hqs.out.2]
        simp only [pickT, List.map_append, List.map_cons, List.map_nil, Int.toNat_natCast]
        rw [List.getD_eq_getElem?_getD, List.getElem?_map, get_of_drop hx2]
        rfl
      have HL := hide hqs.out.1
      have HLN := hide (show qs.length ≤ 1073741824 by have := hqs.out.1; omega)
      have HAP : Hid (∀ v0, RTab (w.heap.size + 1) wr v0 qs → (z = [] ∨ (Value.slice Au z.length cu).ownBlock ≠ v0.ownBlock)) := by
        intro v0 hR
        by_cases h0 : z = []
        · exact .inl h0
        · right
          obtain ⟨b', hb', hh, _⟩ := hz.block h0
          intro e
          rw [hb'] at e
          have := hR.1.block_lt e.symm
          omega
      clear hx hx2 hxi
      go_wp2_with fail
      go_region_held3 (fun w' => w'.cell? ⟨w.heap.size, 1, none⟩ = some (.slice (some ⟨b2, off2, none⟩) ps.length c) ∧ w'.cell? ⟨b, off + k, none⟩ = some (.int .i64 (m : Int)) ∧ w'.cell? ⟨b2, off2 + m, none⟩ = some (.slice Au z.length cu)) (first | go_keep | exact ⟨y01, hcw, hcu⟩)
        ((first | ((refine step_row (H := wr.heap.size) rfl _ _ rfl (w.heap.size + 1) ?_ wr hR ?_ hszr HLN.out hzr (HAP.out _ hR) ?_ ?_ ?_); (· rfl); (· (repeat (first | exact Below.refl _ _ | apply below_drew_of | apply below_alloc_of))); (· rfl); (· simp); (intro v2 w2 hR2 hb2; replace y01 := (hb2.cell (p := ⟨w.heap.size, 1, none⟩) (by simp)).trans y01; replace hcw := (hb2.cell (p := ⟨b, off + k, none⟩) hbb).trans hcw; replace hcu := (hb2.cell (p := ⟨b2, off2 + m, none⟩) hbb2).trans hcu))))
      go_wp2_with fail
      go_roundw
      case rel => exact ⟨k + 1, _, by omega, by go_num, ⟨by simp [HL.out], by rw [List.map_append]; exact HF.out⟩, hR2, hide (by intro p hp; rcases List.mem_append.1 hp with hp | hp; (· exact (hqi.out p hp).under hb2 (by omega)); (· simp at hp; subst hp; exact hzr.under hb2 (by omega))), hbel.trans hb2⟩
      case measure => simp [intOf]; omega
    · obtain rfl : k = zs.length := by omega
      have HQ := hide hqs.out.2
      go_wp2_with fail
      go_ret
      first | exact ⟨_, qs, rfl, by rw [HQ.out, List.take_length], hR, (by first | exact hqi.out | exact fun a b h => hqi.out (a, b) h), hal.trans (hbel.mono (by omega))⟩ | exact ⟨_, rfl, qs, by rw [HQ.out, List.take_length], hR, (by first | exact hqi.out | exact fun a b h => hqi.out (a, b) h), hal.trans (hbel.mono (by omega))⟩

theorem two_set {w : World} {g : Nat} {T : TypeId} {a b : Value} (h : Blk w g T #[a, b]) (x y : Value) : ((w.setCell ⟨g, 0, none⟩ x).setCell ⟨g, 1, none⟩ y).cell? ⟨g, 0, none⟩ = some x ∧ ((w.setCell ⟨g, 0, none⟩ x).setCell ⟨g, 1, none⟩ y).cell? ⟨g, 1, none⟩ = some y := by
  have h1 := ((h.set_ 0 x).set_ 1 y)
  exact ⟨by simpa using h1.cell 0, by simpa using h1.cell 1⟩
theorem tab_far {base hi g : Nat} {w : World} {v : Value} {ps : List (Value × List Int)} (hR : RTab base w v ps) (hr : ∀ p ∈ ps, Ints hi w p.1 p.2) (h1 : hi ≤ g) (h2 : g < base) (x y : Value) : Tab w.heap.size ((w.setCell ⟨g, 0, none⟩ x).setCell ⟨g, 1, none⟩ y) v (ps.map (·.2)) := by
  have hk : ∀ (p : Addr) (u : Value), p.block ≠ g → w.cell? p = some u → ((w.setCell ⟨g, 0, none⟩ x).setCell ⟨g, 1, none⟩ y).cell? p = some u := by
    intro p u hp hu
    rw [World.cell?_setCell_other _ _ _ _ (fun e => hp (by first | rw [e] | rw [← e])), World.cell?_setCell_other _ _ _ _ (fun e => hp (by first | rw [e] | rw [← e]))]
    exact hu
  obtain ⟨A, c, rfl, h3, h4, h5⟩ := hR.1.own
  refine ⟨A, c, ps, by simp, by simpa using h3, h4, rfl, ?_, ?_⟩
  · intro h0
    obtain ⟨b, off, e, hl, hlt, hcell⟩ := h5 h0
    exact ⟨b, off, e, hlt, fun j u hu => hk _ _ (by simp; omega) (hcell j u hu).1⟩
  · intro p hp
    have hlt : ∀ q : Value × List Int, q ∈ ps → Ints w.heap.size w q.1 q.2 := fun q hq => (hr q hq).top
    obtain ⟨A1, c1, e1, h6, h7, h8⟩ := hr p hp
    obtain ⟨A2, c2, e2, _, _, h9⟩ := hlt p hp
    rw [e1] at e2
    injection e2 with e3 e4 e5
    subst e3 e5
    refine ⟨A1, c1, e1, h6, h7, ?_⟩
    intro h0
    obtain ⟨b, off, e, hb, hcell⟩ := h8 h0
    obtain ⟨b2, off2, e2, hb2, _⟩ := h9 h0
    rw [e] at e2
    injection e2 with e2
    injection e2 with e2 e3
    exact ⟨b, off, e, by omega, fun j u hu => hk _ _ (by simp; omega) (hcell j u hu)⟩

set_option maxHeartbeats 3200000 in
theorem S_ImpliedClauses {hi : Nat} (v : Value) (f : CnfL) (r0 : List Int) (r1 : Bool) (w : World) (h : RCnf hi w v f) (hn0 : szC f ≤ 1048576) (hR : fImpliedClauses f = (r0, r1)) :
    Calls Try.prog 42 #[v] w fun e w' => ∃ v', e = .returned (.tuple #[v', .bool r1]) ∧ FInts w.heap.size w'.heap.size w' v' r0 ∧ Below w.heap.size w w' := by
  obtain ⟨A, n, c, rfl, ht⟩ := h.open2
  obtain ⟨vars, t⟩ := f
  dsimp only at ht ⊢
  obtain ⟨wa, hwa⟩ : ∃ wa, wa = w.alloc (.cells #[.int .i64 vars, .slice A n c] 29) := ⟨_, rfl⟩
  have hala : Below w.heap.size w wa := by rw [hwa]; exact (Below.refl _ _).alloc (Nat.le_refl _) _
  have hsa : w.heap.size + 1 = wa.heap.size := by rw [hwa]; simp
  have xa0 : wa.cell? ⟨w.heap.size, 0, none⟩ = some (.int .i64 vars) := by rw [hwa]; simp
  have xa1 : wa.cell? ⟨w.heap.size, 1, none⟩ = some (.slice A n c) := by rw [hwa]; simp
  obtain ⟨wb, hwb⟩ : ∃ wb, wb = wa.alloc (.cells #[] 3) := ⟨_, rfl⟩
  have halb : Below wa.heap.size wa wb := by rw [hwb]; exact (Below.refl _ _).alloc (Nat.le_refl _) _
  have hmade : OwnI (w.heap.size + 1) wb (.slice (some ⟨w.heap.size + 1, 0, none⟩) 0 0) [] := by rw [hwb, hsa]; exact OwnI.made _ _ (Nat.le_refl _)
  have x00 := below_old halb _ _ xa0
  have x01 := below_old halb _ _ xa1
  have hal := hala.trans (halb.mono (by omega))
  have hsb : w.heap.size + 1 ≤ wb.heap.size := by rw [hsa]; exact halb.size
  have htb := ht.top.below hal
  have HWB := hide (show wb = (w.alloc (.cells #[.int .i64 vars, .slice A n c] 29)).alloc (.cells #[] 3) by rw [hwb, hwa])
  have HMADE := hide hmade
  clear hwb hwa hmade hala halb hsa xa0 xa1
  cases hg : goodB (vars, t) with
  | false =>
    obtain ⟨rfl, rfl⟩ : r0 = [] ∧ r1 = false := by simpa [fImpliedClauses, hg, eq_comm] using hR
    clear hR
    go_enter Try.func42, Try.ntmps42
    go_wp2_with fail
    rw [← HWB.out]
    refine (s_l2Good _ (vars, t) _ ⟨_, rfl, htb⟩).mono ?_
    rintro e w1 ⟨rfl, hb1⟩
    rw [hg]
    go_wp2_with fail
    go_ret2
    exact ⟨_, rfl, (HMADE.out.below hb1).fints.mono (by omega) (Nat.le_refl _), hal.trans (hb1.mono hal.size)⟩
  | true =>
    have HS := hide (goodB_small hg)
    obtain ⟨A', c', ps, e', hc, hm, htt, hrow, hps⟩ := htb.open_
    injection e' with e1 e2 e3
    subst e1 e2 e3
    have hlen : t.length = ps.length := by rw [htt]; simp
    have HN60 := hide (show ps.length ≤ 60 by have := goodB_len hg; dsimp only at this; omega)
    have HVB := hide (goodB_parts hg).1
    obtain ⟨nv, hv, hn⟩ := varsB_nat (goodB_parts hg).1
    dsimp only at HS hv HVB
    subst hv
    obtain ⟨hr0, rfl⟩ : r0 = impdL nv t (rangeFrom 0 ps.length) ∧ r1 = true := by simpa [fImpliedClauses, hg, hlen, eq_comm] using hR
    have HR := hide hr0
    have HLE := hide hlen
    have HTT := hide htt
    have HPS := hide hps
    unfold maxLen at hm
    clear hR hr0 hlen htt hps
    go_enter Try.func42, Try.ntmps42
    go_wp2_with fail
    rw [← HWB.out]
    refine (s_l2Good _ ((nv : Int), t) _ ⟨_, rfl, htb⟩).mono ?_
    rintro e w1 ⟨rfl, hb1⟩
    rw [hg]
    have HM1 := hide (HMADE.out.below hb1)
    replace x00 := below_old hb1 _ _ x00
    replace x01 := below_old hb1 _ _ x01
    replace htb := htb.below hb1
    have hrow1 := hrow.below hb1
    have HPS1 := hide (show ∀ p ∈ ps, Ints w.heap.size w1 p.1 p.2 from fun p hp => (HPS.out p hp).below hb1)
    replace hal := hal.trans (hb1.mono hal.size)
    have hws : w.heap.size + 1 ≤ w1.heap.size := Nat.le_trans hsb hb1.size
    clear hb1 hrow
    go_wp2_with fail
    go_loopw [4, 5] (fun q i wr => ∃ (k : Nat) (pre : List Int), k ≤ ps.length ∧ i = .int .i64 k ∧ pre.length ≤ k ∧ Hid (impdL nv t (rangeFrom 0 ps.length) = pre ++ impdL nv t (rangeFrom k ps.length)) ∧ OwnI (w.heap.size + 1) wr q pre ∧ Below (w.heap.size + 1) w1 wr) (fun _ i _ => ps.length - (intOf i).toNat)
    case atStart => exact ⟨0, [], Nat.zero_le _, rfl, Nat.le_refl _, rfl, HM1.out, Below.refl _ _⟩
    case round =>
      obtain ⟨k, pre, hk, rfl, hpl, hr, hown, hbel⟩ := hrel
      have q00 := (hbel.cell (p := ⟨w.heap.size, 0, none⟩) (by simp)).trans x00
      have q01 := (hbel.cell (p := ⟨w.heap.size, 1, none⟩) (by simp)).trans x01
      have hwr : w.heap.size + 1 ≤ wr.heap.size := Nat.le_trans hws hbel.size
      by_cases hlt : k < ps.length
      · obtain ⟨b, off, u, z, rfl, hx, hcw, hz⟩ := hrow1.tab HPS1.out hlt
        have hbb : b < w.heap.size := by obtain ⟨b', off', e', hlt', _⟩ := hrow1 (by simp; omega); injection e' with e'; injection e' with e1 e2; omega
        replace hcw := (hbel.cell (p := ⟨b, off + k, none⟩) (by simp; omega)).trans hcw
        have tq := htb.under hbel (by omega)
        have zq := hz.under hbel (by omega)
        have hzt : t.getD k [] = z := by rw [HTT.out, List.getD_eq_getElem?_getD, List.getElem?_map, get_of_drop hx]; rfl
        have hkt : k < t.length := by rw [HLE.out]; exact hlt
        have HSZ := hide (show ∀ l ∈ z, l ≠ 0 ∧ -12 ≤ l ∧ l ≤ 12 by rw [← hzt]; exact HS.out _ (getD_mem hkt))
        have HSK := hide (skipL_small HS.out k)
        have H1000 := hide (show ps.length ≤ 1000 by have := HN60.out; omega)
        have HIL := hide (show k < (idxK ps.length).length by rw [idxK_length]; exact hlt)
        have HIM := hide (show (idxK ps.length).length ≤ 1048576 by rw [idxK_length]; have := HN60.out; omega)
        have HIN := hide (show ∀ x ∈ skipL (idxK ps.length) k, 0 ≤ x ∧ x < (t.length : Int) by
          intro x hx
          have h1 := skipL_mem hx
          rw [HLE.out]
          simp only [idxK, castL, List.mem_map, List.mem_range] at h1
          obtain ⟨i, h2, rfl⟩ := h1
          omega)
        have HSM := hide (show (skipL (idxK ps.length) k).length ≤ 1048576 by rw [skipL_length HIL.out, idxK_length]; have := HN60.out; omega)
        have HPK := hide (show pickT t (skipL (idxK ps.length) k) = skipL t k by rw [← HLE.out]; exact pick_skip t k)
        have HIMP := hide (show impliesF ((nv : Int), skipL t k) z = impdB nv t k by unfold impdB; rw [hzt])
        have HB := below_drew wr
        have HW0 := hide (show w.heap.size ≤ wr.heap.size by omega)
        have HL := hide (show pre.length ≤ 1073741824 by have := HN60.out; omega)
        obtain ⟨Au, cu, rfl, -⟩ := id hz
        have k0 : (0 : Int) ≤ ↑k := by omega
        have k1 : (↑k : Int) < ↑ps.length := by omega
        clear hx hzt hkt hz
        go_wp2_with fail
        go_region_held3 (fun w' => w'.cell? ⟨w.heap.size, 0, none⟩ = some (.int .i64 (nv : Int)) ∧ w'.cell? ⟨w.heap.size, 1, none⟩ = some (.slice (some ⟨b, off, none⟩) ps.length c)) (first | exact ⟨below_old HB _ _ q00, below_old HB _ _ q01⟩ | exact ⟨below_old (HB.alloc HB.size _) _ _ q00, below_old (HB.alloc HB.size _) _ _ q01⟩ | exact ⟨below_old ((HB.setCell hbx _).setCell hbx _) _ _ q00, below_old ((HB.setCell hbx _).setCell hbx _) _ _ q01⟩ | exact ⟨below_old (((HB.alloc HB.size _).setCell HB.size _).setCell HB.size _) _ _ q00, below_old (((HB.alloc HB.size _).setCell HB.size _).setCell HB.size _) _ _ q01⟩ | go_keep)
            ((first | (go_at_call 102; go_loud(refine (s_l5Indices (nv : Int) _ ps.length _ _ H1000.out).mono ?_; rintro e w3 ⟨v3, rfl, hown3, hb3⟩; (first | (replace HB := HB.trans (hb3.mono HB.size)) | (have hbx := HB.size; replace HB := (HB.alloc HB.size _).trans (hb3.mono (HB.alloc HB.size _).size))); (try with_reducible (have hy := boxD hb3)); have I3 := hown3.fints.ints)) | (go_at_call 76; go_loud(refine (s_l5Skip _ (idxK ps.length) k _ (by first | exact I3 | exact I3.below ((Below.refl _ _).alloc (Nat.le_refl _) _)) HIL.out HIM.out).mono ?_; rintro e w4 ⟨v4, rfl, hown4, hb4⟩; (first | (replace HB := HB.trans (hb4.mono HB.size)) | (have hbx := HB.size; replace HB := (HB.alloc HB.size _).trans (hb4.mono (HB.alloc HB.size _).size))); (try (replace hy := hy.below hb4 hy.lt)); (try with_reducible (have hy := boxB hb4)); have I4 := hown4.fints.ints)) | (go_at_call 101; go_loud(refine (s_l5Some2 (nv : Int) _ ps.length c t _ (skipL (idxK ps.length) k) _ (by first | exact tq.below HB | exact tq.below (HB.alloc HB.size _)) (by first | exact I4 | exact I4.below ((Below.refl _ _).alloc (Nat.le_refl _) _)) HIN.out HSM.out (by first | exact Nat.le_trans HW0.out HB.size | exact Nat.le_trans HW0.out (HB.alloc HB.size _).size)).mono ?_; rintro e w5 ⟨v5, qs, rfl, hqs, hR5, hqi5, hb5⟩; (try (have hg5 := hy.lt)); (first | (replace HB := HB.trans (hb5.mono HB.size)) | (have hbx := HB.size; replace HB := (HB.alloc HB.size _).trans (hb5.mono (HB.alloc HB.size _).size))); (try (replace hy := hy.below hb5 hy.lt)); (try with_reducible (have hy := boxB hb5)); have t5 := hR5.tab; rw [hqs, HPK.out] at t5; obtain ⟨A5, c5, rfl⟩ := hR5.open_; (try (obtain ⟨y0, y1, f0, f1⟩ := hy.two))))))
        -- GEN
        · obtain ⟨z0, z1, -, -⟩ := (Blk.new w5 29 #[.int .i64 (nv : Int), .slice A5 qs.length c5]).two
          have HB7 := HB.alloc HB.size (.cells #[.int .i64 (nv : Int), .slice A5 qs.length c5] 29)
          have t7 := t5.below ((Below.refl w5.heap.size w5).alloc (Nat.le_refl _) (.cells #[.int .i64 (nv : Int), .slice A5 qs.length c5] 29))
          obtain ⟨W7, HW7⟩ : ∃ W, W = w5.alloc (.cells #[.int .i64 (nv : Int), .slice A5 qs.length c5] 29) := ⟨_, rfl⟩
          rw [← HW7] at z0 z1 HB7 t7 ⊢
          clear HW7
          replace HB7 := HB7.trans ((below_drew W7).mono HB7.size)
          replace t7 := t7.below (below_drew W7)
          cases hb : impdB nv t k with
          | true =>
            have HF := hide (show impdL nv t (rangeFrom 0 ps.length) = (pre ++ [(k : Int)]) ++ impdL nv t (rangeFrom (k + 1) ps.length) by rw [hr.out, rangeFrom_lt hlt, impdL_yes hb]; simp)
            go_wp2_with fail
            go_region_held3 (fun w' => w'.cell? ⟨w5.heap.size, 0, none⟩ = some (.int .i64 (nv : Int)) ∧ w'.cell? ⟨w5.heap.size, 1, none⟩ = some (.slice A5 qs.length c5) ∧ w'.cell? ⟨w.heap.size, 0, none⟩ = some (.int .i64 (nv : Int)) ∧ w'.cell? ⟨w.heap.size, 1, none⟩ = some (.slice (some ⟨b, off, none⟩) ps.length c) ∧ w'.cell? ⟨b, off + k, none⟩ = some (.slice Au z.length cu)) (first | exact ⟨z0, z1, below_old HB7 _ _ q00, below_old HB7 _ _ q01, below_old HB7 _ _ hcw⟩ | go_keep) (((first | (go_at_call 79; refine (s_l5Implies _ _ ((nv : Int), skipL t k) z _ ⟨_, rfl, t7⟩ (zq.below HB7) HVB.out HSK.out HSZ.out).mono ?_; rintro e w8 ⟨rfl, hb8⟩; rw [HIMP.out, hb]; replace z0 := below_old hb8 _ _ z0; replace z1 := below_old hb8 _ _ z1; replace HB7 := HB7.trans (hb8.mono HB7.size)))))
            have HO := hown.below HB7
            have HS8 := Nat.le_trans hwr HB7.size
            go_wp2_with (at_builtin; refine append_int rfl _ _ rfl (w.heap.size + 1) rfl HO rfl HL.out HS8 ?_; intro v9 w9 hown9 hb9)
            go_roundw
            case rel => exact ⟨k + 1, pre ++ [(k : Int)], by omega, by go_num, by simp; omega, HF.out, hown9, (hbel.trans (HB7.mono hwr)).trans hb9⟩
            case measure => simp [intOf]; omega
          | false =>
            have HF := hide (show impdL nv t (rangeFrom 0 ps.length) = pre ++ impdL nv t (rangeFrom (k + 1) ps.length) by rw [hr.out, rangeFrom_lt hlt, impdL_no hb])
            go_wp2_with fail
            go_region_held3 (fun w' => w'.cell? ⟨w5.heap.size, 0, none⟩ = some (.int .i64 (nv : Int)) ∧ w'.cell? ⟨w5.heap.size, 1, none⟩ = some (.slice A5 qs.length c5) ∧ w'.cell? ⟨w.heap.size, 0, none⟩ = some (.int .i64 (nv : Int)) ∧ w'.cell? ⟨w.heap.size, 1, none⟩ = some (.slice (some ⟨b, off, none⟩) ps.length c) ∧ w'.cell? ⟨b, off + k, none⟩ = some (.slice Au z.length cu)) (first | exact ⟨z0, z1, below_old HB7 _ _ q00, below_old HB7 _ _ q01, below_old HB7 _ _ hcw⟩ | go_keep) (((first | (go_at_call 79; refine (s_l5Implies _ _ ((nv : Int), skipL t k) z _ ⟨_, rfl, t7⟩ (zq.below HB7) HVB.out HSK.out HSZ.out).mono ?_; rintro e w8 ⟨rfl, hb8⟩; rw [HIMP.out, hb]; replace z0 := below_old hb8 _ _ z0; replace z1 := below_old hb8 _ _ z1; replace HB7 := HB7.trans (hb8.mono HB7.size)))))
            have HO := hown.below HB7
            go_wp2_with fail
            go_roundw
            case rel => exact ⟨k + 1, pre, by omega, by go_num, by omega, HF.out, HO, hbel.trans (HB7.mono hwr)⟩
            case measure => simp [intOf]; omega
        · obtain ⟨z0, z1⟩ := two_set hy (.int .i64 (nv : Int)) (.slice A5 qs.length c5)
          have HB7 := (HB.setCell (p := ⟨w4.heap.size, 0, none⟩) hbx (.int .i64 (nv : Int))).setCell (p := ⟨w4.heap.size, 1, none⟩) hbx (.slice A5 qs.length c5)
          have t7 := tab_far hR5 hqi5 (g := w4.heap.size) (Nat.le_trans HW0.out hbx) (by first | exact Nat.lt_succ_of_lt hg5 | (simp; omega)) (.int .i64 (nv : Int)) (.slice A5 qs.length c5)
          rw [hqs, HPK.out] at t7
          obtain ⟨W7, HW7⟩ : ∃ W, W = ((w5.setCell ⟨w4.heap.size, 0, none⟩ (.int .i64 (nv : Int))).setCell ⟨w4.heap.size, 1, none⟩ (.slice A5 qs.length c5)) := ⟨_, rfl⟩
          rw [← HW7] at z0 z1 HB7 t7 ⊢
          clear HW7
          replace HB7 := HB7.trans ((below_drew W7).mono HB7.size)
          replace t7 := t7.below (below_drew W7)
          cases hb : impdB nv t k with
          | true =>
            have HF := hide (show impdL nv t (rangeFrom 0 ps.length) = (pre ++ [(k : Int)]) ++ impdL nv t (rangeFrom (k + 1) ps.length) by rw [hr.out, rangeFrom_lt hlt, impdL_yes hb]; simp)
            go_wp2_with fail
            go_region_held3 (fun w' => w'.cell? ⟨w4.heap.size, 0, none⟩ = some (.int .i64 (nv : Int)) ∧ w'.cell? ⟨w4.heap.size, 1, none⟩ = some (.slice A5 qs.length c5) ∧ w'.cell? ⟨w.heap.size, 0, none⟩ = some (.int .i64 (nv : Int)) ∧ w'.cell? ⟨w.heap.size, 1, none⟩ = some (.slice (some ⟨b, off, none⟩) ps.length c) ∧ w'.cell? ⟨b, off + k, none⟩ = some (.slice Au z.length cu)) (first | exact ⟨z0, z1, below_old HB7 _ _ q00, below_old HB7 _ _ q01, below_old HB7 _ _ hcw⟩ | go_keep) (((first | (go_at_call 79; refine (s_l5Implies _ _ ((nv : Int), skipL t k) z _ ⟨_, rfl, t7⟩ (zq.below HB7) HVB.out HSK.out HSZ.out).mono ?_; rintro e w8 ⟨rfl, hb8⟩; rw [HIMP.out, hb]; replace z0 := below_old hb8 _ _ z0; replace z1 := below_old hb8 _ _ z1; replace HB7 := HB7.trans (hb8.mono HB7.size)))))
            have HO := hown.below HB7
            have HS8 := Nat.le_trans hwr HB7.size
            go_wp2_with (at_builtin; refine append_int rfl _ _ rfl (w.heap.size + 1) rfl HO rfl HL.out HS8 ?_; intro v9 w9 hown9 hb9)
            go_roundw
            case rel => exact ⟨k + 1, pre ++ [(k : Int)], by omega, by go_num, by simp; omega, HF.out, hown9, (hbel.trans (HB7.mono hwr)).trans hb9⟩
            case measure => simp [intOf]; omega
          | false =>
            have HF := hide (show impdL nv t (rangeFrom 0 ps.length) = pre ++ impdL nv t (rangeFrom (k + 1) ps.length) by rw [hr.out, rangeFrom_lt hlt, impdL_no hb])
            go_wp2_with fail
            go_region_held3 (fun w' => w'.cell? ⟨w4.heap.size, 0, none⟩ = some (.int .i64 (nv : Int)) ∧ w'.cell? ⟨w4.heap.size, 1, none⟩ = some (.slice A5 qs.length c5) ∧ w'.cell? ⟨w.heap.size, 0, none⟩ = some (.int .i64 (nv : Int)) ∧ w'.cell? ⟨w.heap.size, 1, none⟩ = some (.slice (some ⟨b, off, none⟩) ps.length c) ∧ w'.cell? ⟨b, off + k, none⟩ = some (.slice Au z.length cu)) (first | exact ⟨z0, z1, below_old HB7 _ _ q00, below_old HB7 _ _ q01, below_old HB7 _ _ hcw⟩ | go_keep) (((first | (go_at_call 79; refine (s_l5Implies _ _ ((nv : Int), skipL t k) z _ ⟨_, rfl, t7⟩ (zq.below HB7) HVB.out HSK.out HSZ.out).mono ?_; rintro e w8 ⟨rfl, hb8⟩; rw [HIMP.out, hb]; replace z0 := below_old hb8 _ _ z0; replace z1 := below_old hb8 _ _ z1; replace HB7 := HB7.trans (hb8.mono HB7.size)))))
            have HO := hown.below HB7
            go_wp2_with fail
            go_roundw
            case rel => exact ⟨k + 1, pre, by omega, by go_num, by omega, HF.out, HO, hbel.trans (HB7.mono hwr)⟩
            case measure => simp [intOf]; omega
        · obtain ⟨z0, z1⟩ := two_set hy (.int .i64 (nv : Int)) (.slice A5 qs.length c5)
          have HB7 := (HB.setCell (p := ⟨w3.heap.size, 0, none⟩) hbx (.int .i64 (nv : Int))).setCell (p := ⟨w3.heap.size, 1, none⟩) hbx (.slice A5 qs.length c5)
          have t7 := tab_far hR5 hqi5 (g := w3.heap.size) (Nat.le_trans HW0.out hbx) (by first | exact Nat.lt_succ_of_lt hg5 | (simp; omega)) (.int .i64 (nv : Int)) (.slice A5 qs.length c5)
          rw [hqs, HPK.out] at t7
          obtain ⟨W7, HW7⟩ : ∃ W, W = ((w5.setCell ⟨w3.heap.size, 0, none⟩ (.int .i64 (nv : Int))).setCell ⟨w3.heap.size, 1, none⟩ (.slice A5 qs.length c5)) := ⟨_, rfl⟩
          rw [← HW7] at z0 z1 HB7 t7 ⊢
          clear HW7
          replace HB7 := HB7.trans ((below_drew W7).mono HB7.size)
          replace t7 := t7.below (below_drew W7)
          cases hb : impdB nv t k with
          | true =>
            have HF := hide (show impdL nv t (rangeFrom 0 ps.length) = (pre ++ [(k : Int)]) ++ impdL nv t (rangeFrom (k + 1) ps.length) by rw [hr.out, rangeFrom_lt hlt, impdL_yes hb]; simp)
            go_wp2_with fail
            go_region_held3 (fun w' => w'.cell? ⟨w3.heap.size, 0, none⟩ = some (.int .i64 (nv : Int)) ∧ w'.cell? ⟨w3.heap.size, 1, none⟩ = some (.slice A5 qs.length c5) ∧ w'.cell? ⟨w.heap.size, 0, none⟩ = some (.int .i64 (nv : Int)) ∧ w'.cell? ⟨w.heap.size, 1, none⟩ = some (.slice (some ⟨b, off, none⟩) ps.length c) ∧ w'.cell? ⟨b, off + k, none⟩ = some (.slice Au z.length cu)) (first | exact ⟨z0, z1, below_old HB7 _ _ q00, below_old HB7 _ _ q01, below_old HB7 _ _ hcw⟩ | go_keep) (((first | (go_at_call 79; refine (s_l5Implies _ _ ((nv : Int), skipL t k) z _ ⟨_, rfl, t7⟩ (zq.below HB7) HVB.out HSK.out HSZ.out).mono ?_; rintro e w8 ⟨rfl, hb8⟩; rw [HIMP.out, hb]; replace z0 := below_old hb8 _ _ z0; replace z1 := below_old hb8 _ _ z1; replace HB7 := HB7.trans (hb8.mono HB7.size)))))
            have HO := hown.below HB7
            have HS8 := Nat.le_trans hwr HB7.size
            go_wp2_with (at_builtin; refine append_int rfl _ _ rfl (w.heap.size + 1) rfl HO rfl HL.out HS8 ?_; intro v9 w9 hown9 hb9)
            go_roundw
            case rel => exact ⟨k + 1, pre ++ [(k : Int)], by omega, by go_num, by simp; omega, HF.out, hown9, (hbel.trans (HB7.mono hwr)).trans hb9⟩
            case measure => simp [intOf]; omega
          | false =>
            have HF := hide (show impdL nv t (rangeFrom 0 ps.length) = pre ++ impdL nv t (rangeFrom (k + 1) ps.length) by rw [hr.out, rangeFrom_lt hlt, impdL_no hb])
            go_wp2_with fail
            go_region_held3 (fun w' => w'.cell? ⟨w3.heap.size, 0, none⟩ = some (.int .i64 (nv : Int)) ∧ w'.cell? ⟨w3.heap.size, 1, none⟩ = some (.slice A5 qs.length c5) ∧ w'.cell? ⟨w.heap.size, 0, none⟩ = some (.int .i64 (nv : Int)) ∧ w'.cell? ⟨w.heap.size, 1, none⟩ = some (.slice (some ⟨b, off, none⟩) ps.length c) ∧ w'.cell? ⟨b, off + k, none⟩ = some (.slice Au z.length cu)) (first | exact ⟨z0, z1, below_old HB7 _ _ q00, below_old HB7 _ _ q01, below_old HB7 _ _ hcw⟩ | go_keep) (((first | (go_at_call 79; refine (s_l5Implies _ _ ((nv : Int), skipL t k) z _ ⟨_, rfl, t7⟩ (zq.below HB7) HVB.out HSK.out HSZ.out).mono ?_; rintro e w8 ⟨rfl, hb8⟩; rw [HIMP.out, hb]; replace z0 := below_old hb8 _ _ z0; replace z1 := below_old hb8 _ _ z1; replace HB7 := HB7.trans (hb8.mono HB7.size)))))
            have HO := hown.below HB7
            go_wp2_with fail
            go_roundw
            case rel => exact ⟨k + 1, pre, by omega, by go_num, by omega, HF.out, HO, hbel.trans (HB7.mono hwr)⟩
            case measure => simp [intOf]; omega
        · obtain ⟨z0, z1⟩ := two_set hy (.int .i64 (nv : Int)) (.slice A5 qs.length c5)
          have HB7 := (HB.setCell (p := ⟨wr.heap.size, 0, none⟩) hbx (.int .i64 (nv : Int))).setCell (p := ⟨wr.heap.size, 1, none⟩) hbx (.slice A5 qs.length c5)
          have t7 := tab_far hR5 hqi5 (g := wr.heap.size) (Nat.le_trans HW0.out hbx) (by first | exact Nat.lt_succ_of_lt hg5 | (simp; omega)) (.int .i64 (nv : Int)) (.slice A5 qs.length c5)
          rw [hqs, HPK.out] at t7
          obtain ⟨W7, HW7⟩ : ∃ W, W = ((w5.setCell ⟨wr.heap.size, 0, none⟩ (.int .i64 (nv : Int))).setCell ⟨wr.heap.size, 1, none⟩ (.slice A5 qs.length c5)) := ⟨_, rfl⟩
          rw [← HW7] at z0 z1 HB7 t7 ⊢
          clear HW7
          replace HB7 := HB7.trans ((below_drew W7).mono HB7.size)
          replace t7 := t7.below (below_drew W7)
          cases hb : impdB nv t k with
          | true =>
            have HF := hide (show impdL nv t (rangeFrom 0 ps.length) = (pre ++ [(k : Int)]) ++ impdL nv t (rangeFrom (k + 1) ps.length) by rw [hr.out, rangeFrom_lt hlt, impdL_yes hb]; simp)
            go_wp2_with fail
            go_region_held3 (fun w' => w'.cell? ⟨wr.heap.size, 0, none⟩ = some (.int .i64 (nv : Int)) ∧ w'.cell? ⟨wr.heap.size, 1, none⟩ = some (.slice A5 qs.length c5) ∧ w'.cell? ⟨w.heap.size, 0, none⟩ = some (.int .i64 (nv : Int)) ∧ w'.cell? ⟨w.heap.size, 1, none⟩ = some (.slice (some ⟨b, off, none⟩) ps.length c) ∧ w'.cell? ⟨b, off + k, none⟩ = some (.slice Au z.length cu)) (first | exact ⟨z0, z1, below_old HB7 _ _ q00, below_old HB7 _ _ q01, below_old HB7 _ _ hcw⟩ | go_keep) (((first | (go_at_call 79; refine (s_l5Implies _ _ ((nv : Int), skipL t k) z _ ⟨_, rfl, t7⟩ (zq.below HB7) HVB.out HSK.out HSZ.out).mono ?_; rintro e w8 ⟨rfl, hb8⟩; rw [HIMP.out, hb]; replace z0 := below_old hb8 _ _ z0; replace z1 := below_old hb8 _ _ z1; replace HB7 := HB7.trans (hb8.mono HB7.size)))))
            have HO := hown.below HB7
            have HS8 := Nat.le_trans hwr HB7.size
            go_wp2_with (at_builtin; refine append_int rfl _ _ rfl (w.heap.size + 1) rfl HO rfl HL.out HS8 ?_; intro v9 w9 hown9 hb9)
            go_roundw
            case rel => exact ⟨k + 1, pre ++ [(k : Int)], by omega, by go_num, by simp; omega, HF.out, hown9, (hbel.trans (HB7.mono hwr)).trans hb9⟩
            case measure => simp [intOf]; omega
          | false =>
            have HF := hide (show impdL nv t (rangeFrom 0 ps.length) = pre ++ impdL nv t (rangeFrom (k + 1) ps.length) by rw [hr.out, rangeFrom_lt hlt, impdL_no hb])
            go_wp2_with fail
            go_region_held3 (fun w' => w'.cell? ⟨wr.heap.size, 0, none⟩ = some (.int .i64 (nv : Int)) ∧ w'.cell? ⟨wr.heap.size, 1, none⟩ = some (.slice A5 qs.length c5) ∧ w'.cell? ⟨w.heap.size, 0, none⟩ = some (.int .i64 (nv : Int)) ∧ w'.cell? ⟨w.heap.size, 1, none⟩ = some (.slice (some ⟨b, off, none⟩) ps.length c) ∧ w'.cell? ⟨b, off + k, none⟩ = some (.slice Au z.length cu)) (first | exact ⟨z0, z1, below_old HB7 _ _ q00, below_old HB7 _ _ q01, below_old HB7 _ _ hcw⟩ | go_keep) (((first | (go_at_call 79; refine (s_l5Implies _ _ ((nv : Int), skipL t k) z _ ⟨_, rfl, t7⟩ (zq.below HB7) HVB.out HSK.out HSZ.out).mono ?_; rintro e w8 ⟨rfl, hb8⟩; rw [HIMP.out, hb]; replace z0 := below_old hb8 _ _ z0; replace z1 := below_old hb8 _ _ z1; replace HB7 := HB7.trans (hb8.mono HB7.size)))))
            have HO := hown.below HB7
            go_wp2_with fail
            go_roundw
            case rel => exact ⟨k + 1, pre, by omega, by go_num, by omega, HF.out, HO, hbel.trans (HB7.mono hwr)⟩
            case measure => simp [intOf]; omega
      · obtain rfl : k = ps.length := by omega
        have HF := hide (show r0 = pre by rw [HR.out, hr.out, rangeFrom_end]; simp [impdL])
        go_wp2_with fail
        go_ret2
        exact ⟨_, rfl, by rw [HF.out]; exact hown.fints.mono (by omega) (Nat.le_refl _), hal.trans (hbel.mono (by omega))⟩

end Go.Proofs.Ytkmkdfogpdndoaa
