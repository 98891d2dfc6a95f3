/- The walks: the clauses with some indices; cores. -/
import Derived.Test.YtkmkdfogpdndoaaImp
import Derived.Deep.RegionHeld3
namespace Go.Proofs.Ytkmkdfogpdndoaa
open Go.RowKit
set_option linter.unusedVariables false

theorem below_drew_of {B : Nat} {a w : World} (h : Below B a w) : Below B a w.drew := ⟨h.os, h.tape, h.output, h.size, h.block⟩
theorem below_alloc_of {a w : World} (h : Below a.heap.size a w) (o : Obj) : Below a.heap.size a (w.alloc o) := h.alloc h.size o

/-- numbers that rise, within bounds -/
def idxB (lo hi : Int) : Option Int → List Int → Bool
  | _, [] => true
  | none, x :: r => inB x lo hi && idxB lo hi (some x) r
  | some p, x :: r => inB x lo hi && !decide (x ≤ p) && idxB lo hi (some x) r
theorem idxB_in {lo hi : Int} : ∀ (c : List Int) (p : Option Int), idxB lo hi p c = true → ∀ x ∈ c, lo ≤ x ∧ x ≤ hi
  | [], _, _ => by simp
  | x :: r, p, h => by
    intro l hl
    cases p with
    | none =>
      simp [idxB] at h
      rcases List.mem_cons.1 hl with rfl | hl
      · have := h.1; simpa [inB] using this
      · exact idxB_in r _ h.2 l hl
    | some q =>
      simp [idxB] at h
      rcases List.mem_cons.1 hl with rfl | hl
      · have := h.1.1; simpa [inB] using this
      · exact idxB_in r _ h.2 l hl
/-- the clauses with some indices -/
def pickT (t : List (List Int)) (idx : List Int) : List (List Int) := idx.map fun i => t.getD i.toNat []
def coreB (vars : Int) (t : List (List Int)) (idx : List Int) : Bool := !satB (vars, pickT t idx)
theorem pickT_small {t : List (List Int)} (h : ∀ c ∈ t, ∀ l ∈ c, l ≠ 0 ∧ -12 ≤ l ∧ l ≤ 12) (idx : List Int) : ∀ c ∈ pickT t idx, ∀ l ∈ c, l ≠ 0 ∧ -12 ≤ l ∧ l ≤ 12 := by
  intro c hc
  obtain ⟨i, _, rfl⟩ := List.mem_map.1 hc
  rw [List.getD_eq_getElem?_getD]
  cases he : t[i.toNat]? with
  | none => simp
  | some y => exact h y (List.mem_of_getElem? he)

set_option maxHeartbeats 800000 in
theorem i_indicesOk {hi' : Nat} (vars : Int) (A : Option Addr) (n c : Nat) (va : Value) (zs : List Int) (w : World) (h : Ints hi' w va zs) (hn : n ≤ 60) :
    Calls Try.prog 59 #[.agg #[.int .i64 vars, .slice A n c], va] w fun e w' => e = .returned (.bool (idxB 0 ((n : Int) - 1) none zs)) ∧ Below w.heap.size w w' := by
  obtain ⟨wb, hwb⟩ : ∃ wb, wb = w.alloc (.cells #[.int .i64 vars, .slice A n c] 29) := ⟨_, rfl⟩
  have hal : Below w.heap.size w wb := by rw [hwb]; exact (Below.refl _ _).alloc (Nat.le_refl _) _
  have x01 : wb.cell? ⟨w.heap.size, 1, none⟩ = some (.slice A n c) := by rw [hwb]; simp
  obtain ⟨A1, c1, rfl, hc, hm, hrow⟩ := h.below hal
  have HWB := hide hwb
  unfold maxLen at hm
  clear hwb h
  go_enter Try.func59, Try.ntmps59
  go_wp2_with fail
  rw [← HWB.out]
  go_loopw [9] (fun i wr => ∃ k : Nat, k ≤ zs.length ∧ i = .int .i64 k ∧ Hid (idxB 0 ((n : Int) - 1) none zs = idxB 0 ((n : Int) - 1) (prevAt zs k) (zs.drop k)) ∧ wr = wb) (fun i _ => zs.length - (intOf i).toNat)
  case atStart => exact ⟨0, Nat.zero_le _, rfl, rfl, rfl⟩
  case round =>
    obtain ⟨k, hk, rfl, hr, rfl⟩ := hrel
    by_cases hlt : k < zs.length
    · obtain ⟨b, off, x, rfl, hx, hcw⟩ := hrow.int hlt
      cases hl : inB x 0 ((n : Int) - 1) with
      | false =>
        have HF := hide (show idxB 0 ((n : Int) - 1) none zs = false by rw [hr.out, hx]; cases prevAt zs k <;> simp [idxB, hl])
        clear hx
        go_wp2_with (go_at_call 71; refine (i_within _ _ _ _).mono ?_; rintro e w' ⟨rfl, rfl⟩)
        go_ret
        exact ⟨by rw [HF.out]; rfl, hal⟩
      | true =>
        by_cases hp : k = 0
        · have hd : decide (0 < k) = false := by simp; omega
          have HF := hide (show idxB 0 ((n : Int) - 1) none zs = idxB 0 ((n : Int) - 1) (prevAt zs (k + 1)) (zs.drop (k + 1)) by
            rw [hr.out, hx, show prevAt zs (k + 1) = some x from get_of_drop hx, hp]
            simp [idxB, prevAt, hl])
          have HP := hide hp
          clear hx hp
          go_wp2_with (go_at_call 71; refine (i_within _ _ _ _).mono ?_; rintro e w' ⟨rfl, rfl⟩)
          go_roundw
          case rel => exact ⟨k + 1, by omega, by go_num, HF.out, by first | rfl | trivial⟩
          case measure => simp [intOf]; omega
        · have hd : decide (0 < k) = true := by simp; omega
          obtain ⟨b', off', p, e, hx', hcp⟩ := hrow.int (k := k - 1) (by omega)
          obtain ⟨rfl, rfl⟩ : b' = b ∧ off' = off := by simpa using e.symm
          have hprev : prevAt zs k = some p := by rw [prevAt_pos (by omega)]; exact get_of_drop hx'
          clear e hx'
          cases ha : decide (x ≤ p) with
          | true =>
            have HF := hide (show idxB 0 ((n : Int) - 1) none zs = false by rw [hr.out, hx, hprev]; simp [idxB, hl, ha])
            clear hx hprev
            go_wp2_with (go_at_call 71; refine (i_within _ _ _ _).mono ?_; rintro e w' ⟨rfl, rfl⟩)
            go_ret
            exact ⟨by rw [HF.out]; rfl, hal⟩
          | false =>
            have HF := hide (show idxB 0 ((n : Int) - 1) none zs = idxB 0 ((n : Int) - 1) (prevAt zs (k + 1)) (zs.drop (k + 1)) by
              rw [hr.out, hx, show prevAt zs (k + 1) = some x from get_of_drop hx, hprev]
              simp [idxB, hl, ha])
            clear hx hprev
            go_wp2_with (go_at_call 71; refine (i_within _ _ _ _).mono ?_; rintro e w' ⟨rfl, rfl⟩)
            go_roundw
            case rel => exact ⟨k + 1, by omega, by go_num, HF.out, by first | rfl | trivial⟩
            case measure => simp [intOf]; omega
    · obtain rfl : k = zs.length := by omega
      go_wp2_with fail
      go_ret
      exact ⟨by rw [hr.out, List.drop_length]; cases prevAt zs zs.length <;> rfl, hal⟩

set_option maxHeartbeats 800000 in
theorem s_l1Rising {hi' : Nat} (va : Value) (zs : List Int) (lo hi : Int) (w : World) (h : Ints hi' w va zs) :
    Calls Try.prog 88 #[va, .int .i64 lo, .int .i64 hi] w fun e w' => e = .returned (.bool (idxB lo hi none zs)) ∧ Quiet w w' := by
  obtain ⟨A, c, rfl, hc, hm, hrow⟩ := h
  unfold maxLen at hm
  go_enter Try.func88, Try.ntmps88
  go_wp2_with fail
  go_loopw [7] (fun i wr => ∃ k : Nat, k ≤ zs.length ∧ i = .int .i64 k ∧ Hid (idxB lo hi none zs = idxB lo hi (prevAt zs k) (zs.drop k)) ∧ Quiet w wr) (fun i _ => zs.length - (intOf i).toNat)
  case atStart => exact ⟨0, Nat.zero_le _, rfl, rfl, Quiet.refl _⟩
  case round =>
    obtain ⟨k, hk, rfl, hr, hq⟩ := hrel
    by_cases hlt : k < zs.length
    · obtain ⟨b, off, x, rfl, hx, hcw⟩ := hrow.int hlt
      rw [← hq.cell] at hcw
      cases hl : inB x lo hi with
      | false =>
        have HF := hide (show idxB lo hi none zs = false by rw [hr.out, hx]; cases prevAt zs k <;> simp [idxB, hl])
        clear hx
        go_wp2_with fail
        go_quiet ((go_at_call 68; exact quietE (s_l1In _ _ _ _)))
        go_wp2_with fail
        go_ret
        exact ⟨by rw [HF.out]; rfl, hq.drewN _⟩
      | true =>
        by_cases hp : k = 0
        · have hd : decide (0 < k) = false := by simp; omega
          have HF := hide (show idxB lo hi none zs = idxB lo hi (prevAt zs (k + 1)) (zs.drop (k + 1)) by
            rw [hr.out, hx, show prevAt zs (k + 1) = some x from get_of_drop hx, hp]
            simp [idxB, prevAt, hl])
          have HP := hide hp
          clear hx hp
          go_wp2_with fail
          go_quiet ((go_at_call 68; exact quietE (s_l1In _ _ _ _)))
          go_wp2_with fail
          go_roundw
          case rel => exact ⟨k + 1, by omega, by go_num, HF.out, hq.drewN _⟩
          case measure => simp [intOf]; omega
        · have hd : decide (0 < k) = true := by simp; omega
          obtain ⟨b', off', p, e, hx', hcp⟩ := hrow.int (k := k - 1) (by omega)
          obtain ⟨rfl, rfl⟩ : b' = b ∧ off' = off := by simpa using e.symm
          rw [← hq.cell] at hcp
          have hprev : prevAt zs k = some p := by rw [prevAt_pos (by omega)]; exact get_of_drop hx'
          clear e hx'
          cases ha : decide (x ≤ p) with
          | true =>
            have HF := hide (show idxB lo hi none zs = false by rw [hr.out, hx, hprev]; simp [idxB, hl, ha])
            clear hx hprev
            go_wp2_with fail
            go_quiet ((go_at_call 68; exact quietE (s_l1In _ _ _ _)))
            go_wp2_with fail
            go_ret
            exact ⟨by rw [HF.out]; rfl, hq.drewN _⟩
          | false =>
            have HF := hide (show idxB lo hi none zs = idxB lo hi (prevAt zs (k + 1)) (zs.drop (k + 1)) by
              rw [hr.out, hx, show prevAt zs (k + 1) = some x from get_of_drop hx, hprev]
              simp [idxB, hl, ha])
            clear hx hprev
            go_wp2_with fail
            go_quiet ((go_at_call 68; exact quietE (s_l1In _ _ _ _)))
            go_wp2_with fail
            go_roundw
            case rel => exact ⟨k + 1, by omega, by go_num, HF.out, hq.drewN _⟩
            case measure => simp [intOf]; omega
    · obtain rfl : k = zs.length := by omega
      go_wp2_with fail
      go_ret
      exact ⟨by rw [hr.out, List.drop_length]; cases prevAt zs zs.length <;> rfl, hq⟩

set_option maxHeartbeats 800000 in
theorem i_chosen {hi hi' : Nat} (vars : Int) (A : Option Addr) (n c : Nat) (t : List (List Int)) (va : Value) (zs : List Int) (w : World) (ht : Tab hi w (.slice A n c) t) (h : Ints hi' w va zs) (hin : ∀ x ∈ zs, 0 ≤ x ∧ x < (t.length : Int)) (hl : zs.length ≤ 1048576) :
    Calls Try.prog 115 #[.agg #[.int .i64 vars, .slice A n c], va] w fun e w' => ∃ v' ps, e = .returned v' ∧ ps.map (·.2) = pickT t zs ∧ RTab (w.heap.size + 1) w' v' ps ∧ Below w.heap.size w w' := by
  obtain ⟨wb, hwb⟩ : ∃ wb, wb = w.alloc (.cells #[.int .i64 vars, .slice A n c] 29) := ⟨_, rfl⟩
  have hal : Below w.heap.size w wb := by rw [hwb]; exact (Below.refl _ _).alloc (Nat.le_refl _) _
  have hsb : w.heap.size + 1 = wb.heap.size := by rw [hwb]; simp
  have x01 : wb.cell? ⟨w.heap.size, 1, none⟩ = some (.slice A n c) := by rw [hwb]; simp
  obtain ⟨A1, c1, rfl, hc, hm, hrow⟩ := h.top.below hal
  obtain ⟨A2, c2, ps, e2, hc2, hm2, rfl, hrow2, hps⟩ := (ht.top.below hal).open_
  injection e2 with e3 e4 e5
  subst e3 e4 e5
  have HWB := hide hwb
  have HSB := hide hsb
  have HPS := hide hps
  have HIN := hide hin
  unfold maxLen at hm hm2
  clear hwb h ht hps hin hsb
  go_enter Try.func115, Try.ntmps115
  go_wp2_with fail
  rw [← HWB.out]
  go_loopw [5, 10] (fun q i wr => ∃ (k : Nat) (qs : List (Value × List Int)), k ≤ zs.length ∧ i = .int .i64 k ∧ Hid (qs.length = k ∧ qs.map (·.2) = pickT (ps.map (·.2)) (zs.take k)) ∧ RTab (w.heap.size + 1) wr q qs ∧ Below (w.heap.size + 1) wb wr) (fun _ i _ => zs.length - (intOf i).toNat)
  case atStart => exact ⟨0, [], Nat.zero_le _, rfl, ⟨rfl, rfl⟩, RTab.nil _ _, Below.refl _ _⟩
  case round =>
    obtain ⟨k, qs, hk, rfl, hqs, hR, hbel⟩ := hrel
    have y01 := (hbel.cell (p := ⟨w.heap.size, 1, none⟩) (by simp)).trans x01
    have hszr : w.heap.size + 1 ≤ wr.heap.size := by have := hbel.size; have := HSB.out; omega
    by_cases hlt : k < zs.length
    · obtain ⟨b, off, x, rfl, hx, hcw⟩ := hrow.int hlt
      have hbb : b < w.heap.size := by obtain ⟨b', off', e', hlt', _⟩ := hrow (by simp; omega); injection e' with e'; injection e' with e1 e2; omega
      replace hcw := (hbel.cell (p := ⟨b, off + k, none⟩) (by simp; omega)).trans hcw
      have hxi := HIN.out x (List.mem_of_getElem? (get_of_drop hx))
      obtain ⟨m, rfl⟩ : ∃ m : Nat, x = (m : Int) := ⟨x.toNat, by omega⟩
      have hmk : m < ps.length := by have := hxi.2; simp at this; omega
      obtain ⟨b2, off2, u, z, rfl, hx2, hcu, hz⟩ := hrow2.tab HPS.out hmk
      have hbb2 : b2 < w.heap.size := by obtain ⟨b', off', e', hlt', _⟩ := hrow2 (by simp; omega); injection e' with e'; injection e' with e1 e2; omega
      replace hcu := (hbel.cell (p := ⟨b2, off2 + m, none⟩) (by simp; omega)).trans hcu
      have hzr := hz.under hbel (by omega)
      obtain ⟨Au, cu, rfl, -⟩ := id hz
      have HF : Hid (qs.map (·.2) ++ [z] = pickT (ps.map (·.2)) (zs.take (k + 1))) := by
        show _ = _
        rw [take_snoc hx, hqs.out.2]
        simp only [pickT, List.map_append, List.map_cons, List.map_nil, Int.toNat_natCast]
        rw [List.getD_eq_getElem?_getD, List.getElem?_map, get_of_drop hx2]
        rfl
      have HL := hide hqs.out.1
      have HAP : Hid (∀ v0, RTab (w.heap.size + 1) wr v0 qs → (z = [] ∨ (Value.slice Au z.length cu).ownBlock ≠ v0.ownBlock)) := by
        intro v0 hR
        by_cases h0 : z = []
        · exact .inl h0
        · right
          obtain ⟨b', hb', hh, _⟩ := hz.block h0
          intro e
          rw [hb'] at e
          have := hR.1.block_lt e.symm
          omega
      clear hx hx2 hxi
      go_wp2_with (at_builtin; (refine append_row rfl _ _ rfl (w.heap.size + 1) rfl hR hzr (HAP.out _ hR) rfl rfl ?_ hszr ?_); (· (have := HL.out; omega)); (intro v2 w2 hR2 hg2 hb2))
      go_roundw
      case rel => exact ⟨k + 1, _, by omega, by go_num, ⟨by simp [HL.out], by rw [List.map_append]; exact HF.out⟩, hR2, hbel.trans hb2⟩
      case measure => simp [intOf]; omega
    · obtain rfl : k = zs.length := by omega
      have HQ := hide hqs.out.2
      go_wp2_with fail
      go_ret
      first | exact ⟨_, qs, rfl, by rw [HQ.out, List.take_length], hR, hal.trans (hbel.mono (by omega))⟩ | exact ⟨_, rfl, qs, by rw [HQ.out, List.take_length], hR, hal.trans (hbel.mono (by omega))⟩

set_option maxHeartbeats 1600000 in
theorem s_l5Some {hi hi' : Nat} (vars : Int) (A : Option Addr) (n c : Nat) (t : List (List Int)) (va : Value) (zs : List Int) (w : World) (ht : Tab hi w (.slice A n c) t) (h : Ints hi' w va zs) (hin : ∀ x ∈ zs, 0 ≤ x ∧ x < (t.length : Int)) (hl : zs.length ≤ 1048576) :
    Calls Try.prog 101 #[.agg #[.int .i64 vars, .slice A n c], va] w fun e w' => ∃ v' ps, e = .returned v' ∧ ps.map (·.2) = pickT t zs ∧ RTab (w.heap.size + 1) w' v' ps ∧ Below w.heap.size w w' := by
  obtain ⟨wa, hwa⟩ : ∃ wa, wa = w.alloc (.cells #[.int .i64 vars, .slice A n c] 29) := ⟨_, rfl⟩
  have hala : Below w.heap.size w wa := by rw [hwa]; exact (Below.refl _ _).alloc (Nat.le_refl _) _
  have hsa : w.heap.size + 1 = wa.heap.size := by rw [hwa]; simp
  have xa1 : wa.cell? ⟨w.heap.size, 1, none⟩ = some (.slice A n c) := by rw [hwa]; simp
  obtain ⟨wb, hwb⟩ : ∃ wb, wb = wa.alloc (.cells #[] 25) := ⟨_, rfl⟩
  have halb : Below wa.heap.size wa wb := by rw [hwb]; exact (Below.refl _ _).alloc (Nat.le_refl _) _
  have hmade : RTab (w.heap.size + 1) wb (.slice (some ⟨w.heap.size + 1, 0, none⟩) 0 0) [] := by rw [hwb, hsa]; exact RTab.made _ _ (Nat.le_refl _)
  have x01 := below_old halb _ _ xa1
  have hal := hala.trans (halb.mono (by omega))
  have hsb : w.heap.size + 1 ≤ wb.heap.size := by rw [hsa]; exact halb.size
  obtain ⟨A1, c1, rfl, hc, hm, hrow⟩ := h.top.below hal
  obtain ⟨A2, c2, ps, e2, hc2, hm2, rfl, hrow2, hps⟩ := (ht.top.below hal).open_
  injection e2 with e3 e4 e5
  subst e3 e4 e5
  have HWB := hide (show wb = (w.alloc (.cells #[.int .i64 vars, .slice A ps.length c] 29)).alloc (.cells #[] 25) by rw [hwb, hwa])
  have HPS := hide hps
  have HIN := hide hin
  have HMADE := hide hmade
  unfold maxLen at hm hm2
  clear hwb hwa h ht hps hin hmade hala halb hsa xa1
  go_enter Try.func101, Try.ntmps101
  go_wp2_with fail
  rw [← HWB.out]
  go_loopw [5, 6] (fun q i wr => ∃ (k : Nat) (qs : List (Value × List Int)), k ≤ zs.length ∧ i = .int .i64 k ∧ Hid (qs.length = k ∧ qs.map (·.2) = pickT (ps.map (·.2)) (zs.take k)) ∧ RTab (w.heap.size + 1) wr q qs ∧ Below (w.heap.size + 1) wb wr) (fun _ i _ => zs.length - (intOf i).toNat)
  case atStart => exact ⟨0, [], Nat.zero_le _, rfl, ⟨rfl, rfl⟩, HMADE.out, Below.refl _ _⟩
  case round =>
    obtain ⟨k, qs, hk, rfl, hqs, hR, hbel⟩ := hrel
    have y01 := (hbel.cell (p := ⟨w.heap.size, 1, none⟩) (by simp)).trans x01
    have hszr : w.heap.size + 1 ≤ wr.heap.size := by have := hbel.size; omega
    by_cases hlt : k < zs.length
    · obtain ⟨b, off, x, rfl, hx, hcw⟩ := hrow.int hlt
      have hbb : b < w.heap.size + 1 := by obtain ⟨b', off', e', hlt', _⟩ := hrow (by simp; omega); injection e' with e'; injection e' with e1 e2; omega
      replace hcw := (hbel.cell (p := ⟨b, off + k, none⟩) (by simp; omega)).trans hcw
      have hxi := HIN.out x (List.mem_of_getElem? (get_of_drop hx))
      obtain ⟨m, rfl⟩ : ∃ m : Nat, x = (m : Int) := ⟨x.toNat, by omega⟩
      have hmk : m < ps.length := by have := hxi.2; simp at this; omega
      obtain ⟨b2, off2, u, z, rfl, hx2, hcu, hz⟩ := hrow2.tab HPS.out hmk
      have hbb2 : b2 < w.heap.size + 1 := by obtain ⟨b', off', e', hlt', _⟩ := hrow2 (by simp; omega); injection e' with e'; injection e' with e1 e2; omega
      replace hcu := (hbel.cell (p := ⟨b2, off2 + m, none⟩) (by simp; omega)).trans hcu
      have hzr := hz.under hbel (by omega)
      obtain ⟨Au, cu, rfl, -⟩ := id hz
      have HF : Hid (qs.map (·.2) ++ [z] = pickT (ps.map (·.2)) (zs.take (k + 1))) := by
        show _ = _
        rw [take_snoc hx, hqs.out.2]
        simp only [pickT, List.map_append, List.map_cons, List.map_nil, Int.toNat_natCast]
        rw [List.getD_eq_getElem?_getD, List.getElem?_map, get_of_drop hx2]
        rfl
      have HL := hide hqs.out.1
      have HLN := hide (show qs.length ≤ 1073741824 by have := hqs.out.1; omega)
      have HAP : Hid (∀ v0, RTab (w.heap.size + 1) wr v0 qs → (z = [] ∨ (Value.slice Au z.length cu).ownBlock ≠ v0.ownBlock)) := by
        intro v0 hR
        by_cases h0 : z = []
        · exact .inl h0
        · right
          obtain ⟨b', hb', hh, _⟩ := hz.block h0
          intro e
          rw [hb'] at e
          have := hR.1.block_lt e.symm
          omega
      clear hx hx2 hxi
      go_wp2_with fail
      go_region_held3 (fun w' => w'.cell? ⟨w.heap.size, 1, none⟩ = some (.slice (some ⟨b2, off2, none⟩) ps.length c) ∧ w'.cell? ⟨b, off + k, none⟩ = some (.int .i64 (m : Int)) ∧ w'.cell? ⟨b2, off2 + m, none⟩ = some (.slice Au z.length cu)) (first | go_keep | exact ⟨y01, hcw, hcu⟩)
        ((first | ((refine step_row (H := wr.heap.size) rfl _ _ rfl (w.heap.size + 1) ?_ wr hR ?_ hszr HLN.out hzr (HAP.out _ hR) ?_ ?_ ?_); (· rfl); (· (repeat (first | exact Below.refl _ _ | apply below_drew_of | apply below_alloc_of))); (· rfl); (· simp); (intro v2 w2 hR2 hb2; replace y01 := (hb2.cell (p := ⟨w.heap.size, 1, none⟩) (by simp)).trans y01; replace hcw := (hb2.cell (p := ⟨b, off + k, none⟩) hbb).trans hcw; replace hcu := (hb2.cell (p := ⟨b2, off2 + m, none⟩) hbb2).trans hcu))))
      go_wp2_with fail
      go_roundw
      case rel => exact ⟨k + 1, _, by omega, by go_num, ⟨by simp [HL.out], by rw [List.map_append]; exact HF.out⟩, hR2, hbel.trans hb2⟩
      case measure => simp [intOf]; omega
    · obtain rfl : k = zs.length := by omega
      have HQ := hide hqs.out.2
      go_wp2_with fail
      go_ret
      first | exact ⟨_, qs, rfl, by rw [HQ.out, List.take_length], hR, hal.trans (hbel.mono (by omega))⟩ | exact ⟨_, rfl, qs, by rw [HQ.out, List.take_length], hR, hal.trans (hbel.mono (by omega))⟩

theorem first_core (f : CnfL) : decide (firstF f < 0) = !satB f := by
  have h1 := firstL_nil (modelsF f)
  unfold satB
  rw [← h1, firstF_eq]
  by_cases h : firstL (modelsF f) < 0
  · rw [decide_eq_true h, show decide (0 ≤ firstL (modelsF f)) = false by simp; omega]; rfl
  · rw [decide_eq_false h, show decide (0 ≤ firstL (modelsF f)) = true by simp; omega]; rfl

set_option maxHeartbeats 800000 in
theorem i_isCore {hi hi' : Nat} (n : Nat) (A : Option Addr) (m c : Nat) (t : List (List Int)) (va : Value) (zs : List Int) (w : World) (ht : Tab hi w (.slice A m c) t) (h : Ints hi' w va zs) (hn : n ≤ 12) (hs : ∀ c ∈ t, ∀ l ∈ c, l ≠ 0 ∧ -12 ≤ l ∧ l ≤ 12)
    (hin : ∀ x ∈ zs, 0 ≤ x ∧ x < (t.length : Int)) (hl : zs.length ≤ 1048576) :
    Calls Try.prog 60 #[.agg #[.int .i64 n, .slice A m c], va] w fun e w' => e = .returned (.bool (coreB n t zs)) ∧ Below w.heap.size w w' := by
  obtain ⟨wb, hwb⟩ : ∃ wb, wb = w.alloc (.cells #[.int .i64 n, .slice A m c] 29) := ⟨_, rfl⟩
  have hal : Below w.heap.size w wb := by rw [hwb]; exact (Below.refl _ _).alloc (Nat.le_refl _) _
  have x00 : wb.cell? ⟨w.heap.size, 0, none⟩ = some (.int .i64 n) := by rw [hwb]; simp
  have x01 : wb.cell? ⟨w.heap.size, 1, none⟩ = some (.slice A m c) := by rw [hwb]; simp
  have htb := (ht.top.below hal).below (below_drew wb)
  have hzb := (h.top.below hal).below (below_drew wb)
  have HWB := hide hwb
  have HS := hide (pickT_small hs zs)
  have HIN := hide hin
  clear hwb ht h hs hin
  go_enter Try.func60, Try.ntmps60
  go_wp2_with fail
  rw [← HWB.out]
  go_region_held3 (fun w' => w'.cell? ⟨w.heap.size, 0, none⟩ = some (.int .i64 (n : Int)) ∧ w'.cell? ⟨w.heap.size, 1, none⟩ = some (.slice A m c)) (first | exact ⟨x00, x01⟩ | go_keep)
    ((first | (go_at_call 115; refine (i_chosen _ A m c t _ zs _ htb hzb HIN.out hl).mono ?_; rintro e w1 ⟨v1, ps1, rfl, hps1, hR1, hb1⟩; replace x00 := below_old hb1 _ _ x00; replace x01 := below_old hb1 _ _ x01; obtain ⟨A1, c1, rfl⟩ := hR1.open_; have htab := hR1.tab; rw [hps1] at htab) | (go_at_call 106; refine (i_satisfiable n _ _ _ htab hn HS.out).mono ?_; rintro e w2 ⟨rfl, hb2⟩; replace x00 := below_old hb2 _ _ x00; replace x01 := below_old hb2 _ _ x01)))
  go_wp2_with fail
  go_ret
  have h1 := (below_drew_of hal).trans (hb1.mono hal.size)
  exact ⟨rfl, h1.trans (hb2.mono h1.size)⟩

set_option maxHeartbeats 800000 in
theorem s_l5Core {hi hi' : Nat} (n : Nat) (A : Option Addr) (m c : Nat) (t : List (List Int)) (va : Value) (zs : List Int) (w : World) (ht : Tab hi w (.slice A m c) t) (h : Ints hi' w va zs) (hn : n ≤ 12) (hs : ∀ c ∈ t, ∀ l ∈ c, l ≠ 0 ∧ -12 ≤ l ∧ l ≤ 12)
    (hin : ∀ x ∈ zs, 0 ≤ x ∧ x < (t.length : Int)) (hl : zs.length ≤ 1048576) :
    Calls Try.prog 58 #[.agg #[.int .i64 n, .slice A m c], va] w fun e w' => e = .returned (.bool (coreB n t zs)) ∧ Below w.heap.size w w' := by
  obtain ⟨wb, hwb⟩ : ∃ wb, wb = w.alloc (.cells #[.int .i64 n, .slice A m c] 29) := ⟨_, rfl⟩
  have hal : Below w.heap.size w wb := by rw [hwb]; exact (Below.refl _ _).alloc (Nat.le_refl _) _
  have x00 : wb.cell? ⟨w.heap.size, 0, none⟩ = some (.int .i64 n) := by rw [hwb]; simp
  have x01 : wb.cell? ⟨w.heap.size, 1, none⟩ = some (.slice A m c) := by rw [hwb]; simp
  have htb := (ht.top.below hal).below (below_drew wb)
  have hzb := (h.top.below hal).below (below_drew wb)
  have HWB := hide hwb
  have HS := hide (pickT_small hs zs)
  have HIN := hide hin
  have HCB := hide (show coreB n t zs = decide (firstF ((n : Int), pickT t zs) < 0) by rw [first_core]; rfl)
  clear hwb ht h hs hin
  go_enter Try.func58, Try.ntmps58
  go_wp2_with fail
  rw [← HWB.out]
  go_region_held3 (fun w' => w'.cell? ⟨w.heap.size, 0, none⟩ = some (.int .i64 (n : Int)) ∧ w'.cell? ⟨w.heap.size, 1, none⟩ = some (.slice A m c)) (first | exact ⟨x00, x01⟩ | go_keep)
    ((first | (go_at_call 101; refine (s_l5Some _ A m c t _ zs _ htb hzb HIN.out hl).mono ?_; rintro e w1 ⟨v1, ps1, rfl, hps1, hR1, hb1⟩; replace x00 := below_old hb1 _ _ x00; replace x01 := below_old hb1 _ _ x01; obtain ⟨A1, c1, rfl⟩ := hR1.open_; have htab := hR1.tab; rw [hps1] at htab) | (go_at_call 114; refine (s_l5First n _ _ _ htab hn HS.out).mono ?_; rintro e w2 ⟨rfl, hq2⟩; have hb2 := hq2.below w1.heap.size; replace x00 := below_old hb2 _ _ x00; replace x01 := below_old hb2 _ _ x01)))
  go_wp2_with fail
  go_ret
  have h1 := (below_drew_of hal).trans (hb1.mono hal.size)
  exact ⟨by rw [HCB.out]; rfl, h1.trans (hb2.mono h1.size)⟩

def takesB (f : CnfL) (a : List Int) : Bool := goodB f && idxB 0 ((f.2.length : Int) - 1) none a
theorem takes_in {f : CnfL} {a : List Int} (h : idxB 0 ((f.2.length : Int) - 1) none a = true) : ∀ x ∈ a, 0 ≤ x ∧ x < (f.2.length : Int) := fun x hx => by
  have := idxB_in a none h x hx
  omega
def fIsCore (f : CnfL) (a : List Int) : Bool × Bool := if goodB f then (if idxB 0 ((f.2.length : Int) - 1) none a then (coreB f.1 f.2 a, true) else (false, false)) else (false, false)

theorem s_l5Takes {hi hi' : Nat} (v : Value) (f : CnfL) (va : Value) (a : List Int) (w : World) (h : RCnf hi w v f) (h2 : Ints hi' w va a) :
    Calls Try.prog 57 #[v, va] w fun e w' => e = .returned (.bool (takesB f a)) ∧ Below w.heap.size w w' := by
  obtain ⟨A, n, c, rfl, ht⟩ := h.open2
  obtain ⟨vars, t⟩ := f
  dsimp only at ht ⊢
  have hal : Below w.heap.size w (w.alloc (.cells #[.int .i64 vars, .slice A n c] 29)) := (Below.refl _ _).alloc (Nat.le_refl _) _
  have htb := ht.top.below hal
  have h2b := h2.top.below hal
  have hlen : t.length = n := by obtain ⟨A', c', ps', e, _⟩ := ht; injection e with _ e2; exact e2.symm
  cases hg : goodB (vars, t) with
  | false =>
    have HT := hide (show takesB (vars, t) a = false by unfold takesB; rw [hg]; rfl)
    go_enter Try.func57, Try.ntmps57
    go_wp2_with (go_at_call 61; refine (s_l2Good _ (vars, t) _ ⟨_, rfl, htb⟩).mono ?_; rintro e w1 ⟨rfl, hb1⟩)
    go_ret
    exact ⟨by rw [HT.out]; rfl, (box2 hb1).2.2.1⟩
  | true =>
    have HL := hide (goodB_len hg)
    have HT := hide (show takesB (vars, t) a = idxB 0 ((n : Int) - 1) none a by unfold takesB; rw [hg]; simp [hlen])
    have hn60 : n ≤ 60 := by have := HL.out; dsimp only at this; omega
    have HLE := hide hlen
    clear hlen
    go_enter Try.func57, Try.ntmps57
    go_wp2_with (first | (go_at_call 61; refine (s_l2Good _ (vars, t) _ ⟨_, rfl, htb⟩).mono ?_; rintro e w1 ⟨rfl, hb1⟩; obtain ⟨c0, c1, hbw, hsz⟩ := box2 hb1) | (go_at_call 88; refine (s_l1Rising _ a _ _ _ (h2b.below hb1)).mono ?_; rintro e w2 ⟨rfl, hq2⟩))
    go_ret
    exact ⟨by rw [HT.out]; rfl, hbw.trans (hq2.below _)⟩

set_option maxHeartbeats 800000 in
theorem S_IsCore {hi hi' : Nat} (v : Value) (f : CnfL) (va : Value) (a : List Int) (r0 : Bool) (r1 : Bool) (w : World) (h : RCnf hi w v f) (h2 : Ints hi' w va a) (hn0 : szC f ≤ 1048576) (hn1 : a.length ≤ 1048576) (hR : fIsCore f a = (r0, r1)) :
    Calls Try.prog 25 #[v, va] w fun e w' => e = .returned (.tuple #[.bool r0, .bool r1]) ∧ Below w.heap.size w w' := by
  obtain ⟨A, n, c, rfl, ht⟩ := h.open2
  obtain ⟨vars, t⟩ := f
  dsimp only at ht ⊢
  have hal : Below w.heap.size w (w.alloc (.cells #[.int .i64 vars, .slice A n c] 29)) := (Below.refl _ _).alloc (Nat.le_refl _) _
  have htb := ht.top.below hal
  have h2b := h2.top.below hal
  cases hg : takesB (vars, t) a with
  | false =>
    obtain ⟨rfl, rfl⟩ : r0 = false ∧ r1 = false := by
      unfold takesB at hg
      cases hg1 : goodB (vars, t) with
      | false => simpa [fIsCore, hg1, eq_comm] using hR
      | true => rw [hg1] at hg; simp at hg; simpa [fIsCore, hg1, hg, eq_comm] using hR
    clear hR
    go_enter Try.func25, Try.ntmps25
    go_wp2_with (go_at_call 57; refine (s_l5Takes _ (vars, t) _ a _ ⟨_, rfl, htb⟩ h2b).mono ?_; rintro e w1 ⟨rfl, hb1⟩; rw [hg])
    go_ret2
    exact ⟨rfl, (box2 hb1).2.2.1⟩
  | true =>
    have hg' := hg
    unfold takesB at hg'
    simp only [Bool.and_eq_true] at hg'
    obtain ⟨hg1, hg2⟩ := hg'
    obtain ⟨hr0, rfl⟩ : r0 = coreB vars t a ∧ r1 = true := by simpa [fIsCore, hg1, hg2, eq_comm] using hR
    have HS := hide (goodB_small hg1)
    have HIN := hide (takes_in (f := (vars, t)) hg2)
    obtain ⟨nv, hv, hn⟩ := varsB_nat (goodB_parts hg1).1
    dsimp only at HS HIN hv
    subst hv
    have HR := hide hr0
    clear hR hr0 hg1 hg2
    go_enter Try.func25, Try.ntmps25
    go_wp2_with (first | (go_at_call 57; refine (s_l5Takes _ ((nv : Int), t) _ a _ ⟨_, rfl, htb⟩ h2b).mono ?_; rintro e w1 ⟨rfl, hb1⟩; rw [hg]; obtain ⟨c0, c1, hbw, hsz⟩ := box2 hb1) | (go_at_call 58; refine (s_l5Core nv A n c t _ a _ (htb.below hb1) (h2b.below hb1) hn HS.out HIN.out hn1).mono ?_; rintro e w2 ⟨rfl, hb2⟩))
    go_ret2
    exact ⟨by rw [HR.out]; rfl, hbw.trans (hb2.mono hbw.size)⟩

set_option maxHeartbeats 800000 in
theorem I_IsCore {hi hi' : Nat} (v : Value) (f : CnfL) (va : Value) (a : List Int) (r0 : Bool) (r1 : Bool) (w : World) (h : RCnf hi w v f) (h2 : Ints hi' w va a) (hn0 : szC f ≤ 1048576) (hn1 : a.length ≤ 1048576) (hR : fIsCore f a = (r0, r1)) :
    Calls Try.prog 26 #[v, va] w fun e w' => e = .returned (.tuple #[.bool r0, .bool r1]) ∧ Below w.heap.size w w' := by
  obtain ⟨A, n, c, rfl, ht⟩ := h.open2
  obtain ⟨vars, t⟩ := f
  dsimp only at ht ⊢
  have hal : Below w.heap.size w (w.alloc (.cells #[.int .i64 vars, .slice A n c] 29)) := (Below.refl _ _).alloc (Nat.le_refl _) _
  have htb := ht.top.below hal
  have h2b := h2.top.below hal
  have hlen : t.length = n := by obtain ⟨A', c', ps', e, _⟩ := ht; injection e with _ e2; exact e2.symm
  cases hg : goodB (vars, t) with
  | false =>
    obtain ⟨rfl, rfl⟩ : r0 = false ∧ r1 = false := by simpa [fIsCore, hg, eq_comm] using hR
    clear hR
    go_enter Try.func26, Try.ntmps26
    go_wp2_with (go_at_call 52; refine (i_IsCnf _ (vars, t) _ ⟨_, rfl, htb⟩).mono ?_; rintro e w1 ⟨rfl, hb1⟩)
    go_ret2
    exact ⟨rfl, (box2 hb1).2.2.1⟩
  | true =>
    have hn60 : n ≤ 60 := by have := goodB_len hg; dsimp only at this; omega
    cases hcl : idxB 0 ((n : Int) - 1) none a with
    | false =>
      obtain ⟨rfl, rfl⟩ : r0 = false ∧ r1 = false := by simpa [fIsCore, hg, hlen, hcl, eq_comm] using hR
      have HLE := hide hlen
      clear hR hlen
      go_enter Try.func26, Try.ntmps26
      go_wp2_with (first | (go_at_call 52; refine (i_IsCnf _ (vars, t) _ ⟨_, rfl, htb⟩).mono ?_; rintro e w1 ⟨rfl, hb1⟩; obtain ⟨c0, c1, hbw, hsz⟩ := box2 hb1) | (go_at_call 59; refine (i_indicesOk vars A n c _ a _ (h2b.below hb1) hn60).mono ?_; rintro e w2 ⟨rfl, hb2⟩))
      go_ret2
      exact ⟨rfl, hbw.trans (hb2.mono hbw.size)⟩
    | true =>
      obtain ⟨hr0, rfl⟩ : r0 = coreB vars t a ∧ r1 = true := by simpa [fIsCore, hg, hlen, hcl, eq_comm] using hR
      have HS := hide (goodB_small hg)
      have HIN := hide (takes_in (f := (vars, t)) (a := a) (by rw [hlen]; exact hcl))
      obtain ⟨nv, hv, hn⟩ := varsB_nat (goodB_parts hg).1
      dsimp only at HS HIN hv
      subst hv
      have HR := hide hr0
      have HLE := hide hlen
      clear hR hr0 hlen
      go_enter Try.func26, Try.ntmps26
      go_wp2_with (first | (go_at_call 52; refine (i_IsCnf _ ((nv : Int), t) _ ⟨_, rfl, htb⟩).mono ?_; rintro e w1 ⟨rfl, hb1⟩; obtain ⟨c0, c1, hbw, hsz⟩ := box2 hb1) | (go_at_call 59; refine (i_indicesOk nv A n c _ a _ (h2b.below hb1) hn60).mono ?_; rintro e w2 ⟨rfl, hb2⟩; replace c0 := below_old hb2 _ _ c0; replace c1 := below_old hb2 _ _ c1; have t2 := (htb.below hb1).below hb2; have a2 := (h2b.below hb1).below hb2) | (go_at_call 60; refine (i_isCore nv A n c t _ a _ t2 a2 hn HS.out HIN.out hn1).mono ?_; rintro e w3 ⟨rfl, hb3⟩))
      go_ret2
      have h12 := hbw.trans (hb2.mono hbw.size)
      exact ⟨by rw [HR.out]; rfl, h12.trans (hb3.mono h12.size)⟩

end Go.Proofs.Ytkmkdfogpdndoaa
