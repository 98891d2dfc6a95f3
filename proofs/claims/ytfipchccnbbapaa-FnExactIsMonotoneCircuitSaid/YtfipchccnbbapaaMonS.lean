/- Which gates are needed; the walk of the reference's IsMonotoneCircuit. -/
import Derived.Test.YtfipchccnbbapaaDepth
namespace Go.Proofs.Ytfipchccnbbapaa
open Go.RowKit
set_option linter.unusedVariables false

/-- the needed ones, with some more -/
def mkB : List Bool → List Int → List Bool
  | bs, [] => bs
  | bs, k :: r => mkB (bs.set k.toNat true) r
theorem mkB_len : ∀ (ks : List Int) (bs : List Bool), (mkB bs ks).length = bs.length
  | [], _ => rfl
  | k :: r, bs => by rw [mkB, mkB_len r]; simp
theorem mkB_above {m : Nat} : ∀ (ks : List Int) (bs : List Bool), (∀ k ∈ ks, 0 ≤ k ∧ k < (m : Int)) → ∀ j, m ≤ j → (mkB bs ks)[j]? = bs[j]?
  | [], _, _, _, _ => rfl
  | k :: r, bs, h, j, hj => by
    have hk := h k (by simp)
    rw [mkB, mkB_above r _ (fun x hx => h x (by simp [hx])) j hj, List.getElem?_set_ne (by omega)]
def gateAt (gs : List GateL) (i : Nat) : GateL := gs.getD i (0, 0, 0)
def needStep (gs : List GateL) (bs : List Bool) (i : Nat) : List Bool := if bs.getD i false = true then mkB bs (inputsG (gateAt gs i)) else bs
/-- from the gate ahead of place i down to the first -/
def needDown (gs : List GateL) : Nat → List Bool → List Bool
  | 0, bs => bs
  | i + 1, bs => needDown gs i (needStep gs bs i)
def need0 (n : Nat) : List Bool := (List.replicate n false).set (n - 1) true
def needL (gs : List GateL) : List Bool := needDown gs gs.length (need0 gs.length)
theorem needStep_len (gs : List GateL) (bs : List Bool) (i : Nat) : (needStep gs bs i).length = bs.length := by
  unfold needStep; split
  · exact mkB_len _ _
  · rfl
theorem needDown_len (gs : List GateL) : ∀ (i : Nat) (bs : List Bool), (needDown gs i bs).length = bs.length
  | 0, _ => rfl
  | i + 1, bs => by rw [needDown, needDown_len gs i, needStep_len]
theorem needL_len (gs : List GateL) : (needL gs).length = gs.length := by unfold needL need0; rw [needDown_len]; simp
/-- does no needed gate from place i on stand for a negation? -/
def hasNot (gs : List GateL) (bs : List Bool) (i : Nat) : Bool := (List.range' i (gs.length - i)).any fun j => bs.getD j false && ((gateAt gs j).1 == 4)
theorem hasNot_step (gs : List GateL) (bs : List Bool) (i : Nat) (h : i < gs.length) : hasNot gs bs i = ((bs.getD i false && ((gateAt gs i).1 == 4)) || hasNot gs bs (i + 1)) := by
  unfold hasNot
  rw [show gs.length - i = (gs.length - (i + 1)) + 1 by omega, List.range'_succ, List.any_cons]
theorem hasNot_end (gs : List GateL) (bs : List Bool) : hasNot gs bs gs.length = false := by unfold hasNot; simp
def fIsMonotoneCircuit (vars : Int) (gs : List GateL) : Bool × Bool := if circB vars gs then (!hasNot gs (needL gs) 0, true) else (false, false)

theorem bc_get {bs : List Bool} {j : Nat} (hj : j < bs.length) : (bc bs).toArray[j]? = some (.bool (bs.getD j false)) := by
  rw [List.getElem?_toArray, List.getElem?_map, List.getElem?_eq_getElem hj, List.getD_eq_getElem?_getD, List.getElem?_eq_getElem hj]
  rfl
theorem bc_setM (bs : List Bool) (j : Nat) (b : Bool) : (bc bs).toArray.setIfInBounds j (.bool b) = (bc (bs.set j b)).toArray := by
  apply Array.ext'
  simp [bc, List.map_set]

set_option maxRecDepth 100000 in
set_option maxHeartbeats 3200000 in
theorem s_l6Needed {hi : Nat} (vars : Int) (v : Value) (gs : List GateL) (w : World) (h : Gates hi w v gs) (hg : circB vars gs = true) :
    Calls Try.prog 56 #[v] w fun e w' => e = .returned (.slice (some ⟨w.heap.size, 0, none⟩) gs.length gs.length) ∧ Blk w' w.heap.size 4 (bc (needL gs)).toArray ∧ Below w.heap.size w w' := by
  obtain ⟨_, hl1, hl2, hgs⟩ := circ_parts hg
  have HG := hide hgs
  obtain ⟨A, c, rfl, hc, hm, hrow⟩ := h.top
  unfold maxLen at hm
  obtain ⟨n, hnn⟩ : ∃ n, gs.length = n := ⟨_, rfl⟩
  have HN := hide hnn
  have HROW := hide hrow
  rw [hnn] at hl1 hl2 hc ⊢
  obtain ⟨cs, hcs⟩ : ∃ cs, (bc (List.replicate n false)).toArray = cs := ⟨_, rfl⟩
  have hmk := fun W => run_make_bools n (by omega) W
  rw [hcs] at hmk
  obtain ⟨wb, hwb⟩ : ∃ wb, wb = w.alloc (.cells (cs.setIfInBounds (n - 1) (.bool true)) 4) := ⟨_, rfl⟩
  have hal : Below w.heap.size w wb := by rw [hwb]; exact (Below.refl _ _).alloc (Nat.le_refl _) _
  have hb1 : Blk wb w.heap.size 4 (bc (need0 n)).toArray := by
    rw [hwb, ← hcs, bc_setM]
    exact Blk.new _ _ _
  have HB1 := hide hb1
  have HAL := hide hal
  have hcz : n - 1 < cs.size := by rw [← hcs]; simp; omega
  have HWB := hide hwb
  have hw1 : IntKind.i64.wrap ((n : Int) - 1) = ((n - 1 : Nat) : Int) := by rw [IntKind.wrap_i64]; omega
  have hlt0 : ((n - 1 : Nat) : Int) < (n : Int) := by omega
  have h00 : (0 : Int) ≤ ((n - 1 : Nat) : Int) := by omega
  clear hgs hrow hnn hcs hal hb1 hwb h hg
  go_enter Try.func56, Try.ntmps56
  go_wp2_with fail
  rw [← HWB.out]
  go_wp2_with fail
  go_loopw [4] (fun i wr => ∃ (m : Nat) (bs : List Bool), m ≤ n ∧ i = .int .i64 ((m : Int) - 1) ∧ bs.length = n ∧ Hid (needL gs = needDown gs m bs) ∧ Blk wr w.heap.size 4 (bc bs).toArray ∧ Below w.heap.size w wr) (fun i _ => (intOf i + 1).toNat)
  case atStart => exact ⟨n, need0 n, Nat.le_refl _, by go_num, by simp [need0], hide (by unfold needL; rw [HN.out]), HB1.out, HAL.out⟩
  case round =>
    obtain ⟨m, bs, hmn, rfl, hbl, hr, hblk, hbel⟩ := hrel
    obtain ⟨wo, hwo⟩ : ∃ wo, wo = wr := ⟨_, rfl⟩
    subst hwo
    cases m with
    | zero =>
      have HF := hide (show needL gs = bs from hr.out)
      have c9 : ¬ ((0 : Int) ≤ ((0 : Nat) : Int) - 1) := by omega
      clear hr
      go_wp2_with fail
      go_ret
      exact ⟨rfl, by rw [HF.out]; exact hblk, hbel⟩
    | succ k =>
      have hkn : k < n := by omega
      have e0 : ((k + 1 : Nat) : Int) - 1 = (k : Int) := by omega
      rw [e0]
      have hszr := hbel.size
      obtain ⟨b, off, ⟨g0, g1, g2⟩, rfl, hx, hc0, hc1, hc2⟩ := HROW.out.gate (by rw [HN.out]; exact hkn)
      have hbb : b < w.heap.size := by obtain ⟨b', off', e', hlt', _⟩ := HROW.out (by rw [gcells_length]; have := HN.out; omega); injection e' with e'; injection e' with e1 e2; omega
      replace hc0 := (hbel.cell (p := ⟨b, off + k * 3, none⟩) hbb).trans hc0
      replace hc1 := (hbel.cell (p := ⟨b, off + k * 3 + 1, none⟩) hbb).trans hc1
      replace hc2 := (hbel.cell (p := ⟨b, off + k * 3 + 2, none⟩) hbb).trans hc2
      have hga : gateAt gs k = (g0, g1, g2) := by unfold gateAt; rw [List.getD_eq_getElem?_getD, get_of_drop hx]; rfl
      have hgi := HG.out k _ (get_of_drop hx)
      have HIN := hide (inputs_in hgi)
      have HI := fun W => hide (s_l6Inputs (g0, g1, g2) W hgi)
      unfold gv at HI
      have hst : needL gs = needDown gs k (if bs.getD k false = true then mkB bs (inputsG (g0, g1, g2)) else bs) := by rw [hr.out, needDown, needStep, hga]
      have HST := hide hst
      clear hx hr hgi hga hst
      have c9 : (0 : Int) ≤ (k : Int) := by omega
      have c8 : (k : Int) < (n : Int) := by omega
      go_wp2_with fail
      refine (HI _).out.mono ?_
      rintro e w2 ⟨v2, rfl, hins, hb2, hob⟩
      obtain ⟨ins, hinse⟩ : ∃ ins, inputsG (g0, g1, g2) = ins := ⟨_, rfl⟩
      rw [hinse] at hins HST HIN
      have hblk2 := hblk.below hb2 hblk.lt
      have hbel2 := hbel.trans (hb2.mono hszr)
      have hwlt : w.heap.size < wo.heap.size := hblk.lt
      obtain ⟨A3, c3, rfl, hc3, hm3, hrow3⟩ := id hins
      unfold maxLen at hm3
      have HOB := hide hob
      have HROW3 := hide hrow3
      have kw : IntKind.i64.wrap ((k : Int) - 1) = (k : Int) - 1 := by rw [IntKind.wrap_i64]; omega
      have HBL := hide hbl
      clear hob hinse hins hbel hb2 hrow3 hblk
      cases hb : bs.getD k false with
      | false =>
        rw [hb] at HST
        have z0 : w2.cell? ⟨w.heap.size, k, none⟩ = some (.bool false) := by rw [hblk2.cell, bc_get (by rw [HBL.out]; exact hkn), hb]
        have HF := hide (show needL gs = needDown gs k bs from HST.out)
        clear hbl
        by_cases h0 : 0 < ins.length
        · have d0 : (0 : Int) < (ins.length : Int) := by omega
          go_wp2_with fail
          refine wp_loop_rounds 1 ?_
          rw [rounds_succ]
          go_wp2_with fail
          go_roundw
          case rel => exact ⟨k, bs, by omega, rfl, HBL.out, HF.out, hblk2, hbel2⟩
          case measure => (simp [intOf] <;> omega)
        · have d0 : ¬ ((0 : Int) < (ins.length : Int)) := by omega
          go_wp2_with fail
          refine wp_loop_rounds 1 ?_
          rw [rounds_succ]
          go_wp2_with fail
          go_roundw
          case rel => exact ⟨k, bs, by omega, rfl, HBL.out, HF.out, hblk2, hbel2⟩
          case measure => (simp [intOf] <;> omega)
      | true =>
        rw [hb, if_pos rfl] at HST
        have hkb : bs[k]? = some true := by
          rw [List.getD_eq_getElem?_getD, List.getElem?_eq_getElem (by omega)] at hb
          rw [List.getElem?_eq_getElem (by omega)]
          exact congrArg some hb
        have HKB := hide hkb
        have HB2 := hide hblk2
        have HE2 := hide hbel2
        clear hbl hkb hblk2 hbel2 hb
        go_wp2_with fail
        go_loopw [6] (fun i wr => ∃ (j : Nat) (cs : List Bool), j ≤ ins.length ∧ i = .int .i64 j ∧ Hid (cs.length = n) ∧ Hid (cs[k]? = some true) ∧ Hid (mkB bs ins = mkB cs (ins.drop j)) ∧ Hid (Blk wr w.heap.size 4 (bc cs).toArray) ∧ Hid (Below w.heap.size w wr) ∧ Hid (∀ p u, w.heap.size < p.block → w2.cell? p = some u → wr.cell? p = some u)) (fun i _ => ins.length - (intOf i).toNat)
        case atStart => exact ⟨0, bs, Nat.zero_le _, rfl, HBL.out, HKB.out, hide rfl, HB2.out, HE2.out, fun p u _ h => h⟩
        case round =>
          obtain ⟨j, cs, hj, rfl, hcl, hck, hmk2, hbk, hbe, hkp⟩ := hrel
          by_cases hjl : j < ins.length
          · obtain ⟨b3, off3, x, rfl, hxj, hcx⟩ := HROW3.out.int hjl
            have hb3 := HOB.out b3 rfl
            replace hcx := hkp.out _ _ (by show w.heap.size < b3; omega) hcx
            have hxi := HIN.out x (List.mem_of_getElem? (get_of_drop hxj))
            obtain ⟨m, rfl⟩ : ∃ m : Nat, x = (m : Int) := ⟨x.toNat, by omega⟩
            have hmk' : m < k := by omega
            have hbkk := hbk.out
            have zk : wr.cell? ⟨w.heap.size, k, none⟩ = some (.bool true) := by
              rw [hbkk.cell, bc_get (by rw [hcl.out]; exact hkn), List.getD_eq_getElem?_getD, hck.out]; rfl
            have zm : wr.cell? ⟨w.heap.size, m, none⟩ = some (.bool (cs.getD m false)) := by rw [hbkk.cell, bc_get (by rw [hcl.out]; omega)]
            have zf := hbkk.frozen m
            have hnew := hbkk.set_ m (.bool true)
            rw [bc_setM] at hnew
            have HNW := hide hnew
            have HFF := hide (show mkB bs ins = mkB (cs.set m true) (ins.drop (j + 1)) by rw [hmk2.out, hxj, mkB]; rfl)
            have HC1 := hide (show (cs.set m true).length = n by rw [List.length_set, hcl.out])
            have HC2 := hide (show (cs.set m true)[k]? = some true by rw [List.getElem?_set_ne (by omega), hck.out])
            have HE := hide (hbe.out.setCell (p := ⟨w.heap.size, m, none⟩) (Nat.le_refl _) (.bool true))
            have HKP := hide (show ∀ p u, w.heap.size < p.block → w2.cell? p = some u → (wr.setCell ⟨w.heap.size, m, none⟩ (.bool true)).cell? p = some u from fun p u hp h => by
              rw [World.cell?_setCell_other _ _ _ _ (fun e => by rw [← e] at hp; exact Nat.lt_irrefl _ hp)]
              exact hkp.out p u hp h)
            have m0 : (0 : Int) ≤ (m : Int) := by omega
            have m1 : (m : Int) < (n : Int) := by omega
            have m2 : (j : Int) < (ins.length : Int) := by omega
            clear hxj hxi hmk2 hbkk hnew hbk hbe hkp hcl hck
            go_wp2_with fail
            go_roundw
            case rel => exact ⟨j + 1, _, by omega, by go_num, HC1.out, HC2.out, HFF.out, HNW.out, HE.out, HKP.out⟩
            case measure => (simp [intOf] <;> omega)
          · obtain rfl : j = ins.length := by omega
            have HF := hide (show needL gs = needDown gs k cs by rw [HST.out, hmk2.out, List.drop_length]; rfl)
            clear hmk2
            go_wp2_with fail
            go_roundw
            case rel => exact ⟨k, cs, by omega, rfl, hcl.out, HF.out, hbk.out, hbe.out⟩
            case measure => (simp [intOf] <;> omega)

set_option maxRecDepth 100000 in
set_option maxHeartbeats 3200000 in
theorem S_IsMonotoneCircuit {hi : Nat} (vars : Int) (v : Value) (gs : List GateL) (r0 r1 : Bool) (w : World) (h : Gates hi w v gs) (hn0 : szG gs ≤ 1048576) (hR : fIsMonotoneCircuit vars gs = (r0, r1)) :
    Calls Try.prog 33 #[.int .i64 vars, v] w fun e w' => e = .returned (.tuple #[.bool r0, .bool r1]) ∧ Below w.heap.size w w' := by
  cases hg : circB vars gs with
  | false =>
    obtain ⟨rfl, rfl⟩ : r0 = false ∧ r1 = false := by simpa [fIsMonotoneCircuit, hg, eq_comm] using hR
    clear hR
    go_enter Try.func33, Try.ntmps33
    go_wp2_with fail
    refine (s_l6Good vars v gs w h hn0).mono ?_
    rw [hg]
    rintro e w1 ⟨rfl, hb1⟩
    go_wp2_with fail
    go_ret2
    exact ⟨rfl, hb1⟩
  | true =>
    obtain ⟨hr0, rfl⟩ : r0 = !hasNot gs (needL gs) 0 ∧ r1 = true := by
      simp only [fIsMonotoneCircuit, hg, if_true] at hR
      injection hR with h1 h2
      exact ⟨h1.symm, h2.symm⟩
    have HR := hide hr0
    have HNE := fun W hW => hide (s_l6Needed vars v gs W (h.below hW) hg)
    obtain ⟨_, hl1, hl2, hgs⟩ := circ_parts hg
    have HT := hide h.top
    obtain ⟨n, hnn⟩ : ∃ n, gs.length = n := ⟨_, rfl⟩
    have HN := hide hnn
    have HNL := hide (needL_len gs)
    rw [hnn] at hl1 hl2
    clear hR hr0 hgs
    go_enter Try.func33, Try.ntmps33
    go_wp2_with fail
    refine (s_l6Good vars v gs w h hn0).mono ?_
    rw [hg]
    rintro e w1 ⟨rfl, hb1⟩
    have HNE1 := HNE w1 hb1
    rw [hnn] at HNE1
    clear hnn HNE h
    go_wp2_with fail
    refine HNE1.out.mono ?_
    rintro e w2 ⟨rfl, hblk, hb2⟩
    have hb02 := hb1.trans (hb2.mono hb1.size)
    have hT2 := HT.out.below hb02
    obtain ⟨A, c, rfl, hc, hm, hrow⟩ := hT2
    unfold maxLen at hm
    rw [HN.out] at hc ⊢
    have HB2 := hide hb02
    have HROW := hide hrow
    have HBLK := hide hblk
    clear hb1 hb2 hb02 hrow hblk HNE1 HT
    go_wp2_with fail
    go_loopw [7] (fun i wr => ∃ k : Nat, k ≤ n ∧ i = .int .i64 k ∧ Hid (hasNot gs (needL gs) 0 = hasNot gs (needL gs) k) ∧ wr = w2) (fun i _ => n - (intOf i).toNat)
    case atStart => exact ⟨0, Nat.zero_le _, rfl, rfl, by first | rfl | trivial⟩
    case round =>
      obtain ⟨k, hk, rfl, hr, rfl⟩ := hrel
      by_cases hlt : k < n
      · obtain ⟨b, off, ⟨g0, g1, g2⟩, rfl, hx, hc0, -, -⟩ := HROW.out.gate (by rw [HN.out]; exact hlt)
        have hga : gateAt gs k = (g0, g1, g2) := by unfold gateAt; rw [List.getD_eq_getElem?_getD, get_of_drop hx]; rfl
        have hst := hasNot_step gs (needL gs) k (by rw [HN.out]; exact hlt)
        rw [hga] at hst
        have zk := HBLK.out.cell k
        rw [bc_get (by rw [HNL.out, HN.out]; exact hlt)] at zk
        cases hb : (needL gs).getD k false with
        | false =>
          rw [hb] at hst zk
          have HF := hide (show hasNot gs (needL gs) 0 = hasNot gs (needL gs) (k + 1) by rw [hr.out, hst]; rfl)
          clear hx hga hst hr
          go_wp2_with fail
          go_roundw
          case rel => exact ⟨k + 1, by omega, by go_num, HF.out, by first | rfl | trivial⟩
          case measure => (simp [intOf] <;> omega)
        | true =>
          rw [hb] at hst zk
          cases hk4 : (g0 == 4) with
          | false =>
            have HF := hide (show hasNot gs (needL gs) 0 = hasNot gs (needL gs) (k + 1) by rw [hr.out, hst]; simp [hk4])
            clear hx hga hst hr
            go_wp2_with fail
            go_roundw
            case rel => exact ⟨k + 1, by omega, by go_num, HF.out, by first | rfl | trivial⟩
            case measure => (simp [intOf] <;> omega)
          | true =>
            have HF := hide (show r0 = false by rw [HR.out, hr.out, hst]; simp [hk4])
            clear hx hga hst hr
            go_wp2_with fail
            go_ret2
            exact ⟨by rw [HF.out]; rfl, HB2.out⟩
      · obtain rfl : k = n := by omega
        have HF := hide (show r0 = true by
          have := hasNot_end gs (needL gs)
          rw [HN.out] at this
          rw [HR.out, hr.out, this]; rfl)
        clear hr
        go_wp2_with fail
        go_ret2
        exact ⟨by rw [HF.out]; rfl, HB2.out⟩

end Go.Proofs.Ytfipchccnbbapaa
