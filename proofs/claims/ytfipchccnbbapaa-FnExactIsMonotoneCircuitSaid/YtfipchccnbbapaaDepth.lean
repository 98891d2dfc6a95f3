/- The walks: the depth of a circuit. -/
import Derived.Test.YtfipchccnbbapaaVals
import Derived.Deep.RegionHeld3
namespace Go.Proofs.Ytfipchccnbbapaa
open Go.RowKit
set_option linter.unusedVariables false

def inputsG (g : GateL) : List Int := if g.1 = 4 then [g.2.1] else if g.1 = 5 ∨ g.1 = 6 then [g.2.1, g.2.2] else []
def mostI (a b : Int) : Int := if a < b then b else a
def depK (acc : List Int) : Int → List Int → Int
  | d, [] => d
  | d, k :: r => depK acc (mostI d (acc.getD k.toNat 0 + 1)) r
theorem depK_snoc (acc : List Int) : ∀ (ks : List Int) (d k : Int), depK acc d (ks ++ [k]) = mostI (depK acc d ks) (acc.getD k.toNat 0 + 1)
  | [], d, k => rfl
  | x :: r, d, k => depK_snoc acc r _ k
def depthsL : List Int → List GateL → List Int
  | acc, [] => acc
  | acc, g :: r => depthsL (acc ++ [depK acc 0 (inputsG g)]) r
theorem depthsL_length : ∀ (gs : List GateL) (acc : List Int), (depthsL acc gs).length = acc.length + gs.length
  | [], acc => rfl
  | g :: r, acc => by rw [depthsL, depthsL_length r]; simp; omega
theorem depK_bound {acc : List Int} {k : Nat} (ha : ∀ x ∈ acc, 0 ≤ x ∧ x ≤ (k : Int)) : ∀ (ks : List Int) (d : Int), 0 ≤ d ∧ d ≤ (k : Int) + 1 → 0 ≤ depK acc d ks ∧ depK acc d ks ≤ (k : Int) + 1
  | [], d, h => h
  | x :: r, d, h => by
    refine depK_bound ha r _ ?_
    have hx : 0 ≤ acc.getD x.toNat 0 ∧ acc.getD x.toNat 0 ≤ (k : Int) := by
      rw [List.getD_eq_getElem?_getD]
      cases he : acc[x.toNat]? with
      | none => simp
      | some y => simpa using ha y (List.mem_of_getElem? he)
    unfold mostI
    split <;> omega
theorem inputs_in {vars : Int} {i : Nat} {g : GateL} (h : GateIs vars i g) : ∀ x ∈ inputsG g, 0 ≤ x ∧ x < (i : Int) := by
  cases h with
  | var m h => simp [inputsG]
  | yes => simp [inputsG]
  | no => simp [inputsG]
  | not m h => simp [inputsG]; omega
  | and m n h h2 => simp [inputsG]; omega
  | or m n h h2 => simp [inputsG]; omega

theorem Ints.of1 (w : World) (x : Int) : Ints (w.heap.size + 1) (w.alloc (.cells #[.int .i64 x] 3)) (.slice (some ⟨w.heap.size, 0, none⟩) 1 1) [x] := by
  refine ⟨_, 1, rfl, Nat.le_refl _, by simp [maxLen], fun _ => ⟨w.heap.size, 0, rfl, by omega, fun j u hu => ?_⟩⟩
  match j, hu with
  | 0, hu => simp at hu; subst hu; simp
theorem Ints.of2 (w : World) (x y : Int) : Ints (w.heap.size + 1) (w.alloc (.cells #[.int .i64 x, .int .i64 y] 3)) (.slice (some ⟨w.heap.size, 0, none⟩) 2 2) [x, y] := by
  refine ⟨_, 2, rfl, Nat.le_refl _, by simp [maxLen], fun _ => ⟨w.heap.size, 0, rfl, by omega, fun j u hu => ?_⟩⟩
  match j, hu with
  | 0, hu => simp at hu; subst hu; simp
  | 1, hu => simp at hu; subst hu; simp
theorem Ints.of0 (w : World) (hi : Nat) (A : Option Addr) : Ints hi w (.slice A 0 0) [] := ⟨A, 0, rfl, Nat.le_refl _, by simp [maxLen], Row.nil _ _ _⟩

theorem i_inputs {vars : Int} {i : Nat} (g : GateL) (w : World) (h : GateIs vars i g) :
    Calls Try.prog 43 #[gv g] w fun e w' => ∃ v', e = .returned v' ∧ Ints w'.heap.size w' v' (inputsG g) ∧ Below w.heap.size w w' ∧ (∀ b, v'.ownBlock = some b → w.heap.size ≤ b) := by
  have hal : ∀ o, Below w.heap.size w (w.alloc o) := fun o => (Below.refl _ _).alloc (Nat.le_refl _) o
  have hal2 : ∀ o o2, Below w.heap.size w ((w.alloc o).alloc o2) := fun o o2 => ((Below.refl _ _).alloc (Nat.le_refl _) o).alloc (by simp) o2
  unfold gv
  cases h with
  | var m h =>
    dsimp only
    go_enter Try.func43, Try.ntmps43
    go_wp2
    go_ret
    exact ⟨_, rfl, Ints.of0 _ _ _, hal _, by simp [Value.ownBlock]⟩
  | yes =>
    dsimp only
    go_enter Try.func43, Try.ntmps43
    go_wp2
    go_ret
    exact ⟨_, rfl, Ints.of0 _ _ _, hal _, by simp [Value.ownBlock]⟩
  | no =>
    dsimp only
    go_enter Try.func43, Try.ntmps43
    go_wp2
    go_ret
    exact ⟨_, rfl, Ints.of0 _ _ _, hal _, by simp [Value.ownBlock]⟩
  | not m h =>
    dsimp only
    go_enter Try.func43, Try.ntmps43
    go_wp2
    go_ret
    exact ⟨_, rfl, by simpa [inputsG] using (Ints.of1 (w.alloc (.cells #[.int .i64 4, .int .i64 (m : Int), .int .i64 0] 44)) (m : Int)), hal2 _ _, fun b hb => by injection hb with hb; rw [← hb]; exact Nat.le_succ _⟩
  | and m n h h2 =>
    dsimp only
    go_enter Try.func43, Try.ntmps43
    go_wp2
    go_ret
    exact ⟨_, rfl, by simpa [inputsG] using (Ints.of2 (w.alloc (.cells #[.int .i64 5, .int .i64 (m : Int), .int .i64 (n : Int)] 44)) (m : Int) (n : Int)), hal2 _ _, fun b hb => by injection hb with hb; rw [← hb]; exact Nat.le_succ _⟩
  | or m n h h2 =>
    dsimp only
    go_enter Try.func43, Try.ntmps43
    go_wp2
    go_ret
    exact ⟨_, rfl, by simpa [inputsG] using (Ints.of2 (w.alloc (.cells #[.int .i64 6, .int .i64 (m : Int), .int .i64 (n : Int)] 44)) (m : Int) (n : Int)), hal2 _ _, fun b hb => by injection hb with hb; rw [← hb]; exact Nat.le_succ _⟩

theorem s_l6Inputs {vars : Int} {i : Nat} (g : GateL) (w : World) (h : GateIs vars i g) :
    Calls Try.prog 41 #[gv g] w fun e w' => ∃ v', e = .returned v' ∧ Ints w'.heap.size w' v' (inputsG g) ∧ Below w.heap.size w w' ∧ (∀ b, v'.ownBlock = some b → w.heap.size ≤ b) := by
  have hal : ∀ o, Below w.heap.size w (w.alloc o) := fun o => (Below.refl _ _).alloc (Nat.le_refl _) o
  have hal2 : ∀ o o2, Below w.heap.size w ((w.alloc o).alloc o2) := fun o o2 => ((Below.refl _ _).alloc (Nat.le_refl _) o).alloc (by simp) o2
  unfold gv
  cases h with
  | var m h =>
    dsimp only
    go_enter Try.func41, Try.ntmps41
    go_wp2
    go_ret
    exact ⟨_, rfl, Ints.of0 _ _ _, hal2 _ _, fun b hb => by injection hb with hb; rw [← hb]; exact Nat.le_succ _⟩
  | yes =>
    dsimp only
    go_enter Try.func41, Try.ntmps41
    go_wp2
    go_ret
    exact ⟨_, rfl, Ints.of0 _ _ _, hal2 _ _, fun b hb => by injection hb with hb; rw [← hb]; exact Nat.le_succ _⟩
  | no =>
    dsimp only
    go_enter Try.func41, Try.ntmps41
    go_wp2
    go_ret
    exact ⟨_, rfl, Ints.of0 _ _ _, hal2 _ _, fun b hb => by injection hb with hb; rw [← hb]; exact Nat.le_succ _⟩
  | not m h =>
    dsimp only
    go_enter Try.func41, Try.ntmps41
    go_wp2
    go_ret
    exact ⟨_, rfl, by simpa [inputsG] using (Ints.of1 (w.alloc (.cells #[.int .i64 4, .int .i64 (m : Int), .int .i64 0] 44)) (m : Int)), hal2 _ _, fun b hb => by injection hb with hb; rw [← hb]; exact Nat.le_succ _⟩
  | and m n h h2 =>
    dsimp only
    go_enter Try.func41, Try.ntmps41
    go_wp2
    go_ret
    exact ⟨_, rfl, by simpa [inputsG] using (Ints.of2 (w.alloc (.cells #[.int .i64 5, .int .i64 (m : Int), .int .i64 (n : Int)] 44)) (m : Int) (n : Int)), hal2 _ _, fun b hb => by injection hb with hb; rw [← hb]; exact Nat.le_succ _⟩
  | or m n h h2 =>
    dsimp only
    go_enter Try.func41, Try.ntmps41
    go_wp2
    go_ret
    exact ⟨_, rfl, by simpa [inputsG] using (Ints.of2 (w.alloc (.cells #[.int .i64 6, .int .i64 (m : Int), .int .i64 (n : Int)] 44)) (m : Int) (n : Int)), hal2 _ _, fun b hb => by injection hb with hb; rw [← hb]; exact Nat.le_succ _⟩

theorem s_l1Most (a b : Int) (w : World) : Calls Try.prog 42 #[.int .i64 a, .int .i64 b] w fun e w' => e = .returned (.int .i64 (mostI a b)) ∧ w = w' := by
  by_cases h : b < a
  · have HM := hide (show mostI a b = a by unfold mostI; rw [if_neg (by omega)])
    go_enter Try.func42, Try.ntmps42
    go_wp2_with fail
    go_ret
    exact ⟨by rw [HM.out]; rfl, rfl⟩
  · have HM := hide (show mostI a b = b by unfold mostI; split <;> omega)
    have hd : ¬ (b < a) := h
    go_enter Try.func42, Try.ntmps42
    go_wp2_with fail
    go_ret
    exact ⟨by rw [HM.out]; rfl, rfl⟩

def fCircuitDepth (vars : Int) (gs : List GateL) : Int × Bool := if circB vars gs then ((depthsL [] gs).getD (gs.length - 1) 0, true) else (0, false)

theorem run_make_ints (n : Nat) (hn : n ≤ 1048576) (W : World) : (Instr.makeSlice 51 (.int .i64 n) (.int .i64 n)).run Try.prog W = .ok (.slice (some ⟨W.heap.size, 0, none⟩) n n) (W.alloc (.cells (ic (List.replicate n 0)).toArray 3)) := by
  have := run_make_row' (P := Try.prog) 51 3 (.int .i64 0) 8 Try.underlying51 int_info rfl .i64 .i64 n (by omega) (by omega) W
  rw [this, madeCells_one]
  simp [ic]
theorem ic_get {acc rest : List Int} {k j : Nat} (hk : acc.length = k) (hj : j < k) : (ic (acc ++ rest)).toArray[j]? = some (.int .i64 (acc.getD j 0)) := by
  have h : acc[j]? = some (acc.getD j 0) := by rw [List.getElem?_eq_getElem (by omega)]; simp [List.getD_eq_getElem?_getD, List.getElem?_eq_getElem (show j < acc.length by omega)]
  simp only [List.getElem?_toArray, ic, List.getElem?_map]
  rw [List.getElem?_append_left (by omega), h]; rfl
theorem ic_mid {acc rest : List Int} {k : Nat} {d : Int} (hk : acc.length = k) : (ic (acc ++ d :: rest)).toArray[k]? = some (.int .i64 d) := by
  simp only [List.getElem?_toArray, ic, List.getElem?_map]
  rw [List.getElem?_append_right (by omega), hk]; simp
theorem ic_put {acc rest : List Int} {k : Nat} {d e : Int} (hk : acc.length = k) : (ic (acc ++ d :: rest)).toArray.setIfInBounds k (.int .i64 e) = (ic (acc ++ e :: rest)).toArray := by
  apply Array.ext'
  simp only [Array.toList_setIfInBounds, ic, List.map_append, List.map_cons]
  rw [List.set_append_right _ _ (by simp [hk])]
  simp [hk]

set_option maxHeartbeats 1600000 in
theorem I_CircuitDepth {hi : Nat} (vars : Int) (v : Value) (gs : List GateL) (r0 : Int) (r1 : Bool) (w : World) (h : Gates hi w v gs) (hn0 : szG gs ≤ 1048576) (hR : fCircuitDepth vars gs = (r0, r1)) :
    Calls Try.prog 18 #[.int .i64 vars, v] w fun e w' => e = .returned (.tuple #[.int .i64 r0, .bool r1]) ∧ Below w.heap.size w w' := by
  cases hg : circB vars gs with
  | false =>
    obtain ⟨rfl, rfl⟩ : r0 = 0 ∧ r1 = false := by simpa [fCircuitDepth, hg, eq_comm] using hR
    clear hR
    go_enter Try.func18, Try.ntmps18
    go_wp2_with fail
    refine (i_IsCircuit vars v gs w h hn0).mono ?_
    rw [hg]
    rintro e w1 ⟨rfl, hb1⟩
    go_wp2_with fail
    go_ret2
    exact ⟨rfl, hb1⟩
  | true =>
    obtain ⟨hr0, rfl⟩ : r0 = (depthsL [] gs).getD (gs.length - 1) 0 ∧ r1 = true := by
      simp only [fCircuitDepth, hg, if_true] at hR
      injection hR with h1 h2
      exact ⟨h1.symm, h2.symm⟩
    have HR := hide hr0
    obtain ⟨_, hl1, hl2, hgs⟩ := circ_parts hg
    have HG := hide hgs
    have hmk := fun W => run_make_ints gs.length (by omega) W
    clear hR hr0 hgs
    go_enter Try.func18, Try.ntmps18
    go_wp2_with fail
    refine (i_IsCircuit vars v gs w h hn0).mono ?_
    rw [hg]
    rintro e w1 ⟨rfl, hb1⟩
    obtain ⟨A, c, rfl, hc, hm, hrow⟩ := h.top.below hb1
    unfold maxLen at hm
    clear h
    go_wp2_with fail
    clear hmk
    obtain ⟨B, hB⟩ : ∃ B, B = w1.heap.size := ⟨_, rfl⟩
    have hBw : w.heap.size ≤ B := by rw [hB]; exact hb1.size
    have HBB := hide hB
    rw [← hB]
    go_loopw [20] (fun i wr => ∃ (k : Nat) (acc : List Int), k ≤ gs.length ∧ i = .int .i64 k ∧ acc.length = k ∧ Hid (depthsL [] gs = depthsL acc (gs.drop k)) ∧ Hid (∀ x ∈ acc, 0 ≤ x ∧ x ≤ (k : Int)) ∧ Blk wr B 3 (ic (acc ++ List.replicate (gs.length - k) 0)).toArray ∧ Below B w1 wr ∧ B < wr.heap.size) (fun i _ => gs.length - (intOf i).toNat)
    case atStart => exact ⟨0, [], Nat.zero_le _, rfl, rfl, rfl, by intro x hx; simp at hx, by rw [hB]; simpa using Blk.new w1 3 (ic (List.replicate gs.length 0)).toArray, (Below.refl _ _).alloc (by rw [hB]; exact Nat.le_refl _) _, by rw [hB]; simp⟩
    case round =>
      obtain ⟨k, acc, hk, rfl, hak, hr, hbd, hblk, hbel, hsz⟩ := hrel
      clear hB
      by_cases hlt : k < gs.length
      · obtain ⟨b, off, ⟨g0, g1, g2⟩, rfl, hx, hc0, hc1, hc2⟩ := hrow.gate hlt
        have hbb : b < w.heap.size := by obtain ⟨b', off', e', hlt', _⟩ := hrow (by rw [gcells_length]; omega); injection e' with e'; injection e' with e1 e2; omega
        replace hc0 := (hbel.cell (p := ⟨b, off + k * 3, none⟩) (by simp; omega)).trans hc0
        replace hc1 := (hbel.cell (p := ⟨b, off + k * 3 + 1, none⟩) (by simp; omega)).trans hc1
        replace hc2 := (hbel.cell (p := ⟨b, off + k * 3 + 2, none⟩) (by simp; omega)).trans hc2
        have hgi := HG.out k _ (get_of_drop hx)
        have HIN := hide (inputs_in hgi)
        have HI := fun W => hide (i_inputs (g0, g1, g2) W hgi)
        unfold gv at HI
        have HF : Hid (depthsL [] gs = depthsL (acc ++ [depK acc 0 (inputsG (g0, g1, g2))]) (gs.drop (k + 1))) := by show _ = _; rw [hr.out, hx]; rfl
        have HBLK := hide hblk
        have HBEL := hide hbel
        have hal : ∀ o, Below wr.heap.size wr (wr.alloc o) := fun o => (Below.refl _ _).alloc (Nat.le_refl _) o
        clear hx hr hgi hblk hbel
        go_wp2_with fail
        refine (HI _).out.mono ?_
        rintro e w2 ⟨v2, rfl, hins, hb2, hob⟩
        obtain ⟨ins, hinse⟩ : ∃ ins, inputsG (g0, g1, g2) = ins := ⟨_, rfl⟩
        rw [hinse] at hins HF HIN
        have hb2' : Below wr.heap.size wr w2 := (hal _).trans (hb2.mono (by simp))
        have HBL2 : Hid (Blk w2 B 3 (ic (acc ++ (0 : Int) :: List.replicate (gs.length - (k + 1)) 0)).toArray) := by
          have := HBLK.out.below hb2' hsz
          rw [show gs.length - k = (gs.length - (k + 1)) + 1 from by omega, List.replicate_succ] at this
          exact this
        have hsz2 : B < w2.heap.size := Nat.lt_of_lt_of_le hsz hb2'.size
        have HB2 := hide hb2'
        have HHAL := hide hal
        have HOB := hide (show v2.ownBlock ≠ some B from fun e => by have := hob B e; simp at this; omega)
        obtain ⟨A3, c3, rfl, hc3, hm3, hrow3⟩ := id hins
        have HINS := hide hins
        unfold maxLen at hm3
        clear hal hb2' hb2 hob hinse hins
        go_wp2_with fail
        go_loopw [28] (fun i ws => ∃ j : Nat, j ≤ ins.length ∧ i = .int .i64 j ∧ Blk ws B 3 (ic (acc ++ depK acc 0 (ins.take j) :: List.replicate (gs.length - (k + 1)) 0)).toArray ∧ w2.grownBy ws (some B)) (fun i _ => ins.length - (intOf i).toNat)
        case atStart => exact ⟨0, Nat.zero_le _, rfl, by simpa [depK] using HBL2.out, grown_refl _ _⟩
        case round =>
          obtain ⟨j, hj, rfl, hbs, hgr⟩ := hrel
          by_cases hjl : j < ins.length
          · obtain ⟨A4, c4, e4, _, _, hrow4⟩ := (HINS.out.grown hgr (.inr HOB.out))
            injection e4 with e4 _ e5
            subst e4 e5
            obtain ⟨b3, off3, x, rfl, hxj, hcx⟩ := hrow4.int hjl
            have hxi := HIN.out x (List.mem_of_getElem? (get_of_drop hxj))
            obtain ⟨m, rfl⟩ : ∃ m : Nat, x = (m : Int) := ⟨x.toNat, by omega⟩
            have hmk : m < k := by omega
            have s0 := (hbs.cell k).trans (ic_mid hak)
            have f0 := hbs.frozen k
            have l0 := (hbs.cell m).trans (ic_get (rest := depK acc 0 (ins.take j) :: List.replicate (gs.length - (k + 1)) 0) hak hmk)
            have hdb := depK_bound hbd.out (ins.take j) 0 (by omega)
            have hsn : depK acc 0 (ins.take (j + 1)) = mostI (depK acc 0 (ins.take j)) (acc.getD m 0 + 1) := by rw [take_snoc hxj, depK_snoc]; simp
            obtain ⟨d, hd⟩ : ∃ d, depK acc 0 (ins.take j) = d := ⟨_, rfl⟩
            obtain ⟨y, hy⟩ : ∃ y, acc.getD m 0 = y := ⟨_, rfl⟩
            have hyb : 0 ≤ y ∧ y ≤ (k : Int) := by
              rw [← hy, List.getD_eq_getElem?_getD, List.getElem?_eq_getElem (by omega)]
              exact hbd.out _ (List.getElem_mem _)
            rw [hd] at s0 hdb hsn
            rw [hy] at l0 hsn
            have hnew : Blk (wr.setCell ⟨B, k, none⟩ (.int .i64 (mostI d (y + 1)))) B 3 (ic (acc ++ depK acc 0 (ins.take (j + 1)) :: List.replicate (gs.length - (k + 1)) 0)).toArray := by
              have := hbs.set_ k (.int .i64 (mostI d (y + 1)))
              rw [ic_put hak] at this
              rwa [hsn]
            have HN := hide hnew
            have HGR := hide (grown_setCell hgr k (.int .i64 (mostI d (y + 1))))
            have hkm : ¬ (k = m) := by omega
            clear hbs hgr hnew hsn hd hy hxj hrow4 hxi
            by_cases hlt2 : d < 1 + y
            · have HM := hide (show mostI d (y + 1) = 1 + y by unfold mostI; rw [if_pos (by omega)]; omega)
              go_wp2_with fail
              go_region
              go_wp2_with fail
              go_roundw
              case rel =>
                exact ⟨j + 1, by omega, by go_num, by rw [← HM.out]; exact HN.out, by rw [← HM.out]; exact ⟨HGR.out.os, HGR.out.tape, HGR.out.output, HGR.out.size, HGR.out.block⟩⟩
              case measure => simp [intOf]; omega
            · have HM := hide (show mostI d (y + 1) = d by unfold mostI; rw [if_neg (by omega)])
              go_wp2_with fail
              go_region
              go_wp2_with fail
              go_roundw
              case rel =>
                exact ⟨j + 1, by omega, by go_num, by rw [← HM.out]; exact HN.out, by rw [← HM.out]; exact ⟨HGR.out.os, HGR.out.tape, HGR.out.output, HGR.out.size, HGR.out.block⟩⟩
              case measure => simp [intOf]; omega
          · obtain rfl : j = ins.length := by omega
            have HBS := hide hbs
            have HGR := hide hgr
            clear hbs hgr
            go_wp2_with fail
            go_roundw
            case rel =>
              have hbs := HBS.out
              have hgr := HGR.out
              rw [List.take_length] at hbs
              refine ⟨k + 1, acc ++ [depK acc 0 ins], by omega, by go_num, by simp [hak], HF.out, ?_, by simpa using hbs, ?_, Nat.lt_of_lt_of_le hsz2 hgr.size⟩
              · intro x hx
                rcases List.mem_append.1 hx with hx | hx
                · have := hbd.out x hx; omega
                · obtain rfl := List.mem_singleton.1 hx
                  have := depK_bound hbd.out ins 0 (by omega)
                  omega
              · have h2 := HBEL.out.trans (HB2.out.mono (Nat.le_of_lt hsz))
                exact ⟨hgr.os.trans h2.os, hgr.tape.trans h2.tape, hgr.output.trans h2.output, Nat.le_trans h2.size hgr.size, fun i hi => (hgr.block i (by omega) (by simp; omega)).trans (h2.block i hi)⟩
            case measure => simp [intOf]; omega
      · obtain rfl : k = gs.length := by omega
        obtain ⟨m, hm'⟩ : ∃ m, gs.length = m + 1 := ⟨gs.length - 1, by omega⟩
        have HFF := hide (show depthsL [] gs = acc by rw [hr.out, List.drop_length]; rfl)
        have l0 := (hblk.cell m).trans (ic_get (rest := List.replicate (gs.length - gs.length) 0) hak (by omega))
        have HRR := hide (show r0 = acc.getD m 0 by rw [HR.out, HFF.out, hm']; rfl)
        have hfin := hb1.trans (hbel.mono (by omega))
        rw [hm'] at hl2 ⊢
        clear hblk hrow hak hm' hl1 hr hbel
        go_wp2_with fail
        go_ret2
        exact ⟨by rw [HRR.out]; rfl, hfin⟩

theorem OwnI.made' (base : Nat) (w : World) (hb : base ≤ w.heap.size) : OwnI base (w.alloc (.cells #[] 3)) (.slice (some ⟨w.heap.size, 0, none⟩) 0 0) [] := World.ownsRow_made w #[] 0 hb (by simp [maxLen]) rfl

set_option maxHeartbeats 1600000 in
theorem S_CircuitDepth {hi : Nat} (vars : Int) (v : Value) (gs : List GateL) (r0 : Int) (r1 : Bool) (w : World) (h : Gates hi w v gs) (hn0 : szG gs ≤ 1048576) (hR : fCircuitDepth vars gs = (r0, r1)) :
    Calls Try.prog 17 #[.int .i64 vars, v] w fun e w' => e = .returned (.tuple #[.int .i64 r0, .bool r1]) ∧ Below w.heap.size w w' := by
  cases hg : circB vars gs with
  | false =>
    obtain ⟨rfl, rfl⟩ : r0 = 0 ∧ r1 = false := by simpa [fCircuitDepth, hg, eq_comm] using hR
    clear hR
    go_enter Try.func17, Try.ntmps17
    go_wp2_with fail
    refine (s_l6Good vars v gs w h hn0).mono ?_
    rw [hg]
    rintro e w1 ⟨rfl, hb1⟩
    go_wp2_with fail
    go_ret2
    exact ⟨rfl, hb1⟩
  | true =>
    obtain ⟨hr0, rfl⟩ : r0 = (depthsL [] gs).getD (gs.length - 1) 0 ∧ r1 = true := by
      simp only [fCircuitDepth, hg, if_true] at hR
      injection hR with h1 h2
      exact ⟨h1.symm, h2.symm⟩
    have HR := hide hr0
    obtain ⟨_, hl1, hl2, hgs⟩ := circ_parts hg
    have HG := hide hgs
    clear hR hr0 hgs
    go_enter Try.func17, Try.ntmps17
    go_wp2_with fail
    refine (s_l6Good vars v gs w h hn0).mono ?_
    rw [hg]
    rintro e w1 ⟨rfl, hb1⟩
    obtain ⟨A, c, rfl, hc, hm, hrow⟩ := h.top.below hb1
    unfold maxLen at hm
    have HMADE := hide (OwnI.made' w.heap.size w1 hb1.size)
    clear h
    go_wp2_with fail
    go_loopw [6, 7] (fun q i wr => ∃ (k : Nat) (acc : List Int), k ≤ gs.length ∧ i = .int .i64 k ∧ acc.length = k ∧ Hid (depthsL [] gs = depthsL acc (gs.drop k)) ∧ Hid (∀ x ∈ acc, 0 ≤ x ∧ x ≤ (k : Int)) ∧ OwnI w.heap.size wr q acc ∧ Below w.heap.size w1 wr) (fun _ i _ => gs.length - (intOf i).toNat)
    case atStart => exact ⟨0, [], Nat.zero_le _, rfl, rfl, rfl, by intro x hx; simp at hx, HMADE.out, (Below.refl _ _).alloc hb1.size _⟩
    case round =>
      obtain ⟨k, acc, hk, rfl, hak, hr, hbd, hown, hbel⟩ := hrel
      obtain ⟨A1, c1, rfl, hc1', hm1, hrow1⟩ := id hown.fints
      rw [hak] at hc1' hown
      by_cases hlt : k < gs.length
      · obtain ⟨b, off, ⟨g0, g1, g2⟩, rfl, hx, hc0, hc1, hc2⟩ := hrow.gate hlt
        have hbb : b < w.heap.size := by obtain ⟨b', off', e', hlt', _⟩ := hrow (by rw [gcells_length]; omega); injection e' with e'; injection e' with e1 e2; omega
        replace hc0 := (hbel.cell (p := ⟨b, off + k * 3, none⟩) hbb).trans hc0
        replace hc1 := (hbel.cell (p := ⟨b, off + k * 3 + 1, none⟩) hbb).trans hc1
        replace hc2 := (hbel.cell (p := ⟨b, off + k * 3 + 2, none⟩) hbb).trans hc2
        have hgi := HG.out k _ (get_of_drop hx)
        have HIN := hide (inputs_in hgi)
        have HI := fun W => hide (s_l6Inputs (g0, g1, g2) W hgi)
        unfold gv at HI
        have HF : Hid (depthsL [] gs = depthsL (acc ++ [depK acc 0 (inputsG (g0, g1, g2))]) (gs.drop (k + 1))) := by show _ = _; rw [hr.out, hx]; rfl
        have hszr := Nat.le_trans hb1.size hbel.size
        unfold maxLen at hm1
        rw [hak]
        clear hx hr hgi
        go_wp2_with fail
        refine (HI _).out.mono ?_
        rintro e w2 ⟨v2, rfl, hins, hb2, hob⟩
        obtain ⟨ins, hinse⟩ : ∃ ins, inputsG (g0, g1, g2) = ins := ⟨_, rfl⟩
        rw [hinse] at hins HF HIN
        have HOWN := hide (hown.below hb2)
        have HROW1 := hide (hrow1.row.below hb2)
        have HBEL := hide (hbel.trans (hb2.mono hszr))
        have hsz2 := Nat.le_trans hszr hb2.size
        obtain ⟨A3, c3, rfl, hc3, hm3, hrow3⟩ := id hins
        unfold maxLen at hm3
        clear hob hinse hins hown hrow1 hbel hb2
        go_wp2_with fail
        go_loopw [8, 10] (fun q i ws => ∃ j : Nat, j ≤ ins.length ∧ i = .int .i64 j ∧ q = .int .i64 (depK acc 0 (ins.take j)) ∧ ws = w2) (fun _ i _ => ins.length - (intOf i).toNat)
        case atStart => exact ⟨0, Nat.zero_le _, rfl, rfl, rfl⟩
        case round =>
          obtain ⟨j, hj, rfl, rfl, rfl⟩ := hrel
          by_cases hjl : j < ins.length
          · obtain ⟨b3, off3, x, rfl, hxj, hcx⟩ := hrow3.int hjl
            have hxi := HIN.out x (List.mem_of_getElem? (get_of_drop hxj))
            obtain ⟨m, rfl⟩ : ∃ m : Nat, x = (m : Int) := ⟨x.toNat, by omega⟩
            have hmk : m < k := by omega
            obtain ⟨B1, off1, y, e1, hy1, l0⟩ := HROW1.out.int (k := m) (by omega)
            subst e1
            have hy : acc.getD m 0 = y := by rw [List.getD_eq_getElem?_getD, get_of_drop hy1]; rfl
            have hdb := depK_bound hbd.out (ins.take j) 0 (by omega)
            have hsn : depK acc 0 (ins.take (j + 1)) = mostI (depK acc 0 (ins.take j)) (acc.getD m 0 + 1) := by rw [take_snoc hxj, depK_snoc]; simp
            obtain ⟨d, hd⟩ : ∃ d, depK acc 0 (ins.take j) = d := ⟨_, rfl⟩
            have hyb : 0 ≤ y ∧ y ≤ (k : Int) := hbd.out y (List.mem_of_getElem? (get_of_drop hy1))
            rw [hd] at hdb hsn
            rw [hd]
            rw [hy] at hsn
            have HSN := hide hsn
            clear hsn hd hy hxj hy1 hxi
            go_wp2_with (go_at_call 42; refine (s_l1Most _ _ _).mono ?_; rintro e w3 ⟨rfl, rfl⟩)
            go_roundw
            case rel => exact ⟨j + 1, by omega, by go_num, by rw [HSN.out], by first | rfl | trivial⟩
            case measure => simp [intOf]; omega
          · obtain rfl : j = ins.length := by omega
            have hdb := depK_bound hbd.out ins 0 (by omega)
            rw [List.take_length]
            obtain ⟨d, hd⟩ : ∃ d, depK acc 0 ins = d := ⟨_, rfl⟩
            rw [hd] at hdb HF
            rw [hd]
            have HL := hide (show acc.length ≤ 1073741824 by omega)
            clear hd
            go_wp2_with (at_builtin; refine append_int rfl _ _ rfl w.heap.size rfl HOWN.out rfl HL.out hsz2 ?_; intro v4 w4 hown4 hb4)
            go_roundw
            case rel =>
              refine ⟨k + 1, acc ++ [d], by omega, by go_num, by simp [hak], HF.out, ?_, hown4, HBEL.out.trans hb4⟩
              intro x hx
              rcases List.mem_append.1 hx with hx | hx
              · have := hbd.out x hx; omega
              · obtain rfl := List.mem_singleton.1 hx
                omega
            case measure => simp [intOf]; omega
      · obtain rfl : k = gs.length := by omega
        obtain ⟨m, hm'⟩ : ∃ m, gs.length = m + 1 := ⟨gs.length - 1, by omega⟩
        have HFF := hide (show depthsL [] gs = acc by rw [hr.out, List.drop_length]; rfl)
        obtain ⟨B1, off1, y, e1, hy1, l0⟩ := hrow1.row.int (k := m) (by omega)
        subst e1
        have hy : acc.getD m 0 = y := by rw [List.getD_eq_getElem?_getD, get_of_drop hy1]; rfl
        have HRR := hide (show r0 = y by rw [HR.out, HFF.out, hm', ← hy]; rfl)
        have hfin := hb1.trans hbel
        unfold maxLen at hm1
        rw [hak]
        rw [hm'] at hl2 hc1' ⊢
        clear hrow hrow1 hak hm' hl1 hr hbel hown hy hy1
        go_wp2_with fail
        go_ret2
        exact ⟨by rw [HRR.out]; rfl, hfin⟩

end Go.Proofs.Ytfipchccnbbapaa
