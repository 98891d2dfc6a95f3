/- The walks of the program's digits and clauseText; the contracts of ClauseText. -/
import Derived.Test.YtmepficbmgjpoaaDoorTxt
import Derived.Shelf.Strings.OnBuilder
namespace Go.Proofs.YtmepficbmgjpoaaDoor
open Go.RowKit
set_option linter.unusedVariables false

theorem run_make_strs (n : Nat) (hn : n ≤ 1048576) (W : World) : (Instr.makeSlice 28 (.int .i64 n) (.int .i64 n)).run Tryd.prog W = .ok (.slice (some ⟨W.heap.size, 0, none⟩) n n) (W.alloc (.cells (sc (List.replicate n (ByteArray.mk #[]))).toArray 9)) := by
  have := run_make_row' (P := Tryd.prog) 28 9 (.string (ByteArray.mk #[])) 16 Tryd.underlying28 str_info rfl .i64 .i64 n (by omega) (by omega) W
  rw [this, madeCells_one]
  simp [sc]
/-- the words written so far, and room -/
def wordsL (c : List Int) (k : Nat) : List ByteArray := (c.take k).map (fun l => bs (Lib.itoa l)) ++ List.replicate (c.length - k) (ByteArray.mk #[])
theorem wordsL_len (c : List Int) (k : Nat) (h : k ≤ c.length) : (wordsL c k).length = c.length := by simp [wordsL]; omega
theorem wordsL_set (c : List Int) (k : Nat) (y : Int) (hk : k < c.length) (hy : c[k]? = some y) : (sc (wordsL c k)).set k (.string (bs (Lib.itoa y))) = sc (wordsL c (k + 1)) := by
  have hlen : ((c.take k).map (fun l => bs (Lib.itoa l))).length = k := by simp; omega
  have h1 : wordsL c k = (c.take k).map (fun l => bs (Lib.itoa l)) ++ ByteArray.mk #[] :: List.replicate (c.length - (k + 1)) (ByteArray.mk #[]) := by
    unfold wordsL
    rw [show c.length - k = (c.length - (k + 1)) + 1 by omega, List.replicate_succ]
  have h2 : wordsL c (k + 1) = (c.take k).map (fun l => bs (Lib.itoa l)) ++ bs (Lib.itoa y) :: List.replicate (c.length - (k + 1)) (ByteArray.mk #[]) := by
    unfold wordsL
    rw [List.take_add_one, hy]
    simp
  rw [h1, h2]
  unfold sc
  rw [List.map_append, List.map_append, List.set_append_right _ _ (by rw [List.length_map, hlen]; exact Nat.le_refl _), List.length_map, hlen, Nat.sub_self, List.map_cons, List.map_cons, List.set_cons_zero]

set_option maxHeartbeats 1600000 in
theorem i_digits {hi : Nat} (v : Value) (c : List Int) (w : World) (h : Ints hi w v c) (hs : ∀ l ∈ c, -12 ≤ l ∧ l ≤ 12) (hn : c.length ≤ 12) (h0 : 0 < c.length) (hP : Pow w) :
    Calls Tryd.prog 84 #[v, .string (ByteArray.mk #[32])] w fun e w' => e = .returned (.string (bs (textL c))) ∧ Below w.heap.size w w' := by
  obtain ⟨A, cp, rfl, hc, hm, hrow⟩ := h
  unfold maxLen at hm
  obtain ⟨n, hnn⟩ : ∃ n, c.length = n := ⟨_, rfl⟩
  obtain ⟨cs, hcs⟩ : ∃ cs, (sc (List.replicate n (ByteArray.mk #[]))).toArray = cs := ⟨_, rfl⟩
  have hmk := fun W => run_make_strs n (by omega) W
  rw [hcs] at hmk
  obtain ⟨wb, hwb⟩ : ∃ wb, wb = w.alloc (.cells cs 9) := ⟨_, rfl⟩
  have hal : Below w.heap.size w wb := by rw [hwb]; exact (Below.refl _ _).alloc (Nat.le_refl _) _
  have hblk : Blk wb w.heap.size 9 cs := by rw [hwb]; exact Blk.new _ _ _
  have hcel : Cel wb w.heap.size 0 (sc (wordsL c 0)) := by
    intro k u hk
    have hw0 : wordsL c 0 = List.replicate n (ByteArray.mk #[]) := by simp [wordsL, hnn]
    rw [hw0] at hk
    rw [Nat.zero_add]
    exact ⟨by rw [hblk.cell k, ← hcs, List.getElem?_toArray]; exact hk, hblk.frozen k⟩
  have HS := hide hs
  have HWB := hide hwb
  have HC := hide hcel
  have HAL := hide hal
  have HP0 := hide hP
  have HN := hide hnn
  rw [hnn] at hc hn h0 ⊢
  clear hs hwb hcel hal hblk hnn hP hcs
  go_enter Tryd.func84, Tryd.ntmps84
  go_wp2_with fail
  rw [← HWB.out]
  go_wp2_with fail
  go_loopw [13] (fun i wr => ∃ k : Nat, k ≤ n ∧ i = .int .i64 k ∧ Hid (Cel wr w.heap.size 0 (sc (wordsL c k))) ∧ Below w.heap.size w wr) (fun i _ => n - (intOf i).toNat)
  case atStart => exact ⟨0, Nat.zero_le _, rfl, HC.out, HAL.out⟩
  case round =>
    obtain ⟨k, hk, rfl, hcel, hbel⟩ := hrel
    by_cases hlt : k < n
    · have hkc : k < c.length := by rw [HN.out]; exact hlt
      obtain ⟨b, off, y, rfl, hy, hcy⟩ := hrow.int hkc
      replace hcy := below_old hbel _ _ hcy
      have hgy : c[k]? = some y := get_of_drop hy
      have hys := HS.out y (List.mem_of_getElem? hgy)
      have HG := hide (g_Itoa y (by omega) wr (HP0.out.below hbel))
      have hkl : k < (sc (wordsL c k)).length := by rw [List.length_map, wordsL_len c k (by omega)]; exact hkc
      obtain ⟨ov, hov⟩ : ∃ ov, (sc (wordsL c k))[k]? = some ov := ⟨_, List.getElem?_eq_getElem hkl⟩
      have hold := hcel.out k ov hov
      rw [Nat.zero_add] at hold
      have HST := hide (fun w3 (hb : Below wr.heap.size wr w3) => (show w3.cell? ⟨w.heap.size, k, none⟩ = some ov ∧ w3.frozen? ⟨w.heap.size, k, none⟩ = false ∧ Cel (w3.setCell ⟨w.heap.size, k, none⟩ (.string (bs (Lib.itoa y)))) w.heap.size 0 (sc (wordsL c (k + 1))) from by
        have h9 := hcel.out.below hb
        refine ⟨below_old hb _ _ hold.1, (hb.frozen (World.block_lt_of_cell? _ _ hold.1)).trans hold.2, ?_⟩
        have h10 := h9.set_ hkl (.string (bs (Lib.itoa y)))
        rw [Nat.zero_add] at h10
        rw [← wordsL_set c k y hkc hgy]
        exact h10))
      have hsr := hbel.size
      clear hy hcel hold hgy hov hkl
      go_wp2_with fail
      refine HG.out.mono ?_
      rintro e w3 ⟨rfl, hb3⟩
      obtain ⟨z1, z2, z3⟩ := HST.out w3 hb3
      have HZ3 := hide z3
      have hb03 := hbel.trans (hb3.mono hsr)
      have HB3 := hide (hb03.setCell (p := ⟨w.heap.size, k, none⟩) (Nat.le_refl _) (.string (bs (Lib.itoa y))))
      clear z3
      go_wp2_with fail
      go_roundw
      case rel => exact ⟨k + 1, by omega, by go_num, HZ3.out, HB3.out⟩
      case measure => simp [intOf]; omega
    · obtain rfl : k = n := by omega
      have hwl : wordsL c k = c.map fun l => bs (Lib.itoa l) := by unfold wordsL; rw [List.take_of_length_le (by rw [HN.out]; exact Nat.le_refl _), HN.out, Nat.sub_self]; simp
      have hcel2 := hcel.out
      rw [hwl] at hcel2
      have hdat : (c.map fun l => bs (Lib.itoa l)).map (·.data.toList) = c.map Lib.itoa := by
        rw [List.map_map]
        apply List.map_congr_left
        intro l _
        simp [bs]
      have hlen : (c.map fun l => bs (Lib.itoa l)).length = k := by rw [List.length_map, HN.out]
      have htx : Lib.join (c.map Lib.itoa) [32] = textL c := join_text c (by intro e; rw [e] at hlen; simp at hlen; omega)
      have hcells : ∀ (j : Nat) (x : ByteArray), (c.map fun l => bs (Lib.itoa l))[j]? = some x → wr.cell? ⟨w.heap.size, 0 + j, none⟩ = some (.string x) := fun j x hx => (hcel2 j (.string x) (by unfold sc; rw [List.getElem?_map, hx]; rfl)).1
      have hblt : w.heap.size < wr.heap.size := World.block_lt_of_cell? _ _ (hcells 0 _ (List.getElem?_eq_getElem (by rw [hlen]; exact h0)))
      have htl : (textL c).length ≤ 1000 := by
        have h9 := HS.out
        match hc9 : c with
        | [] => simp [textL]
        | x :: r =>
          have e1 := itoa_le x (h9 x (by rw [hc9]; simp))
          have e2 := tailL_len r fun l hl => h9 l (by rw [hc9]; simp [hl])
          have e3 := HN.out
          rw [hc9, List.length_cons] at e3
          simp only [textL, List.length_append]
          omega
      have HJ := hide (Any.strings_Join Tryd.lays156 Tryd.Builder_Extra_156 w.heap.size 0 k (c.map fun l => bs (Lib.itoa l)) (ByteArray.mk #[32]) wr hcells hblt (by rw [hlen]; omega) (by rw [hlen]; exact Nat.le_refl _) (by rw [hdat]; exact (show (Lib.join (c.map Lib.itoa) [32]).length ≤ _ by rw [htx]; omega)))
      have HJ2 := hide (show Calls Tryd.prog 97 #[.slice (some ⟨w.heap.size, 0, none⟩) k k, .string (ByteArray.mk #[32])] wr fun e w' => e = .returned (.string (bs (textL c))) ∧ Below wr.heap.size wr w' from by
        have h9 := HJ.out
        rw [hlen, hdat, show (ByteArray.mk #[32]).data.toList = [32] from rfl, htx] at h9
        exact h9)
      clear hcel hcel2 hwl hdat hlen htx hcells htl HJ
      go_wp2_with fail
      refine HJ2.out.mono ?_
      rintro e w5 ⟨rfl, hb5⟩
      go_wp2_with fail
      go_ret
      exact ⟨rfl, hbel.trans (hb5.mono hbel.size)⟩

def fClauseText (vars : Int) (c : List Int) : ByteArray × Bool := if clauseB vars c then (bs (textL c), true) else (ByteArray.mk #[], false)

set_option maxHeartbeats 400000 in
theorem i_clauseText {hi : Nat} (v : Value) (c : List Int) (w : World) (h : Ints hi w v c) (hs : ∀ l ∈ c, -12 ≤ l ∧ l ≤ 12) (hn : c.length ≤ 12) (hP : Pow w) :
    Calls Tryd.prog 59 #[v] w fun e w' => e = .returned (.string (bs (textL c))) ∧ Below w.heap.size w w' := by
  by_cases h0 : 0 < c.length
  · have HD := hide (i_digits v c w h hs hn h0 hP)
    obtain ⟨A, cp, rfl, -⟩ := h
    have hne : ((c.length : Int) == 0) = false := by rw [beq_eq_false_iff_ne]; omega
    go_enter Tryd.func59, Tryd.ntmps59
    go_wp2_with fail
    refine HD.out.mono ?_
    rintro e w1 ⟨rfl, hb1⟩
    go_wp2_with fail
    go_ret
    exact ⟨rfl, hb1⟩
  · obtain rfl : c = [] := List.eq_nil_of_length_eq_zero (by omega)
    obtain ⟨A, cp, rfl, -⟩ := h
    go_enter Tryd.func59, Tryd.ntmps59
    go_wp2_with fail
    go_ret
    exact ⟨rfl, Below.refl _ _⟩

set_option maxHeartbeats 400000 in
theorem I_ClauseText {hi : Nat} (vars : Int) (v : Value) (c : List Int) (r0 : ByteArray) (r1 : Bool) (w : World) (hP : Pow w) (h : Ints hi w v c) (hn1 : c.length ≤ 1048576) (hR : fClauseText vars c = (r0, r1)) :
    Calls Tryd.prog 27 #[.int .i64 vars, v] w fun e w' => e = .returned (.tuple #[.string r0, .bool r1]) ∧ Below w.heap.size w w' := by
  cases hg : clauseB vars c with
  | false =>
    obtain ⟨rfl, rfl⟩ : r0 = ByteArray.mk #[] ∧ r1 = false := by simpa [fClauseText, hg, eq_comm] using hR
    have HI := hide (hg ▸ i_IsClause vars v c w h)
    clear hR
    obtain ⟨A, cp, rfl, -⟩ := h
    go_enter Tryd.func27, Tryd.ntmps27
    go_wp2_with fail
    refine HI.out.mono ?_
    rintro e w1 ⟨rfl, hq⟩
    go_wp2_with fail
    go_ret2
    exact ⟨rfl, hq.below _⟩
  | true =>
    obtain ⟨rfl, rfl⟩ : r0 = bs (textL c) ∧ r1 = true := by simpa [fClauseText, hg, eq_comm] using hR
    have HI := hide (hg ▸ i_IsClause vars v c w h)
    have HT := hide (fun w1 (hb : Below w.heap.size w w1) => i_clauseText v c w1 (h.below hb) (fun l hl => (clauseB_small hg l hl).2) (clauseB_len hg) (hP.below hb))
    clear hR
    obtain ⟨A, cp, rfl, -⟩ := h
    go_enter Tryd.func27, Tryd.ntmps27
    go_wp2_with fail
    refine HI.out.mono ?_
    rintro e w1 ⟨rfl, hq⟩
    go_wp2_with fail
    refine (HT.out w1 (hq.below _)).mono ?_
    rintro e w2 ⟨rfl, hb2⟩
    go_wp2_with fail
    go_ret2
    exact ⟨rfl, (hq.below _).trans (hb2.mono (hq.below w.heap.size).size)⟩

set_option maxHeartbeats 400000 in
theorem S_ClauseText {hi : Nat} (vars : Int) (v : Value) (c : List Int) (r0 : ByteArray) (r1 : Bool) (w : World) (h : Ints hi w v c) (hn1 : c.length ≤ 1048576) (hR : fClauseText vars c = (r0, r1)) :
    Calls Tryd.prog 25 #[.int .i64 vars, v] w fun e w' => e = .returned (.tuple #[.string r0, .bool r1]) ∧ Below w.heap.size w w' := by
  cases hg : clauseB vars c with
  | false =>
    obtain ⟨rfl, rfl⟩ : r0 = ByteArray.mk #[] ∧ r1 = false := by simpa [fClauseText, hg, eq_comm] using hR
    have HI := hide (hg ▸ s_l2Clause vars v c w h)
    clear hR
    obtain ⟨A, cp, rfl, -⟩ := h
    go_enter Tryd.func25, Tryd.ntmps25
    go_wp2_with fail
    refine HI.out.mono ?_
    rintro e w1 ⟨rfl, hq⟩
    go_wp2_with fail
    go_ret2
    exact ⟨rfl, hq.below _⟩
  | true =>
    obtain ⟨rfl, rfl⟩ : r0 = bs (textL c) ∧ r1 = true := by simpa [fClauseText, hg, eq_comm] using hR
    have HI := hide (hg ▸ s_l2Clause vars v c w h)
    have HT := hide (fun w1 (hb : Below w.heap.size w w1) => s_l2Text v c w1 (h.below hb) (fun l hl => (clauseB_small hg l hl).2) (clauseB_len hg))
    clear hR
    obtain ⟨A, cp, rfl, -⟩ := h
    go_enter Tryd.func25, Tryd.ntmps25
    go_wp2_with fail
    refine HI.out.mono ?_
    rintro e w1 ⟨rfl, hq⟩
    go_wp2_with fail
    refine (HT.out w1 (hq.below _)).mono ?_
    rintro e w2 ⟨rfl, hq2⟩
    go_wp2_with fail
    go_ret2
    exact ⟨rfl, (hq.trans hq2).below _⟩

end Go.Proofs.YtmepficbmgjpoaaDoor
