/- The walks: the values of a circuit's gates in the reference; the value of a circuit. -/
import Derived.Test.YtfipchccnbbapaaVals
namespace Go.Proofs.Ytfipchccnbbapaa
open Go.RowKit
set_option linter.unusedVariables false

set_option maxHeartbeats 1600000 in
theorem s_l6Values {hi : Nat} (vars : Int) (v : Value) (gs : List GateL) (bits : Int) (w : World) (h : Gates hi w v gs) (hg : circB vars gs = true) (h0 : 0 ≤ bits) :
    Calls Try.prog 60 #[v, .int .i64 bits] w fun e w' => ∃ v', e = .returned v' ∧ Bools w'.heap.size w' v' (valsL bits [] gs) ∧ Below w.heap.size w w' := by
  obtain ⟨hv, hl1, hl2, hgs⟩ := circ_parts hg
  have HG := hide hgs
  obtain ⟨nv, hnv, hnv12⟩ := varsB_nat hv
  obtain ⟨A, c, rfl, hc, hm, hrow⟩ := h
  have hmade := OwnB.made w.heap.size w (Nat.le_refl _)
  have HMADE := hide hmade
  unfold maxLen at hm
  clear hgs hg hv hmade
  go_enter Try.func60, Try.ntmps60
  go_wp2
  go_loopw [5, 6] (fun q i wr => ∃ (k : Nat) (acc : List Bool), k ≤ gs.length ∧ i = .int .i64 k ∧ acc.length = k ∧ Hid (valsL bits [] gs = valsL bits acc (gs.drop k)) ∧ OwnB w.heap.size wr q acc ∧ Below w.heap.size w wr) (fun _ i _ => gs.length - (intOf i).toNat)
  case atStart => exact ⟨0, [], Nat.zero_le _, rfl, rfl, rfl, HMADE.out, (Below.refl _ _).alloc (Nat.le_refl _) _⟩
  case round =>
    obtain ⟨k, acc, hk, rfl, hak, hr, hown, hbel⟩ := hrel
    obtain ⟨A1, c1, rfl, hc1', hm1, hown1⟩ := id hown.own
    rw [hak] at hc1' hown
    by_cases hlt : k < gs.length
    · obtain ⟨b, off, g, rfl, hx, hc0, hc1, hc2⟩ := hrow.gate hlt
      replace hc0 := below_old hbel _ _ hc0
      replace hc1 := below_old hbel _ _ hc1
      replace hc2 := below_old hbel _ _ hc2
      have hal : ∀ o, Below wr.heap.size wr (wr.alloc o) := fun o => (Below.refl _ _).alloc (Nat.le_refl _) o
      have hgi := HG.out k g (get_of_drop hx)
      have hHF : Hid (valsL bits [] gs = valsL bits (acc ++ [valG bits acc g]) (gs.drop (k + 1))) := by show _ = _; rw [hr.out, hx]; rfl
      have HOWN := hide fun o => hown.below (hal o)
      have HBEL := hide fun o => hbel.alloc hbel.size o
      have HROW := hide hown1.row
      have HAK := hide hak
      have hszr := hbel.size
      unfold maxLen at hm1
      rw [hak]
      clear hx hr hown hown1 hbel
      cases hgi with
      | var m hm1' =>
        have HF : Hid (valsL bits [] gs = valsL bits (acc ++ [bitB bits m]) (gs.drop (k + 1))) := by have := hHF.out; simp only [valG, if_true] at this; rw [show ((m : Int) + 1 - 1).toNat = m from by omega] at this; exact this
        clear hHF
        dsimp only at hc0 hc1 hc2
        have HOWN2 := HOWN.out (.cells #[.int .i64 1, .int .i64 ((m : Int) + 1), .int .i64 0] 44)
        have hm11 : m ≤ 11 := by omega
        obtain ⟨t, ht⟩ : ∃ t, bitB bits m = t := ⟨_, rfl⟩
        rw [ht] at HF
        have ht' := ht
        unfold bitB at ht'
        clear hal
        go_wp2_with (at_builtin; (refine append_bool rfl _ _ rfl w.heap.size rfl HOWN2 rfl ?_ ?_ ?_ ?_); (· (simp)); (· (rw [HAK.out]; omega)); (· (simp; omega)); (intro v2 w2 hown2 hb2))
        go_roundw
        case rel => exact ⟨k + 1, acc ++ [t], by omega, by go_num, by simp [HAK.out], HF.out, hown2, (HBEL.out _).trans hb2⟩
        case measure => simp [intOf]; omega
      | yes =>
        have HF : Hid (valsL bits [] gs = valsL bits (acc ++ [true]) (gs.drop (k + 1))) := hHF
        clear hHF
        dsimp only at hc0 hc1 hc2
        have HOWN2 := HOWN.out (.cells #[.int .i64 2, .int .i64 0, .int .i64 0] 44)
        clear hal
        go_wp2_with (at_builtin; (refine append_bool rfl _ _ rfl w.heap.size rfl HOWN2 rfl ?_ ?_ ?_ ?_); (· (simp)); (· (rw [HAK.out]; omega)); (· (simp; omega)); (intro v2 w2 hown2 hb2))
        go_roundw
        case rel => exact ⟨k + 1, acc ++ [true], by omega, by go_num, by simp [HAK.out], HF.out, hown2, (HBEL.out _).trans hb2⟩
        case measure => simp [intOf]; omega
      | no =>
        have HF : Hid (valsL bits [] gs = valsL bits (acc ++ [false]) (gs.drop (k + 1))) := hHF
        clear hHF
        dsimp only at hc0 hc1 hc2
        have HOWN2 := HOWN.out (.cells #[.int .i64 3, .int .i64 0, .int .i64 0] 44)
        clear hal
        go_wp2_with (at_builtin; (refine append_bool rfl _ _ rfl w.heap.size rfl HOWN2 rfl ?_ ?_ ?_ ?_); (· (simp)); (· (rw [HAK.out]; omega)); (· (simp; omega)); (intro v2 w2 hown2 hb2))
        go_roundw
        case rel => exact ⟨k + 1, acc ++ [false], by omega, by go_num, by simp [HAK.out], HF.out, hown2, (HBEL.out _).trans hb2⟩
        case measure => simp [intOf]; omega
      | not m hm1' =>
        have HF : Hid (valsL bits [] gs = valsL bits (acc ++ [!acc.getD m false]) (gs.drop (k + 1))) := hHF
        clear hHF
        dsimp only at hc0 hc1 hc2
        have hA1 : ∃ B1 off1, A1 = some ⟨B1, off1, none⟩ := by obtain ⟨B1, off1, x1, e1, _⟩ := HROW.out.bool (k := m) (by rw [HAK.out]; exact hm1'); exact ⟨B1, off1, e1⟩
        obtain ⟨B1, off1, rfl⟩ := hA1
        have l0 : wr.cell? ⟨B1, off1 + m, none⟩ = some (.bool (acc.getD m false)) := by obtain ⟨B2, off2, x2, e2, d2, c2⟩ := HROW.out.bool (k := m) (by rw [HAK.out]; exact hm1'); obtain ⟨rfl, rfl⟩ : B1 = B2 ∧ off1 = off2 := (by simpa using e2); rw [c2, List.getD_eq_getElem?_getD, get_of_drop d2]; rfl
        obtain ⟨t, ht⟩ : ∃ t, acc.getD m false = t := ⟨_, rfl⟩
        rw [ht] at l0 HF
        clear ht
        have hne : ¬ (B1 = wr.heap.size) := by have := World.block_lt_of_cell? _ _ l0; simp at this; omega
        have l0' : ∀ o, (wr.alloc o).cell? ⟨B1, off1 + m, none⟩ = some (.bool t) := fun o => below_old (hal o) _ _ l0
        have HOWN2 := HOWN.out (.cells #[.int .i64 4, .int .i64 (m : Int), .int .i64 0] 44)
        clear hal
        go_wp2_with (at_builtin; (refine append_bool rfl _ _ rfl w.heap.size rfl HOWN2 rfl ?_ ?_ ?_ ?_); (· (simp)); (· (rw [HAK.out]; omega)); (· (simp; omega)); (intro v2 w2 hown2 hb2))
        go_roundw
        case rel => exact ⟨k + 1, acc ++ [!t], by omega, by go_num, by simp [HAK.out], HF.out, hown2, (HBEL.out _).trans hb2⟩
        case measure => simp [intOf]; omega
      | and m n hm1' hn1 =>
        have HF : Hid (valsL bits [] gs = valsL bits (acc ++ [acc.getD m false && acc.getD n false]) (gs.drop (k + 1))) := hHF
        clear hHF
        dsimp only at hc0 hc1 hc2
        have hA1 : ∃ B1 off1, A1 = some ⟨B1, off1, none⟩ := by obtain ⟨B1, off1, x1, e1, _⟩ := HROW.out.bool (k := m) (by rw [HAK.out]; exact hm1'); exact ⟨B1, off1, e1⟩
        obtain ⟨B1, off1, rfl⟩ := hA1
        have l0 : wr.cell? ⟨B1, off1 + m, none⟩ = some (.bool (acc.getD m false)) := by obtain ⟨B2, off2, x2, e2, d2, c2⟩ := HROW.out.bool (k := m) (by rw [HAK.out]; exact hm1'); obtain ⟨rfl, rfl⟩ : B1 = B2 ∧ off1 = off2 := (by simpa using e2); rw [c2, List.getD_eq_getElem?_getD, get_of_drop d2]; rfl
        have l1 : wr.cell? ⟨B1, off1 + n, none⟩ = some (.bool (acc.getD n false)) := by obtain ⟨B2, off2, x2, e2, d2, c2⟩ := HROW.out.bool (k := n) (by rw [HAK.out]; exact hn1); obtain ⟨rfl, rfl⟩ : B1 = B2 ∧ off1 = off2 := (by simpa using e2); rw [c2, List.getD_eq_getElem?_getD, get_of_drop d2]; rfl
        obtain ⟨t, ht⟩ : ∃ t, acc.getD m false = t := ⟨_, rfl⟩
        obtain ⟨u, hu⟩ : ∃ u, acc.getD n false = u := ⟨_, rfl⟩
        rw [ht] at l0 HF
        rw [hu] at l1 HF
        clear ht hu
        have hne : ¬ (B1 = wr.heap.size) := by have := World.block_lt_of_cell? _ _ l0; simp at this; omega
        have l0' : ∀ o, (wr.alloc o).cell? ⟨B1, off1 + m, none⟩ = some (.bool t) := fun o => below_old (hal o) _ _ l0
        have l1' : ∀ o, (wr.alloc o).cell? ⟨B1, off1 + n, none⟩ = some (.bool u) := fun o => below_old (hal o) _ _ l1
        have HOWN2 := HOWN.out (.cells #[.int .i64 5, .int .i64 (m : Int), .int .i64 (n : Int)] 44)
        cases t with
        | true =>
          clear hal
          go_wp2_with (at_builtin; (refine append_bool rfl _ _ rfl w.heap.size rfl HOWN2 rfl ?_ ?_ ?_ ?_); (· (simp)); (· (rw [HAK.out]; omega)); (· (simp; omega)); (intro v2 w2 hown2 hb2))
          go_roundw
          case rel => exact ⟨k + 1, acc ++ [u], by omega, by go_num, by simp [HAK.out], (by show _ = _; simpa using HF.out), hown2, (HBEL.out _).trans hb2⟩
          case measure => simp [intOf]; omega
        | false =>
          clear hal
          go_wp2_with (at_builtin; (refine append_bool rfl _ _ rfl w.heap.size rfl HOWN2 rfl ?_ ?_ ?_ ?_); (· (simp)); (· (rw [HAK.out]; omega)); (· (simp; omega)); (intro v2 w2 hown2 hb2))
          go_roundw
          case rel => exact ⟨k + 1, acc ++ [false], by omega, by go_num, by simp [HAK.out], (by show _ = _; simpa using HF.out), hown2, (HBEL.out _).trans hb2⟩
          case measure => simp [intOf]; omega
      | or m n hm1' hn1 =>
        have HF : Hid (valsL bits [] gs = valsL bits (acc ++ [acc.getD m false || acc.getD n false]) (gs.drop (k + 1))) := hHF
        clear hHF
        dsimp only at hc0 hc1 hc2
        have hA1 : ∃ B1 off1, A1 = some ⟨B1, off1, none⟩ := by obtain ⟨B1, off1, x1, e1, _⟩ := HROW.out.bool (k := m) (by rw [HAK.out]; exact hm1'); exact ⟨B1, off1, e1⟩
        obtain ⟨B1, off1, rfl⟩ := hA1
        have l0 : wr.cell? ⟨B1, off1 + m, none⟩ = some (.bool (acc.getD m false)) := by obtain ⟨B2, off2, x2, e2, d2, c2⟩ := HROW.out.bool (k := m) (by rw [HAK.out]; exact hm1'); obtain ⟨rfl, rfl⟩ : B1 = B2 ∧ off1 = off2 := (by simpa using e2); rw [c2, List.getD_eq_getElem?_getD, get_of_drop d2]; rfl
        have l1 : wr.cell? ⟨B1, off1 + n, none⟩ = some (.bool (acc.getD n false)) := by obtain ⟨B2, off2, x2, e2, d2, c2⟩ := HROW.out.bool (k := n) (by rw [HAK.out]; exact hn1); obtain ⟨rfl, rfl⟩ : B1 = B2 ∧ off1 = off2 := (by simpa using e2); rw [c2, List.getD_eq_getElem?_getD, get_of_drop d2]; rfl
        obtain ⟨t, ht⟩ : ∃ t, acc.getD m false = t := ⟨_, rfl⟩
        obtain ⟨u, hu⟩ : ∃ u, acc.getD n false = u := ⟨_, rfl⟩
        rw [ht] at l0 HF
        rw [hu] at l1 HF
        clear ht hu
        have hne : ¬ (B1 = wr.heap.size) := by have := World.block_lt_of_cell? _ _ l0; simp at this; omega
        have l0' : ∀ o, (wr.alloc o).cell? ⟨B1, off1 + m, none⟩ = some (.bool t) := fun o => below_old (hal o) _ _ l0
        have l1' : ∀ o, (wr.alloc o).cell? ⟨B1, off1 + n, none⟩ = some (.bool u) := fun o => below_old (hal o) _ _ l1
        have HOWN2 := HOWN.out (.cells #[.int .i64 6, .int .i64 (m : Int), .int .i64 (n : Int)] 44)
        cases t with
        | true =>
          clear hal
          go_wp2_with (at_builtin; (refine append_bool rfl _ _ rfl w.heap.size rfl HOWN2 rfl ?_ ?_ ?_ ?_); (· (simp)); (· (rw [HAK.out]; omega)); (· (simp; omega)); (intro v2 w2 hown2 hb2))
          go_roundw
          case rel => exact ⟨k + 1, acc ++ [true], by omega, by go_num, by simp [HAK.out], (by show _ = _; simpa using HF.out), hown2, (HBEL.out _).trans hb2⟩
          case measure => simp [intOf]; omega
        | false =>
          clear hal
          go_wp2_with (at_builtin; (refine append_bool rfl _ _ rfl w.heap.size rfl HOWN2 rfl ?_ ?_ ?_ ?_); (· (simp)); (· (rw [HAK.out]; omega)); (· (simp; omega)); (intro v2 w2 hown2 hb2))
          go_roundw
          case rel => exact ⟨k + 1, acc ++ [u], by omega, by go_num, by simp [HAK.out], (by show _ = _; simpa using HF.out), hown2, (HBEL.out _).trans hb2⟩
          case measure => simp [intOf]; omega
    · obtain rfl : k = gs.length := by omega
      have HF := hide (show valsL bits [] gs = acc by rw [hr.out, List.drop_length]; rfl)
      rw [hak]
      have hB := hown.bools
      have HB := hide hB
      clear hB
      go_wp2
      go_ret
      exact ⟨_, rfl, by rw [HF.out]; exact HB.out, hbel⟩

set_option maxHeartbeats 400000 in
theorem i_circuitValue {hi : Nat} (vars : Int) (v : Value) (gs : List GateL) (bits : Int) (w : World) (h : Gates hi w v gs) (hg : circB vars gs = true) (h0 : 0 ≤ bits) :
    Calls Try.prog 47 #[v, .int .i64 bits] w fun e w' => e = .returned (.bool (valueG gs bits)) ∧ Below w.heap.size w w' := by
  have HC := hide (i_gateValues vars v gs bits w h hg h0)
  have hln := valsL_length bits gs []
  obtain ⟨_, hl1, hl2, _⟩ := circ_parts hg
  obtain ⟨A, c, rfl, hc, hm, hrow⟩ := h
  obtain ⟨m, hm'⟩ : ∃ m, gs.length = m + 1 := ⟨gs.length - 1, by omega⟩
  unfold valueG
  unfold maxLen at hm
  rw [hm'] at hc hl2 hln HC ⊢
  have HLN := hide hln
  clear hln hl1 hm' hg hrow
  go_enter Try.func47, Try.ntmps47
  go_wp2_with fail
  refine HC.out.mono ?_
  rintro e w1 ⟨v1, rfl, ⟨A1, c1, rfl, hc1, hm1, hrow1⟩, hb1⟩
  obtain ⟨b1, off1, x1, rfl, hx1, hcw1⟩ := hrow1.bool (k := m) (by rw [HLN.out]; simp)
  have HF := hide (show (valsL bits [] gs).getD (m + 1 - 1) false = x1 by rw [List.getD_eq_getElem?_getD, show m + 1 - 1 = m from rfl, get_of_drop hx1]; rfl)
  rw [HLN.out]
  rw [HLN.out] at hc1
  simp only [List.length_nil, Nat.zero_add] at hc1 ⊢
  unfold maxLen at hm1
  clear hx1
  go_wp2_with fail
  go_ret
  exact ⟨by rw [HF.out]; rfl, hb1⟩

set_option maxHeartbeats 400000 in
theorem s_l6Value {hi : Nat} (vars : Int) (v : Value) (gs : List GateL) (bits : Int) (w : World) (h : Gates hi w v gs) (hg : circB vars gs = true) (h0 : 0 ≤ bits) :
    Calls Try.prog 45 #[v, .int .i64 bits] w fun e w' => e = .returned (.bool (valueG gs bits)) ∧ Below w.heap.size w w' := by
  have HC := hide (s_l6Values vars v gs bits w h hg h0)
  have hln := valsL_length bits gs []
  obtain ⟨_, hl1, hl2, _⟩ := circ_parts hg
  obtain ⟨A, c, rfl, hc, hm, hrow⟩ := h
  obtain ⟨m, hm'⟩ : ∃ m, gs.length = m + 1 := ⟨gs.length - 1, by omega⟩
  unfold valueG
  unfold maxLen at hm
  rw [hm'] at hc hl2 hln HC ⊢
  have HLN := hide hln
  clear hln hl1 hm' hg hrow
  go_enter Try.func45, Try.ntmps45
  go_wp2_with fail
  refine HC.out.mono ?_
  rintro e w1 ⟨v1, rfl, ⟨A1, c1, rfl, hc1, hm1, hrow1⟩, hb1⟩
  obtain ⟨b1, off1, x1, rfl, hx1, hcw1⟩ := hrow1.bool (k := m) (by rw [HLN.out]; simp)
  have HF := hide (show (valsL bits [] gs).getD (m + 1 - 1) false = x1 by rw [List.getD_eq_getElem?_getD, show m + 1 - 1 = m from rfl, get_of_drop hx1]; rfl)
  rw [HLN.out]
  rw [HLN.out] at hc1
  simp only [List.length_nil, Nat.zero_add] at hc1 ⊢
  unfold maxLen at hm1
  clear hx1
  go_wp2_with fail
  go_ret
  exact ⟨by rw [HF.out]; rfl, hb1⟩

end Go.Proofs.Ytfipchccnbbapaa
