/- The walks of the program's cnfText by the library's Builder; the contracts of CnfText. -/
import Derived.Test.YtmepficbmgjpoaaDoorCnfT
import Derived.Shelf.Strings.Builder1
namespace Go.Proofs.YtmepficbmgjpoaaDoor
open Go.RowKit
set_option linter.unusedVariables false

def BuI (B b : Nat) (l : List UInt8) (w : World) : Prop := Lib.IsBuilder 85 5 B b (Lib.byteCells l) w
theorem BuI.below {B b : Nat} {l : List UInt8} {w w' : World} (h : BuI B b l w) (hb : Below w.heap.size w w') : BuI B b l w' := builder_below h hb
set_option maxRecDepth 100000 in
theorem g_copyFresh (b : Nat) (w : World) (h0 : w.cell? ⟨b, 0, none⟩ = some (.pointer none)) (hsh : w.shape? b = some (85, 2)) (hfz : w.frozen? ⟨b, 0, none⟩ = false) :
    Calls Tryd.prog 98 #[.pointer (some ⟨b, 0, none⟩)] w fun e w' => e = .returned (.tuple #[]) ∧ w' = w.setCell ⟨b, 0, none⟩ (.pointer (some ⟨b, 0, none⟩)) := by
  obtain ⟨j, hj, hjs⟩ := Option.map_eq_some_iff.1 Tryd.Builder_Extra_169.sizeBuilder
  go_enter Tryd.func98, Tryd.ntmps98
  go_wp2
  rw [Lib.run_to_unsafe w ⟨b, 0, none⟩ Tryd.underlying83 Tryd.underlying113 hj (by rw [hjs]; decide) hsh (Nat.zero_lt_succ 1)]
  simp only [Result.andThen]
  rw [Oper.upon_value]
  go_wp2
  rw [run_callFunc_extern Tryd.func114 (by kernel_rfl) (by kernel_rfl) (by kernel_rfl) (e := Extern.AbiNoEscape.same) (by kernel_rfl)]
  rw [Lib.run_noEscape]
  simp only [Result.andThen]
  rw [Oper.upon_value]
  go_wp2
  rw [Lib.run_from_unsafe w ⟨b, 0, none⟩ Tryd.underlying113 Tryd.underlying83 hj hsh Tryd.Builder_Extra_169.liesBuilder]
  simp only [Result.andThen]
  rw [Oper.upon_value]
  go_wp2
  go_end0
  exact ⟨rfl, rfl⟩

set_option maxRecDepth 100000 in
theorem g_copyUsed (b : Nat) (w : World) (h0 : w.cell? ⟨b, 0, none⟩ = some (.pointer (some ⟨b, 0, none⟩))) :
    Calls Tryd.prog 98 #[.pointer (some ⟨b, 0, none⟩)] w fun e w' => e = .returned (.tuple #[]) ∧ w' = w := by
  obtain ⟨j, hj, _⟩ := Option.map_eq_some_iff.1 Tryd.Builder_Extra_169.sizeBuilder
  go_enter Tryd.func98, Tryd.ntmps98
  go_wp2
  rw [Lib.run_neq_ptr_same w _ Tryd.underlying83 hj]
  go_wp2
  go_end0
  exact ⟨rfl, rfl⟩

def BuA (B b : Nat) (l : List UInt8) (w : World) : Prop := Lib.BuilderAt 85 5 B b (.pointer (some ⟨b, 0, none⟩)) (Lib.byteCells l) w
theorem g_copyCheck (B b : Nat) (l : List UInt8) (w : World) (h : BuI B b l w) :
    Calls Tryd.prog 98 #[.pointer (some ⟨b, 0, none⟩)] w fun e w' => e = .returned (.tuple #[]) ∧ BuA B b l w' ∧ Below B w w' := by
  rcases h with h | h
  · refine (g_copyFresh b w h.cell0 h.shape h.frozen0).mono ?_
    rintro e w' ⟨rfl, rfl⟩
    exact ⟨rfl, h.used _, (Below.refl B w).setCell (p := ⟨b, 0, none⟩) h.1 _⟩
  · refine (g_copyUsed b w h.cell0).mono ?_
    rintro e w' ⟨rfl, rfl⟩
    exact ⟨rfl, h, Below.refl B _⟩

set_option maxHeartbeats 2000000 in
set_option maxRecDepth 100000 in
theorem g_WriteString (B b : Nat) (l s : List UInt8) (w : World) (h : BuI B b l w) (hlen : l.length + s.length ≤ 1048576) (hB : B ≤ w.heap.size) :
    Calls Tryd.prog 86 #[.pointer (some ⟨b, 0, none⟩), .string (bs s)] w fun e w' => ∃ r, e = .returned (.tuple #[.int .i64 r, .nilIface]) ∧ BuI B b (l ++ s) w' ∧ Below B w w' := by
  obtain ⟨i0, hi, hz0, hz1, hz2⟩ := info_parts Tryd.Builder_Extra_169.infoByte
  have hss := bs_size s
  have hll := Lib.byteCells_length l
  go_enter Tryd.func86, Tryd.ntmps86
  go_wp2_with (go_at_call 98; refine (g_copyCheck B b l _ h).mono ?_)
  rintro e w1 ⟨rfl, h1, hb1⟩
  obtain ⟨hBb, v, hbk, hown, hne⟩ := h1
  have c0 : w1.cell? ⟨b, 0, none⟩ = some (.pointer (some ⟨b, 0, none⟩)) := by rw [Lib.cell_of_heap hbk]; rfl
  have c1 : w1.cell? ⟨b, 1, none⟩ = some v := by rw [Lib.cell_of_heap hbk]; rfl
  go_wp2_with (at_builtin; refine Lib.wpList_append_own_string _ rfl _ _ 77 9 rfl B 5 i0 Tryd.underlying77 Tryd.underlying9 hi hz0 hz1 hz2 _ _ _ rfl hown (bs s) rfl ?c3 ?c4 ?c5 ?_)
  case c3 => unfold maxLen; omega
  case c4 => omega
  case c5 => have := hb1.size; omega
  intro v' w2 hown' hgrow _
  have hlt : b < w1.heap.size := by
    rcases Nat.lt_or_ge b w1.heap.size with h' | h'
    · exact h'
    · simp [Array.getElem?_eq_none h'] at hbk
  have hb2 : w2.heap[b]? = some (.cells #[.pointer (some ⟨b, 0, none⟩), v] 85 (0, 0)) := by
    rw [hgrow.block b hlt (fun e => hne e.symm)]
    exact hbk
  have d0 : w2.cell? ⟨b, 0, none⟩ = some (.pointer (some ⟨b, 0, none⟩)) := by rw [Lib.cell_of_heap hb2]; rfl
  have d1 : w2.cell? ⟨b, 1, none⟩ = some v := by rw [Lib.cell_of_heap hb2]; rfl
  have f1 : w2.frozen? ⟨b, 1, none⟩ = false := Lib.frozen_of_heap hb2 1
  obtain ⟨ao, n', cap, rfl⟩ : ∃ ao n' cap, v' = .slice ao n' cap := by
    rcases hown'.2 with ⟨hv, _⟩ | ⟨g, cap, cur, hv, _⟩
    · exact ⟨_, _, _, hv⟩
    · exact ⟨_, _, _, hv⟩
  have HB := hide (Lib.BuilderAt.put (T := 85) (e := 5) hBb hb2 (bs' := Lib.byteCells l ++ Lib.strCells (bs s)) (by rw [List.length_append, Lib.strCells_length, hll, hss]; exact hown') Tryd.Builder_Extra_169.neB5)
  have h9 : Lib.byteCells l ++ Lib.strCells (bs s) = Lib.byteCells (l ++ s) := by rw [strCells_bs]; simp [Lib.byteCells]
  rw [h9] at HB
  go_wp2
  go_ret2
  refine ⟨_, rfl, .inr HB.out, ?_⟩
  exact (hb1.grown hgrow (by have := hb1.size; omega) (fun k hk => (hown.lt k hk).1)).setCell (p := ⟨b, 1, none⟩) hBb _
theorem g_String (B b : Nat) (l : List UInt8) (w : World) (h : BuI B b l w) (hB : B ≤ w.heap.size) :
    Calls Tryd.prog 87 #[.pointer (some ⟨b, 0, none⟩)] w fun e w' => e = .returned (.string (bs l)) ∧ Below B w w' :=
  Any.Builder_String_any Tryd.lays169 Tryd.Builder_Extra_169 B b l w h hB

set_option maxHeartbeats 1600000 in
set_option maxRecDepth 20000 in
theorem i_cnfText {hi : Nat} (v : Value) (f : CnfL) (w : World) (h : RCnf hi w v f) (hg : goodB f = true) (hP : Pow w) :
    Calls Tryd.prog 68 #[v] w fun e w' => e = .returned (.string (bs (cnfL f))) ∧ Below w.heap.size w w' := by
  obtain ⟨A, n, c, rfl, ht⟩ := h.openN
  obtain ⟨vars, t⟩ := f
  dsimp only at ht ⊢
  obtain ⟨nv, hv, hn⟩ := varsB_nat (goodB_parts hg).1
  dsimp only at hv
  subst hv
  have HSM := hide (goodB_small hg)
  have HCL := hide (show ∀ z ∈ t, z.length ≤ 12 from fun z hz => clauseB_len ((goodB_parts hg).2.2 z hz))
  have HTL := hide (show t.length ≤ 60 from (goodB_parts hg).2.1)
  obtain ⟨wa, hwa⟩ : ∃ wa, wa = w.alloc (.cells #[.int .i64 nv, .slice A n c] 49) := ⟨_, rfl⟩
  have hala : Below w.heap.size w wa := by rw [hwa]; exact (Below.refl _ _).alloc (Nat.le_refl _) _
  have hsa : wa.heap.size = w.heap.size + 1 := by rw [hwa]; simp
  have x00 : wa.cell? ⟨w.heap.size, 0, none⟩ = some (.int .i64 nv) := by rw [hwa]; simp
  have x01 : wa.cell? ⟨w.heap.size, 1, none⟩ = some (.slice A n c) := by rw [hwa]; simp
  obtain ⟨wb, hwb⟩ : ∃ wb, wb = wa.alloc (.cells #[.pointer none, .slice none 0 0] 85) := ⟨_, rfl⟩
  have halb : Below wa.heap.size wa wb := by rw [hwb]; exact (Below.refl _ _).alloc (Nat.le_refl _) _
  have hsb : wb.heap.size = w.heap.size + 1 + 1 := by rw [hwb]; simp [hsa]
  have hbk : Blk wb (w.heap.size + 1) 85 #[.pointer none, .slice none 0 0] := by rw [hwb, ← hsa]; exact Blk.new _ _ _
  have hbu : BuI (w.heap.size + 1) (w.heap.size + 1) [] wb := .inl ⟨Nat.le_refl _, .slice none 0 0, hbk, World.ownsRow_nil _ _ _ _, by simp [Value.ownBlock]⟩
  replace x00 := below_old halb _ _ x00
  replace x01 := below_old halb _ _ x01
  have hal := below_stpN hala halb
  have htb := ht.top.below hal
  obtain ⟨A', c', ps, e', hc, hm, rfl, hrow, hps⟩ := htb.open_
  injection e' with e1 e2 e3
  subst e1 e2 e3
  unfold maxLen at hm
  have HPS := hide hps
  have HWB := hide hwb
  have HWA := hide hwa
  have HBU := hide hbu
  have HP := hide hP
  have HIT := hide (g_Itoa (nv : Int) (by omega) wb (hP.below hal))
  have HI := hide (itoa_le (nv : Int) (by omega))
  have HAL := hide hal
  clear hwb hwa hps htb hg hbu hbk hala halb hP hsa
  go_enter Tryd.func68, Tryd.ntmps68
  go_wp2_with fail
  rw [← HWA.out, ← HWB.out]
  refine HIT.out.mono ?_
  rintro e w1 ⟨rfl, hb1⟩
  have hs1 := hb1.size
  have HWR := hide (g_WriteString _ _ [] (Lib.itoa (nv : Int)) w1 (HBU.out.below hb1) (by have := HI.out; simp; omega) (by omega))
  replace x00 := below_old hb1 _ _ x00
  replace x01 := below_old hb1 _ _ x01
  have hal1 := below_stpN HAL.out hb1
  have HPS1 := hide (fun p hp => (HPS.out p hp).below hb1)
  replace hrow := hrow.below hb1
  clear hb1
  go_wp2_with fail
  refine HWR.out.mono ?_
  rintro e w2 ⟨r2, rfl, hbu2, hb2⟩
  have hs2 := hb2.size
  replace x00 := (hb2.cell (p := ⟨w.heap.size, 0, none⟩) (by simp)).trans x00
  replace x01 := (hb2.cell (p := ⟨w.heap.size, 1, none⟩) (by simp)).trans x01
  have hal2 := hal1.trans (hb2.mono (by omega))
  rw [List.nil_append] at hbu2
  have HB2 := hide hbu2
  have HR2 := hide (hrow.under hb2 (by omega))
  have HPS2 := hide (fun p hp => (HPS1.out p hp).under hb2 (by omega))
  clear hbu2 hb2 hrow
  go_wp2_with fail
  go_loopw [13] (fun i wr => ∃ (k : Nat) (pre : List UInt8), k ≤ ps.length ∧ i = .int .i64 k ∧ Hid (cnfL ((nv : Int), ps.map (·.2)) = pre ++ tailC ((ps.drop k).map (·.2))) ∧ pre.length ≤ 14 + 202 * k ∧ Hid (BuI (w.heap.size + 1) (w.heap.size + 1) pre wr) ∧ Below (w.heap.size + 1) w2 wr) (fun i _ => ps.length - (intOf i).toNat)
  case atStart => exact ⟨0, Lib.itoa (nv : Int), Nat.zero_le _, rfl, rfl, by have := HI.out; omega, HB2.out, Below.refl _ _⟩
  case round =>
    obtain ⟨k, pre, hk, rfl, hr, hpl, hbu, hbel⟩ := hrel
    have hsr := hbel.size
    have halr := hal2.trans (hbel.mono (by omega))
    by_cases hlt : k < ps.length
    · obtain ⟨b, off, u, z, rfl, hx, hcw, hz⟩ := HR2.out.tab HPS2.out hlt
      have hbb : b < w.heap.size := by obtain ⟨b', off', e', hlt', _⟩ := HR2.out (by simp; omega); injection e' with e'; injection e' with e1 e2; omega
      replace hcw := (hbel.cell (p := ⟨b, off + k, none⟩) (by simp; omega)).trans hcw
      have hmem : z ∈ ps.map (·.2) := by
        have : z ∈ (ps.drop k).map (·.2) := by rw [hx]; simp
        obtain ⟨p, hp, rfl⟩ := List.mem_map.1 this
        exact List.mem_map.2 ⟨p, List.mem_of_mem_drop hp, rfl⟩
      obtain ⟨Az, cz, rfl, -⟩ := id hz
      have hzl := HCL.out z hmem
      have hzs := fun l hl => (HSM.out z hmem l hl).2
      have HT := hide (i_clauseText (.slice Az z.length cz) z wr (hz.under hbel (by omega)) hzs hzl (HP.out.below halr))
      have hyl := textL_len z hzs hzl
      have hkt : k < 60 := by have := HTL.out; simp at this; omega
      have hsz1 : ¬ (9223372036854775807 < (ByteArray.mk #[59, 32]).size + (bs (textL z)).size) := by rw [bs_size, show (ByteArray.mk #[59, 32]).size = 2 from rfl]; omega
      have htu : ByteArray.mk #[59, 32] ++ bs (textL z) = bs (59 :: 32 :: textL z) := bs_append [59, 32] (textL z)
      have HF := hide (show cnfL ((nv : Int), ps.map (·.2)) = (pre ++ 59 :: 32 :: textL z) ++ tailC ((ps.drop (k + 1)).map (·.2)) by rw [hr.out, hx]; simp [tailC])
      have HPL := hide (show (pre ++ 59 :: 32 :: textL z).length ≤ 14 + 202 * (k + 1) by simp; omega)
      have HPL2 := hide (show pre.length + (59 :: 32 :: textL z).length ≤ 1048576 by simp; omega)
      clear hx hr hyl hmem hz
      go_wp2_with fail
      refine HT.out.mono ?_
      rintro e w3 ⟨rfl, hb3⟩
      have hs3 := hb3.size
      have HWR2 := hide (g_WriteString _ _ pre (59 :: 32 :: textL z) w3 (hbu.out.below hb3) HPL2.out (by omega))
      have hbl3 := hbel.trans (hb3.mono (by omega))
      clear hb3
      go_wp2_with fail
      refine HWR2.out.mono ?_
      rintro e w4 ⟨r4, rfl, hbu4, hb4⟩
      have HB4 := hide hbu4
      clear hbu4
      go_wp2_with fail
      go_roundw
      case rel => exact ⟨k + 1, _, by omega, by go_num, HF.out, HPL.out, HB4.out, hbl3.trans hb4⟩
      case measure => simp [intOf]; omega
    · obtain rfl : k = ps.length := by omega
      have HF := hide (show cnfL ((nv : Int), ps.map (·.2)) = pre by rw [hr.out, List.drop_length]; simp [tailC])
      have HS := hide (g_String _ _ pre wr hbu.out (by omega))
      go_wp2_with fail
      refine HS.out.mono ?_
      rintro e w5 ⟨rfl, hb5⟩
      go_wp2_with fail
      go_ret
      exact ⟨by rw [HF.out]; rfl, halr.trans (hb5.mono (by omega))⟩

set_option maxHeartbeats 400000 in
theorem I_CnfText {hi : Nat} (v : Value) (f : CnfL) (r0 : ByteArray) (r1 : Bool) (w : World) (hP : Pow w) (h : RCnf hi w v f) (hn0 : szC f ≤ 1048576) (hR : fCnfText f = (r0, r1)) :
    Calls Tryd.prog 36 #[v] w fun e w' => e = .returned (.tuple #[.string r0, .bool r1]) ∧ Below w.heap.size w w' := by
  obtain ⟨A, n, c, rfl, ht⟩ := h.openN
  obtain ⟨vars, t⟩ := f
  dsimp only at ht ⊢
  obtain ⟨wb, hwb⟩ : ∃ wb, wb = w.alloc (.cells #[.int .i64 vars, .slice A n c] 49) := ⟨_, rfl⟩
  have hal : Below w.heap.size w wb := by rw [hwb]; exact (Below.refl _ _).alloc (Nat.le_refl _) _
  have x00 : wb.cell? ⟨w.heap.size, 0, none⟩ = some (.int .i64 vars) := by rw [hwb]; simp
  have x01 : wb.cell? ⟨w.heap.size, 1, none⟩ = some (.slice A n c) := by rw [hwb]; simp
  have htb := ht.top.below hal
  have HWB := hide hwb
  have HP := hide (hP.below hal)
  clear hwb hP
  cases hg : goodB (vars, t) with
  | false =>
    obtain ⟨rfl, rfl⟩ : r0 = ByteArray.mk #[] ∧ r1 = false := by simpa [fCnfText, hg, eq_comm] using hR
    clear hR
    go_enter Tryd.func36, Tryd.ntmps36
    go_wp2_with fail
    rw [← HWB.out]
    refine (i_IsCnf _ (vars, t) _ ⟨_, rfl, htb⟩).mono ?_
    rintro e w1 ⟨rfl, hb1⟩
    rw [hg]
    go_wp2_with fail
    go_ret2
    exact ⟨rfl, hal.trans (hb1.mono hal.size)⟩
  | true =>
    obtain ⟨rfl, rfl⟩ : r0 = bs (cnfL (vars, t)) ∧ r1 = true := by simpa [fCnfText, hg, eq_comm] using hR
    clear hR
    go_enter Tryd.func36, Tryd.ntmps36
    go_wp2_with fail
    rw [← HWB.out]
    refine (i_IsCnf _ (vars, t) _ ⟨_, rfl, htb⟩).mono ?_
    rintro e w1 ⟨rfl, hb1⟩
    rw [hg]
    replace x00 := below_old hb1 _ _ x00
    replace x01 := below_old hb1 _ _ x01
    have hal1 := hal.trans (hb1.mono hal.size)
    have HT := hide (i_cnfText (.agg #[.int .i64 vars, .slice A n c]) (vars, t) w1 ⟨_, rfl, htb.below hb1⟩ hg (HP.out.below hb1))
    go_wp2_with fail
    refine HT.out.mono ?_
    rintro e w2 ⟨rfl, hb2⟩
    go_wp2_with fail
    go_ret2
    exact ⟨rfl, hal1.trans (hb2.mono hal1.size)⟩

set_option maxHeartbeats 400000 in
theorem S_CnfText {hi : Nat} (v : Value) (f : CnfL) (r0 : ByteArray) (r1 : Bool) (w : World) (h : RCnf hi w v f) (hn0 : szC f ≤ 1048576) (hR : fCnfText f = (r0, r1)) :
    Calls Tryd.prog 34 #[v] w fun e w' => e = .returned (.tuple #[.string r0, .bool r1]) ∧ Below w.heap.size w w' := by
  obtain ⟨A, n, c, rfl, ht⟩ := h.openN
  obtain ⟨vars, t⟩ := f
  dsimp only at ht ⊢
  obtain ⟨wb, hwb⟩ : ∃ wb, wb = w.alloc (.cells #[.int .i64 vars, .slice A n c] 49) := ⟨_, rfl⟩
  have hal : Below w.heap.size w wb := by rw [hwb]; exact (Below.refl _ _).alloc (Nat.le_refl _) _
  have x00 : wb.cell? ⟨w.heap.size, 0, none⟩ = some (.int .i64 vars) := by rw [hwb]; simp
  have x01 : wb.cell? ⟨w.heap.size, 1, none⟩ = some (.slice A n c) := by rw [hwb]; simp
  have htb := ht.top.below hal
  have HWB := hide hwb
  clear hwb
  cases hg : goodB (vars, t) with
  | false =>
    obtain ⟨rfl, rfl⟩ : r0 = ByteArray.mk #[] ∧ r1 = false := by simpa [fCnfText, hg, eq_comm] using hR
    clear hR
    go_enter Tryd.func34, Tryd.ntmps34
    go_wp2_with fail
    rw [← HWB.out]
    refine (s_l2Good _ (vars, t) _ ⟨_, rfl, htb⟩).mono ?_
    rintro e w1 ⟨rfl, hb1⟩
    rw [hg]
    go_wp2_with fail
    go_ret2
    exact ⟨rfl, hal.trans (hb1.mono hal.size)⟩
  | true =>
    obtain ⟨rfl, rfl⟩ : r0 = bs (cnfL (vars, t)) ∧ r1 = true := by simpa [fCnfText, hg, eq_comm] using hR
    clear hR
    go_enter Tryd.func34, Tryd.ntmps34
    go_wp2_with fail
    rw [← HWB.out]
    refine (s_l2Good _ (vars, t) _ ⟨_, rfl, htb⟩).mono ?_
    rintro e w1 ⟨rfl, hb1⟩
    rw [hg]
    replace x00 := below_old hb1 _ _ x00
    replace x01 := below_old hb1 _ _ x01
    have hal1 := hal.trans (hb1.mono hal.size)
    have HT := hide (s_l2TextOf (.agg #[.int .i64 vars, .slice A n c]) (vars, t) w1 ⟨_, rfl, htb.below hb1⟩ hg)
    go_wp2_with fail
    refine HT.out.mono ?_
    rintro e w2 ⟨rfl, hb2⟩
    go_wp2_with fail
    go_ret2
    exact ⟨rfl, hal1.trans (hb2.mono hal1.size)⟩

end Go.Proofs.YtmepficbmgjpoaaDoor
