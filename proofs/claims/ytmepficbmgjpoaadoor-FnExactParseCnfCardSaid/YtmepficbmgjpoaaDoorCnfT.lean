/- The walks of the texts of formulas; the contracts of CnfText. -/
import Derived.Test.YtmepficbmgjpoaaDoorTxtI
import Derived.Test.YtmepficbmgjpoaaDoorCnf
import Derived.Test.YtmepficbmgjpoaaDoorPl2
namespace Go.Proofs.YtmepficbmgjpoaaDoor
open Go.RowKit
set_option linter.unusedVariables false

theorem below_stpN {w W w' : World} (h : Below w.heap.size w W) (hb : Below W.heap.size W w') : Below w.heap.size w w' := h.trans (hb.mono h.size)
theorem cntC_leN (f : CnfL) : cntC f ≤ szC f := by unfold cntC szC; omega
theorem below_drewA (w : World) : Below w.heap.size w w.drew := ⟨rfl, rfl, rfl, Nat.le_refl _, fun _ _ => rfl⟩
theorem FCnf.openN {lo hi : Nat} {w : World} {v : Value} {f : CnfL} (h : FCnf lo hi w v f) : ∃ A n c, v = .agg #[.int .i64 f.1, .slice A n c] ∧ FTab lo hi w (.slice A n c) f.2 := by
  obtain ⟨cv, rfl, ht⟩ := h
  obtain ⟨A, c, ps, hcv, -⟩ := id ht.open_
  exact ⟨A, ps.length, c, by rw [hcv], by rw [← hcv]; exact ht⟩
theorem RCnf.openN {hi : Nat} {w : World} {v : Value} {f : CnfL} (h : RCnf hi w v f) : ∃ A n c, v = .agg #[.int .i64 f.1, .slice A n c] ∧ Tab hi w (.slice A n c) f.2 := by
  obtain ⟨cv, rfl, ht⟩ := h
  obtain ⟨A, c, ps, hcv, -⟩ := id ht.open_
  exact ⟨A, ps.length, c, by rw [hcv], by rw [← hcv]; exact ht⟩
def tailC (t : List (List Int)) : List UInt8 := t.flatMap fun c => 59 :: 32 :: textL c
def cnfL (f : CnfL) : List UInt8 := Lib.itoa f.1 ++ tailC f.2
def fCnfText (f : CnfL) : ByteArray × Bool := if goodB f then (bs (cnfL f), true) else (ByteArray.mk #[], false)
theorem textL_len (c : List Int) (h : ∀ l ∈ c, -12 ≤ l ∧ l ≤ 12) (hn : c.length ≤ 12) : (textL c).length ≤ 200 := by
  cases c with
  | nil => simp [textL]
  | cons x r =>
    have e1 := itoa_le x (h x (by simp))
    have e2 := tailL_len r fun l hl => h l (by simp [hl])
    rw [List.length_cons] at hn
    simp only [textL, List.length_append]
    omega

set_option maxHeartbeats 1600000 in
theorem s_l2TextOf {hi : Nat} (v : Value) (f : CnfL) (w : World) (h : RCnf hi w v f) (hg : goodB f = true) :
    Calls Tryd.prog 65 #[v] w fun e w' => e = .returned (.string (bs (cnfL f))) ∧ Below w.heap.size w w' := by
  obtain ⟨A, n, c, rfl, ht⟩ := h.openN
  obtain ⟨vars, t⟩ := f
  dsimp only at ht ⊢
  obtain ⟨nv, hv, hn⟩ := varsB_nat (goodB_parts hg).1
  dsimp only at hv
  subst hv
  have HSM := hide (goodB_small hg)
  have HCL := hide (show ∀ z ∈ t, z.length ≤ 12 from fun z hz => clauseB_len ((goodB_parts hg).2.2 z hz))
  have HTL := hide (show t.length ≤ 60 from (goodB_parts hg).2.1)
  obtain ⟨wb, hwb⟩ : ∃ wb, wb = w.alloc (.cells #[.int .i64 nv, .slice A n c] 49) := ⟨_, rfl⟩
  have hal : Below w.heap.size w wb := by rw [hwb]; exact (Below.refl _ _).alloc (Nat.le_refl _) _
  have x00 : wb.cell? ⟨w.heap.size, 0, none⟩ = some (.int .i64 nv) := by rw [hwb]; simp
  have x01 : wb.cell? ⟨w.heap.size, 1, none⟩ = some (.slice A n c) := by rw [hwb]; simp
  have htb := ht.top.below hal
  obtain ⟨A', c', ps, e', hc, hm, rfl, hrow, hps⟩ := htb.open_
  injection e' with e1 e2 e3
  subst e1 e2 e3
  unfold maxLen at hm
  have HPS := hide hps
  have HWB := hide hwb
  have HN := hide (s_l1Num (nv : Int) wb (by omega))
  have HI := hide (itoa_le (nv : Int) (by omega))
  clear hwb hps htb hg
  go_enter Tryd.func65, Tryd.ntmps65
  go_wp2_with fail
  rw [← HWB.out]
  refine HN.out.mono ?_
  rintro e w1 ⟨rfl, hq1⟩
  have HQ1 := hide hq1
  rw [← hq1.cell] at x00 x01
  clear hq1
  go_wp2_with fail
  go_loopw [3, 4] (fun q i wr => ∃ (k : Nat) (pre : List UInt8), k ≤ ps.length ∧ i = .int .i64 k ∧ q = .string (bs pre) ∧ Hid (cnfL ((nv : Int), ps.map (·.2)) = pre ++ tailC ((ps.drop k).map (·.2))) ∧ pre.length ≤ 14 + 202 * k ∧ Quiet w1 wr) (fun _ i _ => ps.length - (intOf i).toNat)
  case atStart => exact ⟨0, Lib.itoa (nv : Int), Nat.zero_le _, rfl, rfl, rfl, by have := HI.out; omega, Quiet.refl _⟩
  case round =>
    obtain ⟨k, pre, hk, rfl, rfl, hr, hpl, hq⟩ := hrel
    have y00 := x00
    have y01 := x01
    rw [← hq.cell] at y00 y01
    by_cases hlt : k < ps.length
    · obtain ⟨b, off, u, z, rfl, hx, hcw, hz⟩ := hrow.tab HPS.out hlt
      have hqq := HQ1.out.trans hq
      rw [← hqq.cell] at hcw
      have hmem : z ∈ ps.map (·.2) := by
        have : z ∈ (ps.drop k).map (·.2) := by rw [hx]; simp
        obtain ⟨p, hp, rfl⟩ := List.mem_map.1 this
        exact List.mem_map.2 ⟨p, List.mem_of_mem_drop hp, rfl⟩
      obtain ⟨Az, cz, rfl, -⟩ := id hz
      have hzl := HCL.out z hmem
      have hzs := fun l hl => (HSM.out z hmem l hl).2
      have HT := hide (s_l2Text (.slice Az z.length cz) z wr (hz.below (hqq.below _)) hzs hzl)
      have hyl := textL_len z hzs hzl
      have hkt : k < 60 := by have := HTL.out; simp at this; omega
      obtain ⟨t2, ht2⟩ : ∃ t2, bs pre ++ ByteArray.mk #[59, 32] = t2 := ⟨_, rfl⟩
      have htz : t2.size = pre.length + 2 := by rw [← ht2, ByteArray.size_append, bs_size]; rfl
      have hsz1 : ¬ (9223372036854775807 < (bs pre).size + (ByteArray.mk #[59, 32]).size) := by rw [bs_size, show (ByteArray.mk #[59, 32]).size = 2 from rfl]; omega
      have hsz2 : ¬ (9223372036854775807 < t2.size + (bs (textL z)).size) := by rw [bs_size]; omega
      have htu : t2 ++ bs (textL z) = bs (pre ++ 59 :: 32 :: textL z) := by
        rw [← ht2, show pre ++ 59 :: 32 :: textL z = (pre ++ [59, 32]) ++ textL z by simp, ← bs_append, ← bs_append]; rfl
      have HF := hide (show cnfL ((nv : Int), ps.map (·.2)) = (pre ++ 59 :: 32 :: textL z) ++ tailC ((ps.drop (k + 1)).map (·.2)) by rw [hr.out, hx]; simp [tailC])
      have HPL := hide (show (pre ++ 59 :: 32 :: textL z).length ≤ 14 + 202 * (k + 1) by simp; omega)
      clear hx hr htz hyl hmem hz
      go_wp2_with fail
      refine HT.out.mono ?_
      rintro e w2 ⟨rfl, hq2⟩
      go_wp2_with fail
      go_roundw
      case rel => exact ⟨k + 1, _, by omega, by go_num, rfl, HF.out, HPL.out, hq.trans hq2⟩
      case measure => simp [intOf]; omega
    · obtain rfl : k = ps.length := by omega
      have HF := hide (show cnfL ((nv : Int), ps.map (·.2)) = pre by rw [hr.out, List.drop_length]; simp [tailC])
      go_wp2_with fail
      go_ret
      have hqq := HQ1.out.trans hq
      exact ⟨by rw [HF.out]; rfl, hal.trans (hqq.below _)⟩

theorem builder_below {T e : TypeId} {B b : Nat} {l : List Value} {w w' : World} (h : Lib.IsBuilder T e B b l w) (hb : Below w.heap.size w w') : Lib.IsBuilder T e B b l w' := by
  have go : ∀ p, Lib.BuilderAt T e B b p l w → Lib.BuilderAt T e B b p l w' := fun p h => by
    have hlt := h.lt
    obtain ⟨h1, v, h2, h3, h4⟩ := h
    exact ⟨h1, v, by rw [hb.block b hlt]; exact h2, ownsRow_below h3 hb, h4⟩
  rcases h with h | h
  · exact .inl (go _ h)
  · exact .inr (go _ h)
theorem strCells_bs (l : List UInt8) : Lib.strCells (bs l) = Lib.byteCells l := by
  simp [Lib.strCells, Lib.byteCells, bs]

end Go.Proofs.YtmepficbmgjpoaaDoor
