/- The contracts of the exported functions, in the form that the laws' walks take: formulas and their models. -/
import Derived.Test.YtkmkdfogpdndoaaSat
namespace Go.Proofs.Ytkmkdfogpdndoaa
open Go.RowKit
set_option linter.unusedVariables false

theorem cntC_le (f : CnfL) : cntC f ≤ szC f := by unfold cntC szC; omega

theorem RCnf.open2 {hi : Nat} {w : World} {v : Value} {f : CnfL} (h : RCnf hi w v f) : ∃ A n c, v = .agg #[.int .i64 f.1, .slice A n c] ∧ Tab hi w (.slice A n c) f.2 := by
  obtain ⟨cv, rfl, ht⟩ := h
  obtain ⟨A, c, ps, hcv, -⟩ := id ht.open_
  exact ⟨A, ps.length, c, by rw [hcv], by rw [← hcv]; exact ht⟩

theorem chg_old {lo hi : Nat} {w w' : World} {p : Addr} {u : Value} (hc : Chg lo hi w w') (h : w.cell? p = some u) (hl : p.block < lo ∨ hi ≤ p.block) : w'.cell? p = some u :=
  (World.cell?_of_block (w := w) (hc.block p.block (World.block_lt_of_cell? _ _ h) (by omega))).trans h

theorem FCnf.open2 {lo hi : Nat} {w : World} {v : Value} {f : CnfL} (h : FCnf lo hi w v f) : ∃ A n c, v = .agg #[.int .i64 f.1, .slice A n c] ∧ FTab lo hi w (.slice A n c) f.2 := by
  obtain ⟨cv, rfl, ht⟩ := h
  obtain ⟨A, c, ps, hcv, -⟩ := id ht.open_
  exact ⟨A, ps.length, c, by rw [hcv], by rw [← hcv]; exact ht⟩

theorem below_drew (w : World) : Below w.heap.size w w.drew := ⟨rfl, rfl, rfl, Nat.le_refl _, fun _ _ => rfl⟩

def fIsCnf (f : CnfL) : Bool := goodB f

theorem I_IsCnf {hi : Nat} (v : Value) (f : CnfL) (r0 : Bool) (w : World) (h : RCnf hi w v f) (hn0 : szC f ≤ 1048576) (hR : fIsCnf f = r0) :
    Calls Try.prog 52 #[v] w fun e w' => e = .returned (.bool r0) ∧ Below w.heap.size w w' :=
  (i_IsCnf v f w h).mono fun e w' ⟨he, hq⟩ => ⟨by rw [he, ← hR]; rfl, hq⟩

set_option maxRecDepth 100000 in
set_option maxHeartbeats 800000 in
theorem I_FirstModel {hi : Nat} (v : Value) (f : CnfL) (r0 : Int) (r1 : Bool) (w : World) (h : RCnf hi w v f) (hn0 : szC f ≤ 1048576) (hR : fFirstModel f = (r0, r1)) :
    Calls Try.prog 80 #[v] w fun e w' => e = .returned (.tuple #[.int .i64 r0, .bool r1]) ∧ Below w.heap.size w w' := by
  have eg := Go.Proofs.enters_of Try.func123 (by kernel_rfl) rfl
  obtain ⟨A, m, c, rfl, ht⟩ := h.open2
  obtain ⟨vars, t⟩ := f
  dsimp only at ht ⊢
  have hal : Below w.heap.size w (w.alloc (.cells #[.int .i64 vars, .slice A m c] 29)) := (Below.refl _ _).alloc (Nat.le_refl _) _
  have htb := ht.top.below hal
  cases hg : goodB (vars, t) with
  | false =>
    obtain ⟨rfl, rfl⟩ : r0 = 0 ∧ r1 = false := by simpa [fFirstModel, hg, eq_comm] using hR
    clear hR
    go_enter Try.func80, Try.ntmps80
    go_wp2_with (go_at_call 52; refine (i_IsCnf _ (vars, t) _ ⟨_, rfl, htb⟩).mono ?_; rintro e w1 ⟨rfl, hb1⟩)
    go_ret2
    exact ⟨rfl, (box2 hb1).2.2.1⟩
  | true =>
    have HS := hide (goodB_small hg)
    obtain ⟨n, hv, hn⟩ := varsB_nat (goodB_parts hg).1
    dsimp only at HS hv
    subst hv
    have HM := hide (show firstF ((n : Int), t) = firstL (modelsL t (rangeFrom 0 (2 ^ n))) by rw [firstF_eq]; unfold modelsF; simp)
    have HR := hide hR
    clear hR
    go_enter Try.func80, Try.ntmps80
    go_wp2_with (go_at_call 52; refine (i_IsCnf _ ((n : Int), t) _ ⟨_, rfl, htb⟩).mono ?_; rintro e w1 ⟨rfl, hb1⟩; obtain ⟨c0, c1, hbw, hsz⟩ := box2 hb1; have ht1 := htb.below hb1; have hne : ¬(w.heap.size = w1.heap.size) := (by omega); have hal1 : Below w1.heap.size w1 (w1.alloc (.cells #[.int .i64 (-1)] 3)) := (Below.refl w1.heap.size w1).alloc (Nat.le_refl _) _; have c0a := below_old hal1 _ _ c0; have c1a := below_old hal1 _ _ c1)
    obtain ⟨wa, hwa⟩ : ∃ wa, wa = w1.alloc (.cells #[.int .i64 (-1)] 3) := ⟨_, rfl⟩
    have hblk : Blk wa w1.heap.size 3 #[.int .i64 (-1)] := by rw [hwa]; exact Blk.new w1 3 #[.int .i64 (-1)]
    have hba : Below w1.heap.size w1 wa := by rw [hwa]; exact (Below.refl w1.heap.size w1).alloc (Nat.le_refl _) (.cells #[.int .i64 (-1)] 3)
    have ht2 := ht1.below hba
    rw [← hwa]
    clear hal1 c0a c1a
    have hI0 : Cap wa w1.heap.size 3 (.cells #[.int .i64 n, .slice A m c] 29) (.int .i64 (-1)) (wa.alloc (.cells #[.int .i64 n, .slice A m c] 29)) := Cap.start hblk
    have hp : ∀ (k : Nat) (s : Int) W, Cap wa w1.heap.size 3 (.cells #[.int .i64 n, .slice A m c] 29) (.int .i64 s) W → W.cell? ⟨wa.heap.size, 0, none⟩ = some (.int .i64 n) ∧ W.cell? ⟨wa.heap.size, 1, none⟩ = some (.slice A m c) ∧ Tab w.heap.size W (.slice A m c) t := (fun k s W h => ⟨h.box0, h.box1, ht2.under h.2.1 (by omega)⟩)
    have hst : ∀ (s : Int) W (b : Nat), Cap wa w1.heap.size 3 (.cells #[.int .i64 n, .slice A m c] 29) (.int .i64 s) W → b ≤ 4096 → Calls Try.prog 123 (#[.int .i64 b] ++ #[.pointer (some ⟨w1.heap.size, 0, none⟩)]) W fun e w' => e = .returned (.bool false) ∧ Cap wa w1.heap.size 3 (.cells #[.int .i64 n, .slice A m c] 29) (.int .i64 (b : Int)) w' := (fun s W b h hb4 => (i_first1 b _ _ W h.cell h.frozen).mono fun e w' ⟨he, hw⟩ => ⟨he, by rw [← hw]; exact h.set_ _⟩)
    have key := i_models (.slice A m c) n t 123 #[.pointer (some ⟨w1.heap.size, 0, none⟩)] wa (-1 : Int) (fun (k : Nat) (s : Int) W => Cap wa w1.heap.size 3 (.cells #[.int .i64 n, .slice A m c] 29) (.int .i64 s) W) (fun _ b => (b : Int)) (fun _ _ => false) hn HS.out eg hI0 hp (fun k s W W' h hb => h.stab hb) (fun k s W h => h) hst
    refine key.mono ?_
    rintro e w2 ⟨rfl, _, hI⟩
    rw [runM_first, ← HM.out] at hI
    have hc := hI.cell
    have hbel := hbw.trans ((hba.trans hI.2.1).mono (by omega))
    cases hf : decide (firstF ((n : Int), t) < 0) with
    | true =>
      have hR := HR.out
      obtain ⟨rfl, rfl⟩ : r0 = 0 ∧ r1 = false := by simpa [fFirstModel, hg, hf, eq_comm] using hR
      clear hR
      go_wp2_with fail
      go_ret2
      exact ⟨rfl, hbel⟩
    | false =>
      have hR := HR.out
      obtain ⟨hr0, rfl⟩ : r0 = firstF ((n : Int), t) ∧ r1 = true := by simpa [fFirstModel, hg, hf, eq_comm] using hR
      have HR0 := hide hr0
      clear hR hr0
      go_wp2_with fail
      go_ret2
      exact ⟨by rw [HR0.out]; rfl, hbel⟩

def fIsModel (f : CnfL) (bits : Int) : Bool × Bool := if goodB f then (if inB bits 0 ((2 : Int) ^ f.1.toNat - 1) then (allB bits f.2, true) else (false, false)) else (false, false)

end Go.Proofs.Ytkmkdfogpdndoaa
