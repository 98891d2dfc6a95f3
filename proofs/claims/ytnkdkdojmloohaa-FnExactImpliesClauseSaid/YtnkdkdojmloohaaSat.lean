/- The walks: satisfiable, CountCnfModels, FirstModel, AllModels and what the law asks of them. -/
import Derived.Test.YtnkdkdojmloohaaModels
namespace Go.Proofs.Ytnkdkdojmloohaa
open Go.RowKit
set_option linter.unusedVariables false

theorem i_sat1 (b : Int) (B : Nat) (x : Value) (w : World) (hc : w.cell? ⟨B, 0, none⟩ = some x) (hf : w.frozen? ⟨B, 0, none⟩ = false) :
    Calls Try.prog 99 #[.int .i64 b, .pointer (some ⟨B, 0, none⟩)] w fun e w' => e = .returned (.bool false) ∧ w.setCell ⟨B, 0, none⟩ (.bool true) = w' := by
  go_enter Try.func99, Try.ntmps99
  go_wp2_with fail
  go_ret
  exact ⟨rfl, rfl⟩

set_option maxRecDepth 100000 in
set_option maxHeartbeats 800000 in
theorem i_satisfiable {hi : Nat} (n : Nat) (cv : Value) (t : List (List Int)) (w : World) (ht : Tab hi w cv t) (hn : n ≤ 12) (hs : ∀ c ∈ t, ∀ l ∈ c, l ≠ 0 ∧ -12 ≤ l ∧ l ≤ 12) :
    Calls Try.prog 66 #[.int .i64 n, cv] w fun e w' => e = .returned (.bool (satB (n, t))) ∧ Below w.heap.size w w' := by
  have eg := Go.Proofs.enters_of Try.func99 (by kernel_rfl) rfl
  obtain ⟨A, c, ps, hcv, -, -, -, -, -⟩ := ht.open_
  obtain ⟨m, hm⟩ : ∃ m, ps.length = m := ⟨_, rfl⟩
  rw [hm] at hcv
  clear hm
  subst hcv
  have ht0 := ht.top
  have hal : Below w.heap.size w (w.alloc (.cells #[.bool false] 4)) := (Below.refl _ _).alloc (Nat.le_refl _) _
  have ht1 := ht0.below hal
  have hblk : Blk (w.alloc (.cells #[.bool false] 4)) w.heap.size 4 #[.bool false] := Blk.new w 4 #[.bool false]
  have HM := hide (show satB ((n : Int), t) = !(modelsL t (rangeFrom 0 (2 ^ n))).isEmpty by unfold satB modelsF; simp)
  have HT := hide ht1
  have HB := hide hblk
  have HS := hide hs
  clear hs ht1 hblk ht ht0
  go_enter Try.func66, Try.ntmps66
  go_wp2_with fail
  obtain ⟨wa, hwa⟩ : ∃ wa, wa = w.alloc (.cells #[.bool false] 4) := ⟨_, rfl⟩
  rw [← hwa] at hal HT HB ⊢
  have hI0 : Cap wa w.heap.size 4 (.cells #[.int .i64 n, .slice A m c] 27) (.bool false) (wa.alloc (.cells #[.int .i64 n, .slice A m c] 27)) := Cap.start HB.out
  have hp : ∀ (k : Nat) s W, Cap wa w.heap.size 4 (.cells #[.int .i64 n, .slice A m c] 27) (.bool s) W → W.cell? ⟨wa.heap.size, 0, none⟩ = some (.int .i64 n) ∧ W.cell? ⟨wa.heap.size, 1, none⟩ = some (.slice A m c) ∧ Tab w.heap.size W (.slice A m c) t := (fun k s W h => ⟨h.box0, h.box1, HT.out.under h.2.1 (Nat.le_refl _)⟩)
  have hst : ∀ s W (b : Nat), Cap wa w.heap.size 4 (.cells #[.int .i64 n, .slice A m c] 27) (.bool s) W → b ≤ 4096 → Calls Try.prog 99 (#[.int .i64 b] ++ #[.pointer (some ⟨w.heap.size, 0, none⟩)]) W fun e w' => e = .returned (.bool false) ∧ Cap wa w.heap.size 4 (.cells #[.int .i64 n, .slice A m c] 27) (.bool true) w' := (fun s W b h _ => (i_sat1 b _ _ W h.cell h.frozen).mono fun e w' ⟨he, hw⟩ => ⟨he, by rw [← hw]; exact h.set_ _⟩)
  have key := i_models (.slice A m c) n t 99 #[.pointer (some ⟨w.heap.size, 0, none⟩)] wa false (fun (_ : Nat) s W => Cap wa w.heap.size 4 (.cells #[.int .i64 n, .slice A m c] 27) (.bool s) W) (fun _ _ => true) (fun _ _ => false) hn HS.out eg hI0 hp (fun k s W W' h hb => h.stab hb) (fun k s W h => h) hst
  refine key.mono ?_
  rintro e w1 ⟨rfl, _, hI⟩
  rw [runM_found] at hI
  have hc := hI.cell
  have hbel := hal.trans hI.2.1
  go_wp2_with fail
  go_ret
  exact ⟨by rw [HM.out]; rfl, hbel⟩

theorem i_count1 (b : Int) (m : Nat) (B : Nat) (w : World) (hc : w.cell? ⟨B, 0, none⟩ = some (.int .i64 m)) (hf : w.frozen? ⟨B, 0, none⟩ = false) (hm : m ≤ 1000000) :
    Calls Try.prog 64 #[.int .i64 b, .pointer (some ⟨B, 0, none⟩)] w fun e w' => e = .returned (.bool true) ∧ w.setCell ⟨B, 0, none⟩ (.int .i64 ((m + 1 : Nat) : Int)) = w' := by
  go_enter Try.func64, Try.ntmps64
  go_wp2_with fail
  go_ret
  exact ⟨rfl, by rw [show ((m + 1 : Nat) : Int) = (m : Int) + 1 from by omega]⟩

theorem i_first1 (b : Int) (B : Nat) (x : Value) (w : World) (hc : w.cell? ⟨B, 0, none⟩ = some x) (hf : w.frozen? ⟨B, 0, none⟩ = false) :
    Calls Try.prog 68 #[.int .i64 b, .pointer (some ⟨B, 0, none⟩)] w fun e w' => e = .returned (.bool false) ∧ w.setCell ⟨B, 0, none⟩ (.int .i64 b) = w' := by
  go_enter Try.func68, Try.ntmps68
  go_wp2_with fail
  go_ret
  exact ⟨rfl, rfl⟩

theorem runM_bound (t : List (List Int)) : ∀ (l : List Nat) (s : Nat), s ≤ runM t (fun s _ => s + 1) (fun _ _ => true) l s
  | [], s => Nat.le_refl _
  | b :: r, s => by
    cases h : allB (b : Int) t with
    | true => rw [runM_on h rfl]; have := runM_bound t r (s + 1); omega
    | false => rw [runM_no h]; exact runM_bound t r s

/-- in the search for the number of models the count stays small -/
def fCountCnfModels (f : CnfL) : Int × Bool := if goodB f then (((modelsF f).length : Nat), true) else (0, false)
def fFirstModel (f : CnfL) : Int × Bool := if goodB f then (if decide (firstF f < 0) then (0, false) else (firstF f, true)) else (0, false)
def fIsSatisfiable (f : CnfL) : Bool × Bool := if goodB f then (satB f, true) else (false, false)
def fAllModels (f : CnfL) : List Int × Bool := if goodB f then (if decide ((modelsF f).length ≤ 300) then ((modelsF f).map fun (k : Nat) => (k : Int), true) else ([], false)) else ([], false)

set_option maxRecDepth 100000 in
set_option maxHeartbeats 800000 in
theorem I_CountCnfModels {hi : Nat} (v : Value) (f : CnfL) (r0 : Int) (r1 : Bool) (w : World) (h : RCnf hi w v f) (hn0 : szC f ≤ 1048576) (hR : fCountCnfModels f = (r0, r1)) :
    Calls Try.prog 31 #[v] w fun e w' => e = .returned (.tuple #[.int .i64 r0, .bool r1]) ∧ Below w.heap.size w w' := by
  have eg := Go.Proofs.enters_of Try.func64 (by kernel_rfl) rfl
  obtain ⟨cv, rfl, ht⟩ := h
  obtain ⟨vars, t⟩ := f
  dsimp only at ht ⊢
  obtain ⟨A, c, ps, hcv, -, -, -, -, -⟩ := ht.open_
  obtain ⟨m, hm⟩ : ∃ m, ps.length = m := ⟨_, rfl⟩
  rw [hm] at hcv
  clear hm
  subst hcv
  have hal : Below w.heap.size w (w.alloc (.cells #[.int .i64 vars, .slice A m c] 27)) := (Below.refl _ _).alloc (Nat.le_refl _) _
  have htb := ht.top.below hal
  cases hg : goodB (vars, t) with
  | false =>
    obtain ⟨rfl, rfl⟩ : r0 = 0 ∧ r1 = false := by simpa [fCountCnfModels, hg, eq_comm] using hR
    clear hR
    go_enter Try.func31, Try.ntmps31
    go_wp2_with (go_at_call 18; refine (i_IsCnf _ (vars, t) _ ⟨_, rfl, htb⟩).mono ?_; rintro e w1 ⟨rfl, hb1⟩)
    go_ret2
    exact ⟨rfl, (box2 hb1).2.2.1⟩
  | true =>
    have HS := hide (goodB_small hg)
    obtain ⟨n, hv, hn⟩ := varsB_nat (goodB_parts hg).1
    dsimp only at HS hv
    subst hv
    obtain ⟨hr0, rfl⟩ : r0 = ((modelsF ((n : Int), t)).length : Nat) ∧ r1 = true := by simpa [fCountCnfModels, hg, eq_comm] using hR
    have HM := hide (show modelsF ((n : Int), t) = modelsL t (rangeFrom 0 (2 ^ n)) by unfold modelsF; simp)
    have HR := hide hr0
    clear hR hr0
    go_enter Try.func31, Try.ntmps31
    go_wp2_with (go_at_call 18; refine (i_IsCnf _ ((n : Int), t) _ ⟨_, rfl, htb⟩).mono ?_; rintro e w1 ⟨rfl, hb1⟩; obtain ⟨c0, c1, hbw, hsz⟩ := box2 hb1; have ht1 := htb.below hb1; have hne : ¬(w.heap.size = w1.heap.size) := (by omega); have hal1 : Below w1.heap.size w1 (w1.alloc (.cells #[.int .i64 0] 3)) := (Below.refl w1.heap.size w1).alloc (Nat.le_refl _) _; have c0a := below_old hal1 _ _ c0; have c1a := below_old hal1 _ _ c1)
    obtain ⟨wa, hwa⟩ : ∃ wa, wa = w1.alloc (.cells #[.int .i64 0] 3) := ⟨_, rfl⟩
    have hblk : Blk wa w1.heap.size 3 #[.int .i64 ((0 : Nat) : Int)] := by rw [hwa]; exact Blk.new w1 3 #[.int .i64 0]
    have hba : Below w1.heap.size w1 wa := by rw [hwa]; exact (Below.refl w1.heap.size w1).alloc (Nat.le_refl _) (.cells #[.int .i64 0] 3)
    have ht2 := ht1.below hba
    rw [← hwa]
    have hI0 : 0 ≤ 0 ∧ Cap wa w1.heap.size 3 (.cells #[.int .i64 n, .slice A m c] 27) (.int .i64 ((0 : Nat) : Int)) (wa.alloc (.cells #[.int .i64 n, .slice A m c] 27)) := ⟨Nat.le_refl _, Cap.start hblk⟩
    have hp : ∀ (k s : Nat) W, s ≤ k ∧ Cap wa w1.heap.size 3 (.cells #[.int .i64 n, .slice A m c] 27) (.int .i64 (s : Int)) W → W.cell? ⟨wa.heap.size, 0, none⟩ = some (.int .i64 n) ∧ W.cell? ⟨wa.heap.size, 1, none⟩ = some (.slice A m c) ∧ Tab w.heap.size W (.slice A m c) t := (fun k s W h => ⟨h.2.box0, h.2.box1, ht2.under h.2.2.1 (by omega)⟩)
    have hst : ∀ (s : Nat) W (b : Nat), s ≤ b ∧ Cap wa w1.heap.size 3 (.cells #[.int .i64 n, .slice A m c] 27) (.int .i64 (s : Int)) W → b ≤ 4096 → Calls Try.prog 64 (#[.int .i64 b] ++ #[.pointer (some ⟨w1.heap.size, 0, none⟩)]) W fun e w' => e = .returned (.bool true) ∧ (s + 1 ≤ b + 1 ∧ Cap wa w1.heap.size 3 (.cells #[.int .i64 n, .slice A m c] 27) (.int .i64 ((s + 1 : Nat) : Int)) w') := (fun s W b h hb4 => (i_count1 b s _ W h.2.cell h.2.frozen (Nat.le_trans h.1 (Nat.le_trans hb4 (by omega)))).mono fun e w' ⟨he, hw⟩ => ⟨he, Nat.succ_le_succ h.1, by rw [← hw]; exact h.2.set_ _⟩)
    have key := i_models (.slice A m c) n t 64 #[.pointer (some ⟨w1.heap.size, 0, none⟩)] wa (0 : Nat) (fun (k s : Nat) W => s ≤ k ∧ Cap wa w1.heap.size 3 (.cells #[.int .i64 n, .slice A m c] 27) (.int .i64 (s : Int)) W) (fun s _ => s + 1) (fun _ _ => true) hn HS.out eg hI0 hp (fun k s W W' h hb => ⟨h.1, h.2.stab hb⟩) (fun k s W h => ⟨Nat.le_succ_of_le h.1, h.2⟩) hst
    refine key.mono ?_
    rintro e w2 ⟨rfl, _, _, hI⟩
    rw [runM_count] at hI
    have hc := hI.cell
    have hbel := hbw.trans ((hba.trans hI.2.1).mono (by omega))
    go_wp2_with fail
    go_ret2
    exact ⟨by rw [HR.out, HM.out]; simp, hbel⟩

end Go.Proofs.Ytnkdkdojmloohaa
