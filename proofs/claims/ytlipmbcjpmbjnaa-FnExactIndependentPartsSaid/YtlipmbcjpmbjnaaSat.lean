/- The walks: satisfiable, CountCnfModels, FirstModel, AllModels and what the law asks of them. -/
import Derived.Test.YtlipmbcjpmbjnaaModels
namespace Go.Proofs.Ytlipmbcjpmbjnaa
open Go.RowKit
set_option linter.unusedVariables false

theorem i_sat1 (b : Int) (B : Nat) (x : Value) (w : World) (hc : w.cell? ⟨B, 0, none⟩ = some x) (hf : w.frozen? ⟨B, 0, none⟩ = false) :
    Calls Try.prog 131 #[.int .i64 b, .pointer (some ⟨B, 0, none⟩)] w fun e w' => e = .returned (.bool false) ∧ w.setCell ⟨B, 0, none⟩ (.bool true) = w' := by
  go_enter Try.func131, Try.ntmps131
  go_wp2_with fail
  go_ret
  exact ⟨rfl, rfl⟩

set_option maxRecDepth 100000 in
set_option maxHeartbeats 800000 in
theorem i_satisfiable {hi : Nat} (n : Nat) (cv : Value) (t : List (List Int)) (w : World) (ht : Tab hi w cv t) (hn : n ≤ 12) (hs : ∀ c ∈ t, ∀ l ∈ c, l ≠ 0 ∧ -12 ≤ l ∧ l ≤ 12) :
    Calls Try.prog 98 #[.int .i64 n, cv] w fun e w' => e = .returned (.bool (satB (n, t))) ∧ Below w.heap.size w w' := by
  have eg := Go.Proofs.enters_of Try.func131 (by kernel_rfl) rfl
  obtain ⟨A, c, ps, hcv, -, -, -, -, -⟩ := ht.open_
  obtain ⟨m, hm⟩ : ∃ m, ps.length = m := ⟨_, rfl⟩
  rw [hm] at hcv
  clear hm
  subst hcv
  have ht0 := ht.top
  have hal : Below w.heap.size w (w.alloc (.cells #[.bool false] 4)) := (Below.refl _ _).alloc (Nat.le_refl _) _
  have ht1 := ht0.below hal
  have hblk : Blk (w.alloc (.cells #[.bool false] 4)) w.heap.size 4 #[.bool false] := Blk.new w 4 #[.bool false]
  have HM := hide (show satB ((n : Int), t) = !(modelsL t (rangeFrom 0 (2 ^ n))).isEmpty by unfold satB modelsF; simp)
  have HT := hide ht1
  have HB := hide hblk
  have HS := hide hs
  clear hs ht1 hblk ht ht0
  go_enter Try.func98, Try.ntmps98
  go_wp2_with fail
  obtain ⟨wa, hwa⟩ : ∃ wa, wa = w.alloc (.cells #[.bool false] 4) := ⟨_, rfl⟩
  rw [← hwa] at hal HT HB ⊢
  have hI0 : Cap wa w.heap.size 4 (.cells #[.int .i64 n, .slice A m c] 29) (.bool false) (wa.alloc (.cells #[.int .i64 n, .slice A m c] 29)) := Cap.start HB.out
  have hp : ∀ (k : Nat) s W, Cap wa w.heap.size 4 (.cells #[.int .i64 n, .slice A m c] 29) (.bool s) W → W.cell? ⟨wa.heap.size, 0, none⟩ = some (.int .i64 n) ∧ W.cell? ⟨wa.heap.size, 1, none⟩ = some (.slice A m c) ∧ Tab w.heap.size W (.slice A m c) t := (fun k s W h => ⟨h.box0, h.box1, HT.out.under h.2.1 (Nat.le_refl _)⟩)
  have hst : ∀ s W (b : Nat), Cap wa w.heap.size 4 (.cells #[.int .i64 n, .slice A m c] 29) (.bool s) W → b ≤ 4096 → Calls Try.prog 131 (#[.int .i64 b] ++ #[.pointer (some ⟨w.heap.size, 0, none⟩)]) W fun e w' => e = .returned (.bool false) ∧ Cap wa w.heap.size 4 (.cells #[.int .i64 n, .slice A m c] 29) (.bool true) w' := (fun s W b h _ => (i_sat1 b _ _ W h.cell h.frozen).mono fun e w' ⟨he, hw⟩ => ⟨he, by rw [← hw]; exact h.set_ _⟩)
  have key := i_models (.slice A m c) n t 131 #[.pointer (some ⟨w.heap.size, 0, none⟩)] wa false (fun (_ : Nat) s W => Cap wa w.heap.size 4 (.cells #[.int .i64 n, .slice A m c] 29) (.bool s) W) (fun _ _ => true) (fun _ _ => false) hn HS.out eg hI0 hp (fun k s W W' h hb => h.stab hb) (fun k s W h => h) hst
  refine key.mono ?_
  rintro e w1 ⟨rfl, _, hI⟩
  rw [runM_found] at hI
  have hc := hI.cell
  have hbel := hal.trans hI.2.1
  go_wp2_with fail
  go_ret
  exact ⟨by rw [HM.out]; rfl, hbel⟩

theorem runM_bound (t : List (List Int)) : ∀ (l : List Nat) (s : Nat), s ≤ runM t (fun s _ => s + 1) (fun _ _ => true) l s
  | [], s => Nat.le_refl _
  | b :: r, s => by
    cases h : allB (b : Int) t with
    | true => rw [runM_on h rfl]; have := runM_bound t r (s + 1); omega
    | false => rw [runM_no h]; exact runM_bound t r s

/-- in the search for the number of models the count stays small -/
def fCountCnfModels (f : CnfL) : Int × Bool := if goodB f then (((modelsF f).length : Nat), true) else (0, false)
def fFirstModel (f : CnfL) : Int × Bool := if goodB f then (if decide (firstF f < 0) then (0, false) else (firstF f, true)) else (0, false)
def fIsSatisfiable (f : CnfL) : Bool × Bool := if goodB f then (satB f, true) else (false, false)
def fAllModels (f : CnfL) : List Int × Bool := if goodB f then (if decide ((modelsF f).length ≤ 300) then ((modelsF f).map fun (k : Nat) => (k : Int), true) else ([], false)) else ([], false)

end Go.Proofs.Ytlipmbcjpmbjnaa
