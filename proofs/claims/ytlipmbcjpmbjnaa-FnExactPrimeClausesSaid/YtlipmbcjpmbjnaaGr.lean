/- The walks of the program's orders once more: they lay blocks and draw, and that is all (what the library's SortFunc asks of a compare). -/
import Derived.Test.YtlipmbcjpmbjnaaCmpC
import Derived.Shelf.SlSortCmp.NoneTotal
namespace Go.Proofs.Ytlipmbcjpmbjnaa
open Go.RowKit
set_option linter.unusedVariables false

/-- blocks laid and draws made: nothing else -/
def Gr (w w' : World) : Prop := ∃ q os, w' = Sort.grow (w.drewN q) os
theorem Gr.refl (w : World) : Gr w w := ⟨0, #[], by rw [Sort.grow_empty]; rfl⟩
theorem Gr.trans {a b c : World} (h : Gr a b) (h' : Gr b c) : Gr a c := by
  obtain ⟨q, os, rfl⟩ := h
  obtain ⟨q', os', rfl⟩ := h'
  refine ⟨q + q', os ++ os', ?_⟩
  rw [show (Sort.grow (a.drewN q) os).drewN q' = Sort.grow ((a.drewN q).drewN q') os from rfl, Sort.grow_grow, World.drewN_drewN]
theorem Gr.alloc (w : World) (o : Obj) : Gr w (w.alloc o) := ⟨0, #[o], by rw [Sort.alloc_eq_grow]; rfl⟩
theorem Gr.drew (w : World) : Gr w w.drew := ⟨1, #[], by rw [Sort.grow_empty]; rfl⟩
theorem Gr.drewN (w : World) (n : Nat) : Gr w (w.drewN n) := ⟨n, #[], by rw [Sort.grow_empty]⟩
theorem Gr.below {w w' : World} (h : Gr w w') : Below w.heap.size w w' := by
  obtain ⟨q, os, rfl⟩ := h
  exact ⟨rfl, rfl, rfl, by simp, fun k hk => Sort.heap_grow_old (w.drewN q) os (by simpa using hk)⟩

theorem i_compareLiteralsG (a b : Int) (w : World) : Calls Try.prog 57 #[.int .i64 a, .int .i64 b] w fun e w' => e = .returned (.int .i64 (litC a b)) ∧ Gr w w' := by
  have HL := hide (Ints.lit2 w (sgnI (absW a) (absW b)) (sgnI b a))
  have hal : ∀ o, Gr w (w.alloc o) := fun o => Gr.alloc w o
  go_enter Try.func57, Try.ntmps57
  go_wp2_with (first | (go_at_call 71; refine (i_abs _ _).mono ?_; rintro e w' ⟨rfl, rfl⟩) | (go_at_call 86; refine (g_Compare _ _ _).mono ?_; rintro e w' ⟨rfl, rfl⟩) | (go_at_call 85; refine (g_Or _ _ _ HL.out).mono ?_; rintro e w' ⟨rfl, rfl⟩))
  go_ret
  exact ⟨rfl, hal _⟩

set_option maxHeartbeats 800000 in
theorem g_CompareFuncG {hi hi' : Nat} (va vb : Value) (a b : List Int) (w : World) (h : Ints hi w va a) (h2 : Ints hi' w vb b) :
    Calls Try.prog 87 #[va, vb, .func (.func 57) #[] #[]] w fun e w' => e = .returned (.int .i64 (listC a b)) ∧ Gr w w' := by
  have eg := Go.Proofs.enters_of Try.func57 (by kernel_rfl) rfl
  obtain ⟨A, c, rfl, hc, hm, hrow⟩ := h
  obtain ⟨A2, c2, rfl, hc2, hm2, hrow2⟩ := h2
  unfold maxLen at hm hm2
  go_enter Try.func87, Try.ntmps87
  go_wp2_with fail
  go_loopw [13] (fun i wr => ∃ k : Nat, k ≤ a.length ∧ k ≤ b.length ∧ i = .int .i64 k ∧ Hid (listC a b = listC (a.drop k) (b.drop k)) ∧ Gr w wr) (fun i _ => a.length - (intOf i).toNat)
  case atStart => exact ⟨0, Nat.zero_le _, Nat.zero_le _, rfl, rfl, Gr.refl _⟩
  case round =>
    obtain ⟨k, hk, hk2, rfl, hr, hbel⟩ := hrel
    by_cases hlt : k < a.length
    · obtain ⟨b1, off, x, rfl, hx, hcw⟩ := hrow.int hlt
      replace hcw := below_old hbel.below _ _ hcw
      by_cases hlt2 : k < b.length
      · obtain ⟨b2, off2, y, rfl, hy, hcw2⟩ := hrow2.int hlt2
        replace hcw2 := below_old hbel.below _ _ hcw2
        obtain ⟨q, hq⟩ : ∃ q, litC x y = q := ⟨_, rfl⟩
        have HC := hide ((i_compareLiteralsG x y wr))
        by_cases h0 : q = 0
        · have HF := hide (show listC a b = listC (a.drop (k + 1)) (b.drop (k + 1)) by rw [hr.out, hx, hy]; simp [listC, hq, h0])
          subst h0
          have HQ := hide hq
          clear hx hy hq
          go_wp2_with (go_at_call 57; refine HC.out.mono ?_; rintro e w1 ⟨rfl, hb1⟩; rw [HQ.out])
          go_roundw
          case rel => exact ⟨k + 1, by omega, by omega, by go_num, HF.out, hbel.trans hb1⟩
          case measure => simp [intOf]; omega
        · have HF := hide (show listC a b = q by rw [hr.out, hx, hy]; simp [listC, hq, h0])
          have hb' : (q != 0) = true := by simpa using h0
          have HQ := hide hq
          clear hx hy hq
          go_wp2_with (go_at_call 57; refine HC.out.mono ?_; rintro e w1 ⟨rfl, hb1⟩; rw [HQ.out])
          go_ret
          exact ⟨by rw [HF.out]; rfl, hbel.trans hb1⟩
      · have HF := hide (show listC a b = 1 by rw [hr.out, hx, show b.drop k = [] from List.drop_eq_nil_of_le (by omega)]; rfl)
        clear hx
        go_wp2_with fail
        go_ret
        exact ⟨by rw [HF.out]; rfl, hbel⟩
    · obtain rfl : k = a.length := by omega
      by_cases hlt2 : a.length < b.length
      · have HF := hide (show listC a b = -1 by rw [hr.out]; exact listC_lt a b hlt2 _ rfl)
        go_wp2_with fail
        go_ret
        exact ⟨by rw [HF.out]; rfl, hbel⟩
      · have HF := hide (show listC a b = 0 by rw [hr.out, List.drop_length, show b.drop a.length = [] from List.drop_eq_nil_of_le (by omega)]; rfl)
        go_wp2_with fail
        go_ret
        exact ⟨by rw [HF.out]; rfl, hbel⟩

theorem i_compareClausesG {hi hi' : Nat} (va vb : Value) (a b : List Int) (w : World) (h : Ints hi w va a) (h2 : Ints hi' w vb b) :
    Calls Try.prog 49 #[va, vb] w fun e w' => e = .returned (.int .i64 (cmpC a b)) ∧ Gr w w' := by
  have HC := hide (g_CompareFuncG va vb a b w h h2)
  obtain ⟨A, c, rfl, -⟩ := h
  obtain ⟨A2, c2, rfl, -⟩ := h2
  have HL := fun w1 => hide (Ints.lit2 w1 (sgnI a.length b.length) (listC a b))
  have hal : ∀ (w1 : World) o, Gr w1 (w1.alloc o) := fun w1 o => Gr.alloc w1 o
  go_enter Try.func49, Try.ntmps49
  go_wp2_with (first | (go_at_call 86; refine (g_Compare _ _ _).mono ?_; rintro e w' ⟨rfl, rfl⟩) | (go_at_call 87; refine HC.out.mono ?_; rintro e w1 ⟨rfl, hb1⟩) | (go_at_call 85; refine (g_Or _ _ _ (HL w1).out).mono ?_; rintro e w' ⟨rfl, rfl⟩))
  go_ret
  exact ⟨rfl, hb1.trans (hal w1 _)⟩

end Go.Proofs.Ytlipmbcjpmbjnaa
