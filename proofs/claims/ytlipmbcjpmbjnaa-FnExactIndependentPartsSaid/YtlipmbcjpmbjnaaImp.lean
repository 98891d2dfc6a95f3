/- The walks: implication by satisfiability; the exported ImpliesClause. -/
import Derived.Test.YtlipmbcjpmbjnaaOwnT
import Derived.Test.YtlipmbcjpmbjnaaTopC
namespace Go.Proofs.Ytlipmbcjpmbjnaa
open Go.RowKit
set_option linter.unusedVariables false

def negs (c : List Int) : List (List Int) := c.map fun l => [negW l]
theorem trueL_neg {bits l : Int} (h : l ≠ 0 ∧ -12 ≤ l ∧ l ≤ 12) : trueL bits (negW l) = !trueL bits l := by
  have h1 : negW l = -l := negW_in (by omega)
  obtain ⟨m, _, hv, _⟩ := lit_var h
  have hv2 : varW (negW l) = (m : Int) + 1 := by
    rw [varW_small (by omega)] at hv
    rw [h1, varW_small (by omega)]
    omega
  rw [trueL_at hv, trueL_at hv2, h1]
  by_cases hp : 0 < l
  · rw [show decide (0 < l) = true by simpa using hp, show decide (0 < -l) = false by simp; omega]
    cases bitB bits m <;> rfl
  · rw [show decide (0 < l) = false by simpa using hp, show decide (0 < -l) = true by simp; omega]
    cases bitB bits m <;> rfl
theorem allB_append (bits : Int) (t u : List (List Int)) : allB bits (t ++ u) = (allB bits t && allB bits u) := by simp [allB]
theorem allB_negs (bits : Int) : ∀ (c : List Int), (∀ l ∈ c, l ≠ 0 ∧ -12 ≤ l ∧ l ≤ 12) → allB bits (negs c) = !trueB bits c
  | [], _ => rfl
  | l :: r, h => by
    have ih := allB_negs bits r (fun q hq => h q (List.mem_cons_of_mem _ hq))
    have h1 := trueL_neg (bits := bits) (h l (by simp))
    show allB bits ([negW l] :: negs r) = _
    rw [allB_cons, ih, trueB_cons, trueB_cons, h1]
    cases trueL bits l <;> simp [trueB]
theorem implies_sat (n : Int) (t : List (List Int)) (c : List Int) (h : ∀ l ∈ c, l ≠ 0 ∧ -12 ≤ l ∧ l ≤ 12) : (!satB (n, t ++ negs c)) = impliesF (n, t) c := by
  unfold satB modelsF impliesF modelsL impliesL
  dsimp only
  generalize rangeFrom 0 (2 ^ n.toNat) = L
  induction L with
  | nil => rfl
  | cons k r ih =>
    simp only [Bool.not_not] at ih ⊢
    rw [List.all_cons, List.filter_cons, allB_append, allB_negs _ _ h, ← ih]
    cases allB (k : Int) t <;> cases trueB (k : Int) c <;> simp

theorem Ints.lit (w : World) (x : Int) : Ints (w.heap.size + 1) (w.alloc (.cells #[.int .i64 x] 3)) (.slice (some ⟨w.heap.size, 0, none⟩) 1 1) [x] := by
  refine ⟨_, 1, rfl, Nat.le_refl _, by simp [maxLen], fun _ => ⟨w.heap.size, 0, rfl, by omega, fun j u hu => ?_⟩⟩
  match j, hu with
  | 0, hu => simp at hu; subst hu; simp

theorem negs_small {c : List Int} (h : ∀ l ∈ c, l ≠ 0 ∧ -12 ≤ l ∧ l ≤ 12) : ∀ d ∈ negs c, ∀ l ∈ d, l ≠ 0 ∧ -12 ≤ l ∧ l ≤ 12 := by
  intro d hd l hl
  obtain ⟨x, hx, rfl⟩ := List.mem_map.1 hd
  obtain rfl := List.mem_singleton.1 hl
  have := h x hx
  rw [negW_in (by omega)]
  omega

set_option maxHeartbeats 800000 in
theorem i_implies {hi hi' : Nat} (n : Nat) (cv vc : Value) (t : List (List Int)) (c : List Int) (w : World) (ht : Tab hi w cv t) (h2 : Ints hi' w vc c) (hn : n ≤ 12) (hs : ∀ c ∈ t, ∀ l ∈ c, l ≠ 0 ∧ -12 ≤ l ∧ l ≤ 12) (hcs : ∀ l ∈ c, l ≠ 0 ∧ -12 ≤ l ∧ l ≤ 12)
    (htl : t.length ≤ 1048576) (hcl : c.length ≤ 1048576) :
    Calls Try.prog 64 #[.int .i64 n, cv, vc] w fun e w' => e = .returned (.bool (impliesF (n, t) c)) ∧ Below w.heap.size w w' := by
  have HI := hide (implies_sat n t c hcs)
  have HS : Hid (∀ d ∈ t ++ negs c, ∀ l ∈ d, l ≠ 0 ∧ -12 ≤ l ∧ l ≤ 12) := by
    intro d hd
    rcases List.mem_append.1 hd with h | h
    · exact hs d h
    · exact negs_small hcs d h
  clear hs hcs
  obtain ⟨A, cc, rfl, hc, hm, hrow⟩ := h2
  unfold maxLen at hm
  go_enter Try.func64, Try.ntmps64
  go_wp2_with (go_at_call 97; refine (g_CloneT _ _ _ ht (by omega)).mono ?_; rintro e w1 ⟨v1, ps1, rfl, hps1, hR1, hb1⟩)
  have hrow1 := hrow.below hb1
  have HP1 := hide hps1
  have HR1 := hide hR1
  clear hps1 hR1
  go_loopw [7, 14] (fun q i wr => ∃ (k : Nat) (ps : List (Value × List Int)), k ≤ c.length ∧ i = .int .i64 k ∧ Hid (ps.map (·.2) = t ++ negs (c.take k)) ∧ RTab w.heap.size wr q ps ∧ Below w.heap.size w wr) (fun _ i _ => c.length - (intOf i).toNat)
  case atStart => exact ⟨0, ps1, Nat.zero_le _, rfl, by show _ = _; rw [← HP1.out]; simp [negs], HR1.out, hb1⟩
  case round =>
    obtain ⟨k, ps, hk, rfl, hr, hR, hbel⟩ := hrel
    by_cases hlt : k < c.length
    · obtain ⟨b, off, x, rfl, hx, hcw⟩ := hrow.int hlt
      have hcr := below_old hbel _ _ hcw
      have HF := hide (show ps.map (·.2) ++ [[negW x]] = t ++ negs (c.take (k + 1)) by rw [hr.out, take_snoc hx]; simp [negs])
      have hpl : ps.length = t.length + k := by
        have := congrArg List.length hr.out
        simp [negs] at this
        omega
      have HPL := hide hpl
      clear hx hcw hpl
      have hR1 := hR.below ((Below.refl wr.heap.size wr).alloc (Nat.le_refl _) (.cells #[.int .i64 (negW x)] 3))
      have hI1 := Ints.lit wr (negW x)
      unfold negW at hR1 hI1
      go_wp2_with (at_builtin; (refine append_row rfl _ _ rfl w.heap.size rfl hR1 hI1 ?_ rfl ?_ ?_ ?_ ?_); (· (right; intro e; have := hR.1.block_lt (g := wr.heap.size) e.symm; omega)); (· (simp)); (· (have := HPL.out; omega)); (· (have := hbel.size; simp; omega)); (intro v2 w2 hR2 hg2 hb2; have hbel2 := (hbel.trans (((Below.refl wr.heap.size wr).alloc (Nat.le_refl _) _).mono hbel.size)).trans hb2))
      go_roundw
      case rel => exact ⟨k + 1, _, by omega, by go_num, by show _ = _; rw [List.map_append]; exact HF.out, hR2, hbel2⟩
      case measure => simp [intOf]; omega
    · obtain rfl : k = c.length := by omega
      have htab := hR.tab
      rw [hr.out, List.take_length] at htab
      go_wp2_with (go_at_call 98; refine (i_satisfiable n _ _ _ htab hn HS.out).mono ?_; rintro e w3 ⟨rfl, hb3⟩)
      go_ret
      exact ⟨ret_bool HI.out, hbel.trans (hb3.mono hbel.size)⟩

def fImpliesClause (f : CnfL) (a : List Int) : Bool × Bool := if goodB f && clauseB f.1 a then (impliesF f a, true) else (false, false)

theorem goodB_len {f : Int × List (List Int)} (h : goodB f = true) : f.2.length ≤ 60 := (goodB_parts h).2.1

end Go.Proofs.Ytlipmbcjpmbjnaa
