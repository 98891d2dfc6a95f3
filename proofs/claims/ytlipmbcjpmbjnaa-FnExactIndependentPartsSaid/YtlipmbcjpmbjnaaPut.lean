/- The walks of the reference that put a literal behind a clause: l2Put, l2Join, l2Of at literals whose variables rise. -/
import Derived.Test.YtlipmbcjpmbjnaaFam
import Derived.Test.YtlipmbcjpmbjnaaDel
import Derived.Test.YtlipmbcjpmbjnaaReg
namespace Go.Proofs.Ytlipmbcjpmbjnaa
open Go.RowKit
set_option linter.unusedVariables false

theorem ownI_cases {base : Nat} {w : World} {v : Value} {zs : List Int} (h : OwnI base w v zs) : (v = .slice none 0 0 ∧ zs = []) ∨ ∃ g cap, v = .slice (some ⟨g, 0, none⟩) zs.length cap ∧ zs.length ≤ cap ∧ cap ≤ maxLen := by
  rcases h.2 with ⟨h1, h2⟩ | ⟨g, cap, cur, h1, _, _, h2, h3, _⟩
  · exact .inl ⟨h1, List.eq_nil_of_length_eq_zero h2⟩
  · exact .inr ⟨g, cap, h1, h2, h3⟩

theorem lit_cells {W : World} {H : Nat} {l : Int} (h : W.cell? ⟨H, 0, none⟩ = some (.int .i64 l)) : ∀ j u, (ic [l])[j]? = some u → W.cell? ⟨H, 0 + j, none⟩ = some u := by
  intro j u hj
  match j, hj with
  | 0, hj => simp at hj; subst hj; simpa using h
theorem OwnI.mono_ {base : Nat} {w W w' : World} {v : Value} {zs : List Int} (h : OwnI W.heap.size w' v zs) (hb : Below base w w') (hs : base ≤ W.heap.size) : OwnI base w' v zs := by
  refine ⟨h.1, ?_⟩
  rcases h.2 with h1 | ⟨g, cap, cur, h1, h2, h3⟩
  · exact .inl h1
  · exact .inr ⟨g, cap, cur, h1, Nat.le_trans hs h2, h3⟩

theorem step_nilI {ops : Array Oper} {o : Oper} {a : Act} {K : Act → World → Prop} {Q : Exit → Act → World → Prop} {E : Prop} {W : World} (hgd : o.guard = none) (s x : Operand)
    (ho : o.op = .call { callee := .builtin .append, args := #[s, x], argTypes := #[26, 26] })
    (base : Nat) {v : Value} {zs : List Int} (hs : a.eval s = v) (wr : World) (hown : OwnI base wr v zs) {c : Nat} (hx : a.eval x = .slice none 0 c) (h : K (a.put o.dst v) W) :
    if Region.wanted o (yielded ops a.tmps) = true then Oper.wp Try.prog o a W K Q else E := by
  have hw : Region.wanted o (yielded ops a.tmps) = true := by simp [Region.wanted, hgd]
  rw [if_pos hw]
  obtain ⟨i0, hi, hz0, hz1, hz2⟩ := info_parts int_info
  have hrun : (Builtin.append_ #[26, 26] o.type #[v, .slice none 0 c]).run Try.prog W = .ok v W := by
    rcases hown.2 with ⟨rfl, hl0⟩ | ⟨g, cap, cur, rfl, _, _, hnc, _⟩
    · simp [Builtin.append_, run_underlying Try.underlying26, sizeOf, typeInfo, hi, Builtin.lenOf, Builtin.firstCells]
    · simp [Builtin.append_, run_underlying Try.underlying26, sizeOf, typeInfo, hi, Builtin.lenOf, Builtin.firstCells, hnc, storeCells]
  unfold Oper.wp
  simp [execOp, ho, resolve, invoke, builtin, hs, hx, hrun, Result.andThen]
  exact h

set_option maxRecDepth 100000 in
set_option maxHeartbeats 1600000 in
theorem s_l2PutE {base : Nat} (v : Value) (zs : List Int) (l : Int) (w : World) (h : OwnI base w v zs) (hn : zs.length ≤ 1000) (hlt : ∀ y ∈ zs, varW y < varW l) :
    Calls Try.prog 94 #[v, .int .i64 l] w fun e w' => ∃ v', e = .returned v' ∧ OwnI w.heap.size w' v' (zs ++ [l]) ∧ Below w.heap.size w w' := by
  have hI := h.fints.ints.top
  have HLT := hide hlt
  clear hlt
  rcases ownI_cases h with ⟨rfl, rfl⟩ | ⟨g, cap, rfl, hc, hm⟩
  · go_enter Try.func94, Try.ntmps94
    go_wp2_with fail
    refine wp_loop_rounds 1 ?_
    rw [rounds_succ]
    go_wp2_with fail
    go_region_held3 (fun _ => True) (trivial)
      ((first | (go_at_call 46; go_loud(refine (s_l1Own _ [] _ (Ints.nil 0 _) (by simp)).mono ?_; rintro e w1 ⟨v1, rfl, hown1, hb1⟩; have hbw1 := below_stp (w := w) (by (repeat (first | exact Below.refl _ _ | apply below_drew_of | apply below_alloc_of))) hb1; have hown1' := hown1.mono_ hbw1 (by simp))) | ((refine step_nilI (c := 0) rfl _ _ rfl w.heap.size ?_ w2 hown2 ?_ ?_); (· rfl); (· rfl)) | ((refine step_ints (b := w1.heap.size) (off := 0) (m := 1) (c := 1) (ys := [l]) rfl _ _ rfl w.heap.size ?_ w1 hown1' ?_ ?_ ?_ rfl ?_ ?_ ?_); (· rfl); (· (repeat (first | exact Below.refl _ _ | apply below_drew_of | apply below_alloc_of))); (· exact hbw1.size); (· rfl); (· (refine lit_cells ?_; (first | simp | exact below_old hb1 _ _ (by simp)))); (· simp); (intro v2 w2 hown2 hb2; have hbw2 := hbw1.trans hb2)) | ((refine step_ints (b := w.heap.size) (off := 0) (m := 1) (c := 1) (ys := [l]) rfl _ _ rfl w.heap.size ?_ w1 hown1' ?_ ?_ ?_ rfl ?_ ?_ ?_); (· rfl); (· (repeat (first | exact Below.refl _ _ | apply below_drew_of | apply below_alloc_of))); (· exact hbw1.size); (· rfl); (· (refine lit_cells ?_; (first | simp | exact below_old hb1 _ _ (by simp)))); (· simp); (intro v2 w2 hown2 hb2; have hbw2 := hbw1.trans hb2))))
    all_goals go_wp2_with fail
    all_goals go_ret
    all_goals exact ⟨_, rfl, by simpa using hown2, hbw2⟩
  · obtain ⟨n, hn'⟩ : ∃ n, zs.length = n := ⟨_, rfl⟩
    obtain ⟨A', c', e', _, _, hrow⟩ := id hI
    injection e' with e1 e2 e3
    subst e1 e3
    have HROW := hide hrow
    rw [hn'] at hI
    have HI := hide hI
    have HN' := hide hn'
    rw [hn'] at hc hn ⊢
    unfold maxLen at hm
    clear hn'
    go_enter Try.func94, Try.ntmps94
    go_wp2_with fail
    go_loop [5] (fun i => ∃ k : Nat, k ≤ n ∧ i = .int .i64 k) (fun i => n - (intOf i).toNat)
    case atStart => exact ⟨0, Nat.zero_le _, rfl⟩
    case round =>
      obtain ⟨k, hk, rfl⟩ := hrel
      by_cases hkn : k < n
      · obtain ⟨b, off, y, e9, hx, hcw⟩ := HROW.out.int (k := k) (by rw [HN'.out]; exact hkn)
        injection e9 with e9; injection e9 with e10 e11
        subst e10 e11
        have hvl := HLT.out y (List.mem_of_getElem? (get_of_drop hx))
        have hcw' : w.cell? ⟨g, k, none⟩ = some (.int .i64 y) := by simpa using hcw
        clear hx hcw
        go_wp2_with (go_at_call 36; refine (s_l2Var _ _).mono ?_; rintro e w1 ⟨rfl, rfl⟩)
        go_round
        case rel => exact ⟨k + 1, by omega, by go_num⟩
        case measure => simp [intOf]; omega
      · obtain rfl : k = n := by omega
        have b6 : (0 : Int) ≤ (k : Int) := by omega
        have b1 : (k : Int) ≤ (cap : Int) := by omega
        have b3 : k ≤ cap := by omega
        by_cases hce : cap = k
        · subst hce
          go_wp2_with fail
          go_region_held3 (fun _ => True) (trivial)
            ((first | (go_at_call 46; go_loud(refine (s_l1Own _ zs _ (HI.out.below (by (repeat (first | exact Below.refl _ _ | apply below_drew_of | apply below_alloc_of)))) (by rw [HN'.out]; omega)).mono ?_; rintro e w1 ⟨v1, rfl, hown1, hb1⟩; have hbw1 := below_stp (w := w) (by (repeat (first | exact Below.refl _ _ | apply below_drew_of | apply below_alloc_of))) hb1; have hown1' := hown1.mono_ hbw1 (by simp))) | ((refine step_ints (b := g) (off := 0) (m := 0) (c := 0) (ys := []) rfl _ _ rfl w.heap.size ?_ w2 hown2 ?_ ?_ ?_ rfl ?_ ?_ ?_); (· rfl); (· (repeat (first | exact Below.refl _ _ | apply below_drew_of | apply below_alloc_of))); (· exact hbw2.size); (· rfl); (· (intro j u hu; simp at hu)); (· (simp [HN'.out]; omega)); (intro v3 w3 hown3 hb3)) | ((refine step_ints (b := w1.heap.size) (off := 0) (m := 1) (c := 1) (ys := [l]) rfl _ _ rfl w.heap.size ?_ w1 hown1' ?_ ?_ ?_ rfl ?_ ?_ ?_); (· rfl); (· (repeat (first | exact Below.refl _ _ | apply below_drew_of | apply below_alloc_of))); (· exact hbw1.size); (· rfl); (· (refine lit_cells ?_; (first | simp | exact below_old hb1 _ _ (by simp)))); (· (simp [HN'.out]; omega)); (intro v2 w2 hown2 hb2; have hbw2 := hbw1.trans hb2)) | ((refine step_ints (b := w.heap.size) (off := 0) (m := 1) (c := 1) (ys := [l]) rfl _ _ rfl w.heap.size ?_ w1 hown1' ?_ ?_ ?_ rfl ?_ ?_ ?_); (· rfl); (· (repeat (first | exact Below.refl _ _ | apply below_drew_of | apply below_alloc_of))); (· exact hbw1.size); (· rfl); (· (refine lit_cells ?_; (first | simp | exact below_old hb1 _ _ (by simp)))); (· (simp [HN'.out]; omega)); (intro v2 w2 hown2 hb2; have hbw2 := hbw1.trans hb2))))
          all_goals go_wp2_with fail
          all_goals go_ret
          all_goals exact ⟨_, rfl, by simpa using hown3, hbw2.trans hb3⟩
        · have hc0 : ¬ (cap = 0) ∨ True := .inr trivial
          go_wp2_with fail
          go_region_held3 (fun _ => True) (trivial)
            ((first | (go_at_call 46; go_loud(refine (s_l1Own _ zs _ (HI.out.below (by (repeat (first | exact Below.refl _ _ | apply below_drew_of | apply below_alloc_of)))) (by rw [HN'.out]; omega)).mono ?_; rintro e w1 ⟨v1, rfl, hown1, hb1⟩; have hbw1 := below_stp (w := w) (by (repeat (first | exact Below.refl _ _ | apply below_drew_of | apply below_alloc_of))) hb1; have hown1' := hown1.mono_ hbw1 (by simp))) | ((refine step_ints (b := g) (off := k) (m := 0) (c := cap - k) (ys := []) rfl _ _ rfl w.heap.size ?_ w2 hown2 ?_ ?_ ?_ rfl ?_ ?_ ?_); (· rfl); (· (repeat (first | exact Below.refl _ _ | apply below_drew_of | apply below_alloc_of))); (· exact hbw2.size); (· rfl); (· (intro j u hu; simp at hu)); (· (simp [HN'.out]; omega)); (intro v3 w3 hown3 hb3)) | ((refine step_ints (b := w1.heap.size) (off := 0) (m := 1) (c := 1) (ys := [l]) rfl _ _ rfl w.heap.size ?_ w1 hown1' ?_ ?_ ?_ rfl ?_ ?_ ?_); (· rfl); (· (repeat (first | exact Below.refl _ _ | apply below_drew_of | apply below_alloc_of))); (· exact hbw1.size); (· rfl); (· (refine lit_cells ?_; (first | simp | exact below_old hb1 _ _ (by simp)))); (· (simp [HN'.out]; omega)); (intro v2 w2 hown2 hb2; have hbw2 := hbw1.trans hb2)) | ((refine step_ints (b := w.heap.size) (off := 0) (m := 1) (c := 1) (ys := [l]) rfl _ _ rfl w.heap.size ?_ w1 hown1' ?_ ?_ ?_ rfl ?_ ?_ ?_); (· rfl); (· (repeat (first | exact Below.refl _ _ | apply below_drew_of | apply below_alloc_of))); (· exact hbw1.size); (· rfl); (· (refine lit_cells ?_; (first | simp | exact below_old hb1 _ _ (by simp)))); (· (simp [HN'.out]; omega)); (intro v2 w2 hown2 hb2; have hbw2 := hbw1.trans hb2))))
          all_goals go_wp2_with fail
          all_goals go_ret
          all_goals exact ⟨_, rfl, by simpa using hown3, hbw2.trans hb3⟩

theorem hasI_no {zs : List Int} {y : Int} (h : ∀ x ∈ zs, x ≠ y) : hasI zs y = false := by
  cases hb : hasI zs y with
  | false => rfl
  | true =>
    unfold hasI at hb
    exact absurd rfl (h y (by simpa using hb))
theorem rise_facts {zs : List Int} {k : Nat} {x : Int} (hp : zs.Pairwise fun a b => varW a < varW b) (hs : ∀ y ∈ zs, y ≠ 0 ∧ -12 ≤ y ∧ y ≤ 12) (hx : zs.drop k = x :: zs.drop (k + 1)) :
    hasI (zs.take k) (wrap64 (-x)) = false ∧ hasI (zs.take k) x = false ∧ ∀ y ∈ zs.take k, varW y < varW x := by
  have hxm : x ∈ zs := List.mem_of_getElem? (get_of_drop hx)
  have hlt : ∀ y ∈ zs.take k, varW y < varW x := by
    intro y hy
    have h1 : (zs.take k ++ zs.drop k).Pairwise fun a b => varW a < varW b := by rw [List.take_append_drop]; exact hp
    exact (List.pairwise_append.1 h1).2.2 y hy x (by rw [hx]; simp)
  have hsx := hs x hxm
  have hneg : wrap64 (-x) = -x := IntWalk.wrap64_in _ (by omega)
  refine ⟨hasI_no fun y hy e => ?_, hasI_no fun y hy e => ?_, hlt⟩
  · have h1 := hlt y hy
    have h2 := hs y (List.mem_of_mem_take hy)
    rw [hneg] at e
    rw [varW_small (by omega), varW_small (by omega)] at h1
    omega
  · have h1 := hlt y hy
    rw [e] at h1
    omega

end Go.Proofs.Ytlipmbcjpmbjnaa
