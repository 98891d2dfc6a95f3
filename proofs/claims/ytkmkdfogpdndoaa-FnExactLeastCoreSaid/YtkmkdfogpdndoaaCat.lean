/- The library's Grow and Concat of tables: the rows are the ones that came in, the header is new. -/
import Derived.Test.YtkmkdfogpdndoaaOwnT
import Derived.Test.YtkmkdfogpdndoaaTopC
import Derived.Lib.AppendZerosOnto
import Derived.Deep.DeepAppendWide
namespace Go.Proofs.Ytkmkdfogpdndoaa
open Go.RowKit
set_option linter.unusedVariables false

set_option maxHeartbeats 800000 in
set_option maxRecDepth 100000 in
theorem g_GrowT (n : Nat) (w : World) (hn : n ≤ 16777216) :
    Calls Try.prog 119 #[.slice none 0 0, .int .i64 n] w fun e w' => ∃ v', e = .returned v' ∧ OwnH w.heap.size w' v' [] ∧ Below w.heap.size w w' := by
  rcases Nat.eq_zero_or_pos n with rfl | hp
  · go_enter Try.func119, Try.ntmps119
    go_wp2_with fail
    go_ret
    exact ⟨_, rfl, OwnH.nil _ _, Below.refl _ _⟩
  · obtain ⟨i0, hi, hz0, hz1, hz2⟩ := info_parts ints_info
    have hrz : ∀ ty, (Builtin.append_ #[22, 3] ty #[.slice none 0 0, .int .i64 n]).run Try.prog w = .ok (.slice (some ⟨w.heap.size, 0, none⟩) n (grownCap w n 0 25)) (w.drew.alloc (.cells (#[] ++ Builtin.zeroCells (Value.slice none 0 0).cells n ++ Builtin.zeroCells (Value.slice none 0 0).cells (grownCap w n 0 25 - n)) 25)) := fun ty => by
      have h := Lib.run_append_grow_zeros w 22 3 ty 25 i0 (.slice none 0 0) .i64 .i64 Try.underlying22 Try.underlying3 hi hz0 none 0 0 [] (run_firstCells_none w.drew i0.size 0 0 0) n hp (by rw [hz1]; decide) (by omega) (by omega) (by rw [hz2]; omega)
        (by rw [hz2]; exact growslice_fits (by omega) (by omega))
      simpa using h
    have hGn : n ≤ grownCap w n 0 25 := grownCap_ge w _ _ _
    have hGm := grownCap_le_maxLen w n 0 25 (by unfold maxLen; omega)
    obtain ⟨G, hG⟩ : ∃ G, G = grownCap w n 0 25 := ⟨_, rfl⟩
    rw [← hG] at hrz hGn hGm
    have hG63 : G ≤ 9223372036854775807 := by unfold maxLen at hGm; exact hGm
    have HGM := hide hGm
    clear hG hGm
    go_enter Try.func119, Try.ntmps119
    go_wp2_with (at_builtin; refine Lib.wpList_append_run _ rfl _ _ _ _ rfl _ _ rfl rfl _ _ (hrz _) ?_)
    all_goals go_ret
    all_goals refine ⟨_, rfl, ⟨by simp, .inr ⟨w.heap.size, G, _, rfl, Nat.le_refl _, heap_alloc_new w.drew _, Nat.zero_le _, HGM.out, ?_, by simp⟩⟩, (below_drew w).trans ((Below.refl _ _).alloc (by simp) _)⟩
    all_goals (simp [size_zeroCells]; omega)

/-- two tables, one behind the other -/
theorem tab_join {w : World} {v : Value} {ps qs : List (Value × List Int)} {base : Nat} (h : OwnH base w v (ps.map (·.1) ++ qs.map (·.1))) (hp : ∀ p ∈ ps, Ints w.heap.size w p.1 p.2) (hq : ∀ p ∈ qs, Ints w.heap.size w p.1 p.2) : Tab w.heap.size w v (ps.map (·.2) ++ qs.map (·.2)) := by
  obtain ⟨A, c, rfl, h1, h2, h3⟩ := h.own
  rw [← List.map_append] at h3 ⊢
  refine ⟨A, c, ps ++ qs, by simp, by simpa using h1, h2, by simp, h3.row, fun p hp' => ?_⟩
  rcases List.mem_append.1 hp' with h | h
  · exact hp p h
  · exact hq p h

set_option maxHeartbeats 1600000 in
set_option maxRecDepth 100000 in
theorem g_ConcatT {hi hi' : Nat} (b : Nat) (v1 v2 : Value) (t u : List (List Int)) (w : World) (h1 : Tab hi w v1 t) (h2 : Tab hi' w v2 u) (hc0 : w.cell? ⟨b, 0, none⟩ = some v1) (hc1 : w.cell? ⟨b, 1, none⟩ = some v2) (hn1 : t.length ≤ 1048576) (hn2 : u.length ≤ 1048576) :
    Calls Try.prog 75 #[.slice (some ⟨b, 0, none⟩) 2 2] w fun e w' => ∃ v', e = .returned v' ∧ Tab w'.heap.size w' v' (t ++ u) ∧ Below w.heap.size w w' := by
  obtain ⟨A1, c1, ps, rfl, hcc1, hm1, rfl, hrow1, hps⟩ := h1.top.open_
  obtain ⟨A2, c2, qs, rfl, hcc2, hm2, rfl, hrow2, hqs⟩ := h2.top.open_
  unfold maxLen at hm1 hm2
  rw [List.length_map] at hn1 hn2
  obtain ⟨N, hN⟩ : ∃ N, N = ps.length + qs.length := ⟨_, rfl⟩
  have hNi : (ps.length : Int) + (qs.length : Int) = (N : Int) := by omega
  have hNb : N ≤ 2097152 := by omega
  have HPS := hide hps
  have HQS := hide hqs
  clear hps hqs h1 h2 hN
  go_enter Try.func75, Try.ntmps75
  go_wp2_with fail
  go_loop [3, 11] (fun s i => (i = .int .i64 0 ∧ s = .int .i64 0) ∨ (i = .int .i64 1 ∧ s = .int .i64 ps.length) ∨ (i = .int .i64 2 ∧ s = .int .i64 N)) (fun _ i => 2 - (intOf i).toNat)
  case atStart => exact .inl ⟨rfl, rfl⟩
  case round =>
    rcases hrel with ⟨rfl, rfl⟩ | ⟨rfl, rfl⟩ | ⟨rfl, rfl⟩
    · go_wp2_with fail
      go_round
      case rel => exact .inr (.inl ⟨rfl, by go_num⟩)
      case measure => simp [intOf]
    · go_wp2_with fail
      go_round
      case rel => exact .inr (.inr ⟨rfl, by go_num⟩)
      case measure => simp [intOf]
    · have HG := hide (g_GrowT N w (by omega))
      go_wp2_with (go_at_call 119; refine HG.out.mono ?_; rintro e w1 ⟨g1, rfl, hown1, hb1⟩)
      have HC0 := hide hc0
      have HC1 := hide hc1
      clear hc0 hc1
      go_loopw [6, 27] (fun q i wr => ((i = .int .i64 0 ∧ OwnH w.heap.size wr q []) ∨ (i = .int .i64 1 ∧ OwnH w.heap.size wr q (ps.map (·.1))) ∨ (i = .int .i64 2 ∧ OwnH w.heap.size wr q (ps.map (·.1) ++ qs.map (·.1)))) ∧ Below w.heap.size w wr) (fun _ i _ => 2 - (intOf i).toNat)
      case atStart => exact ⟨.inl ⟨rfl, hown1⟩, hb1⟩
      case round =>
        obtain ⟨hrel, hbel⟩ := hrel
        have hwr := hbel.size
        have y0 := below_old hbel _ _ HC0.out
        have y1 := below_old hbel _ _ HC1.out
        rcases hrel with ⟨rfl, hown⟩ | ⟨rfl, hown⟩ | ⟨rfl, hown⟩
        · have HR := hide (hrow1.below hbel)
          go_wp2_with (at_builtin; refine wpList_append_n rfl _ _ _ rfl 25 (.slice none 0 0) 24 Try.underlying22 ints_info rfl (by decide) w.heap.size rfl hown rfl (by simp) HR.out (by intro y hy; obtain ⟨p, hp, rfl⟩ := List.mem_map.1 hy; exact (HPS.out p hp).oneCell) (by simp; omega) hwr ?_; intro v1 w2 hown2 hb2)
          go_roundw
          case rel => exact ⟨.inr (.inl ⟨rfl, by unfold OwnH; simpa using hown2⟩), hbel.trans hb2⟩
          case measure => simp [intOf]
        · have HR := hide (hrow2.below hbel)
          go_wp2_with (at_builtin; refine wpList_append_n rfl _ _ _ rfl 25 (.slice none 0 0) 24 Try.underlying22 ints_info rfl (by decide) w.heap.size rfl hown rfl (by simp) HR.out (by intro y hy; obtain ⟨p, hp, rfl⟩ := List.mem_map.1 hy; exact (HQS.out p hp).oneCell) (by simp; omega) hwr ?_; intro v1 w2 hown2 hb2)
          go_roundw
          case rel => exact ⟨.inr (.inr ⟨rfl, by unfold OwnH; simpa using hown2⟩), hbel.trans hb2⟩
          case measure => simp [intOf]
        · go_wp2_with fail
          go_ret
          exact ⟨_, rfl, tab_join hown (fun p hp => ((HPS.out p hp).below hbel).mono hwr) (fun p hp => ((HQS.out p hp).below hbel).mono hwr), hbel⟩

end Go.Proofs.Ytkmkdfogpdndoaa
