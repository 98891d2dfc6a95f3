/- The walks: the library's Delete of one element; a list without an element. -/
import Derived.Test.YtlipmbcjpmbjnaaCore
import Derived.Test.YtlipmbcjpmbjnaaSl
import Derived.Deep.DeepAppendRoom
namespace Go.Proofs.Ytlipmbcjpmbjnaa
open Go.RowKit
set_option linter.unusedVariables false

theorem step_spare {P : Program} {ops : Array Oper} {o : Oper} {a : Act} {K : Act → World → Prop} {Q : Exit → Act → World → Prop} {E : Prop} {w : World} (hgd : o.guard = none) (s x : Operand) (t : TypeId)
    (ho : o.op = .call { callee := .builtin .append, args := #[s, x], argTypes := #[t, t] })
    (base : Nat) (e : TypeId) (i : TypeInfo) (ht : P.underlying t = some (.slice e)) (hi : P.info? e = some i) (hsize : i.size = 1)
    (g n cap : Nat) (xs : List Value) (hs : a.eval s = .slice (some ⟨g, 0, none⟩) n cap) (hown : w.ownsRow base e 1 (.slice (some ⟨g, 0, none⟩) n cap) n xs)
    (ad : Addr) (m c : Nat) (news : List Value) (hx : a.eval x = .slice (some ad) m c) (hl : news.length = m) (hnews : ∀ j u, news[j]? = some u → w.cell? (ad.add j) = some u) (h1 : ∀ u ∈ news, u.oneCell' = true)
    (hroom : n + m ≤ cap)
    (h : ∀ w', w'.ownsRow base e 1 (.slice (some ⟨g, 0, none⟩) (n + m) cap) (n + m) (xs ++ news) → w.grownBy w' (some g) → K (a.put o.dst (.slice (some ⟨g, 0, none⟩) (n + m) cap)) w') :
    if Region.wanted o (yielded ops a.tmps) = true then Oper.wp P o a w K Q else E := by
  have hw : Region.wanted o (yielded ops a.tmps) = true := by simp [Region.wanted, hgd]
  rw [if_pos hw]
  exact wp_append_own_spare w s x t ho base e i 1 ht hi hsize g n cap xs hs hown ad m c news hx (by omega) hnews h1 hroom h

/-- a store behind what is owned -/
theorem ownsRow_behind {w : World} {base : Nat} {e : TypeId} {g n cap : Nat} {xs : List Value} (h : w.ownsRow base e 1 (.slice (some ⟨g, 0, none⟩) n cap) n xs) {o : Nat} (ho : n ≤ o) (u : Value) :
    (w.setCell ⟨g, o, none⟩ u).ownsRow base e 1 (.slice (some ⟨g, 0, none⟩) n cap) n xs := by
  obtain ⟨hl, h2⟩ := h
  refine ⟨hl, ?_⟩
  rcases h2 with ⟨h3, _⟩ | ⟨g', cap', cur, e1, hb, hh, hnc, hm, hsz, htk⟩
  · cases h3
  · right
    injection e1 with e1 _ e2
    injection e1 with e1
    injection e1 with e1
    subst e1 e2
    have hB : Blk w g e cur := hh
    refine ⟨g, cap, _, rfl, hb, hB.set_ o u, hnc, hm, by simpa using hsz, ?_⟩
    rw [← htk, Array.toList_setIfInBounds]
    rw [List.take_set_of_le (by omega)]
theorem ownsRow_cells {w : World} {base : Nat} {e : TypeId} {g n cap : Nat} {xs : List Value} (h : w.ownsRow base e 1 (.slice (some ⟨g, 0, none⟩) n cap) n xs) {o : Nat} (ho : o < cap) :
    (w.cell? ⟨g, o, none⟩).isSome = true ∧ w.frozen? ⟨g, o, none⟩ = false := by
  obtain ⟨hl, h2⟩ := h
  rcases h2 with ⟨h3, _⟩ | ⟨g', cap', cur, e1, hb, hh, hnc, hm, hsz, htk⟩
  · cases h3
  · injection e1 with e1 _ e2
    injection e1 with e1
    injection e1 with e1
    subst e1 e2
    have hB : Blk w g e cur := hh
    refine ⟨?_, hB.frozen o⟩
    rw [hB.cell o, Array.getElem?_eq_getElem (by omega)]
    rfl

set_option maxRecDepth 100000 in
set_option maxHeartbeats 800000 in
theorem g_Delete1 {base : Nat} (v : Value) (xs : List Value) (i : Nat) (w : World) (hown : w.ownsRow base 3 1 v xs.length xs) (hi : i < xs.length) (hn : xs.length ≤ 16777216) (h1 : ∀ u ∈ xs, u.oneCell' = true) :
    Calls Try.prog 99 #[v, .int .i64 i, .int .i64 ((i : Int) + 1)] w fun e w' => ∃ v', e = .returned v' ∧ w'.ownsRow base 3 1 v' (xs.length - 1) (xs.take i ++ xs.drop (i + 1)) ∧ w.grownBy w' v.ownBlock ∧ v'.ownBlock = v.ownBlock := by
  obtain ⟨g, cap, cur, rfl, hb, hh, hnc, hm, hsz, htk⟩ := hown.2.resolve_left (fun h => by have := h.2; omega)
  obtain ⟨m, hn'⟩ : ∃ m, xs.length = m + 1 := ⟨xs.length - 1, by omega⟩
  rw [hn'] at hi hn hnc htk
  have hpre : w.ownsRow base 3 1 (.slice (some ⟨g, 0, none⟩) i cap) i (xs.take i) := by
    refine ⟨by simp; omega, .inr ⟨g, cap, cur, rfl, hb, hh, by omega, hm, hsz, ?_⟩⟩
    rw [← htk, List.take_take]
    congr 1
    omega
  have hB : Blk w g 3 cur := hh
  have hnews : ∀ j u, (xs.drop (i + 1))[j]? = some u → w.cell? ((⟨g, i + 1, none⟩ : Addr).add j) = some u := by
    intro j u hu
    have hadd : (⟨g, i + 1, none⟩ : Addr).add j = ⟨g, i + 1 + j, none⟩ := by
      unfold Addr.add; split
      · rename_i h; subst h; rfl
      · rfl
    rw [List.getElem?_drop] at hu
    rw [hadd, hB.cell]
    rw [← htk, List.getElem?_take] at hu
    split at hu
    · simpa using hu
    · cases hu
  have hone : ∀ u ∈ xs.drop (i + 1), u.oneCell' = true := fun u hu => h1 u (List.mem_of_mem_drop hu)
  have hlen : (xs.drop (i + 1)).length = m - i := by simp; omega
  obtain ⟨i0, hi0, hz0, hz1, hz2⟩ := info_parts int_info
  have HP := hide hpre
  have HN := hide hnews
  have HO := hide hone
  have HL := hide hlen
  have HN' := hide hn'
  rw [hn']
  unfold maxLen at hm
  clear hown hpre hnews hone hlen hn' hh hB htk hsz h1
  have fin : ∀ w1 : World, w1.ownsRow base 3 1 (.slice (some ⟨g, 0, none⟩) (i + (m - i)) cap) (i + (m - i)) (xs.take i ++ xs.drop (i + 1)) → w.grownBy w1 (some g) →
      ∃ v', v' = Value.slice (some ⟨g, 0, none⟩) (m) cap ∧ (w1.setCell ⟨g, m, none⟩ (.int .i64 0)).ownsRow base 3 1 v' (m) (xs.take i ++ xs.drop (i + 1)) ∧ w.grownBy (w1.setCell ⟨g, m, none⟩ (.int .i64 0)) (some g) := by
    intro w1 hown1 hg1
    rw [show i + (m - i) = m by omega] at hown1
    exact ⟨_, rfl, ownsRow_behind hown1 (o := m) (by omega) (.int .i64 0), grown_setCell hg1 _ _⟩
  have FIN := hide fin
  have hcl : ∀ w1 : World, w1.ownsRow base 3 1 (.slice (some ⟨g, 0, none⟩) (i + (m - i)) cap) (i + (m - i)) (xs.take i ++ xs.drop (i + 1)) → ∀ ty c, (Builtin.clear_ #[26] ty #[.slice (some ⟨g, m, none⟩) 1 c]).run Try.prog w1 = .ok (.tuple #[]) (w1.setCell ⟨g, m, none⟩ (.int .i64 0)) := by
    intro w1 hown1 ty c
    rw [show i + (m - i) = m by omega] at hown1
    obtain ⟨hc1, hf1⟩ := ownsRow_cells hown1 (o := m) (by omega)
    exact Lib.run_clear_slice (P := Try.prog) w1 26 3 ty (.int .i64 0) Try.underlying26 (fun w => by kernel_rfl) rfl rfl g (m) 1 c (by omega)
      (fun q hq => by obtain rfl : q = 0 := by omega
                      exact hc1)
      (fun q hq => by obtain rfl : q = 0 := by omega
                      exact hf1)
  have HCL := hide hcl
  clear fin hcl
  have hc0 : ¬ (cap = 0) := by omega
  have b0 : (0 : Int) ≤ (i : Int) + 1 := by omega
  have b1 : (i : Int) ≤ (cap : Int) := by omega
  have b2 : (i : Int) + 1 ≤ (m : Int) + 1 := by omega
  have b3 : i ≤ cap := by omega
  have b4 : i + 1 ≤ m + 1 := by omega
  have b6 : (0 : Int) ≤ (i : Int) := by omega
  have b7 : (i : Int) ≤ (i : Int) + 1 := by omega
  by_cases hce : cap = i + 1
  · have HN0 : Hid (∀ j u, (xs.drop (i + 1))[j]? = some u → w.cell? ((⟨g, 0, none⟩ : Addr).add j) = some u) := by
      intro j u hu
      have := HL.out
      rw [List.eq_nil_of_length_eq_zero (by omega : (xs.drop (i + 1)).length = 0)] at hu
      simp at hu
    obtain rfl : m = i := by omega
    subst hce
    rw [Nat.sub_self] at FIN HCL HL
    go_enter Try.func99, Try.ntmps99
    go_wp2_with fail
    go_region_held3 (fun _ => True) (trivial) (fail)
    have hd0 : xs.drop (m + 1) = [] := List.eq_nil_of_length_eq_zero HL.out
    have hown1 : w.drew.ownsRow base 3 1 (.slice (some ⟨g, 0, none⟩) (m + 0) (m + 1)) (m + 0) (xs.take m ++ xs.drop (m + 1)) := by rw [hd0, List.append_nil]; exact HP.out
    have hg1 : w.grownBy w.drew (some g) := ⟨rfl, rfl, rfl, Nat.le_refl _, fun _ _ _ => rfl⟩
    have hcl := HCL.out _ hown1
    obtain ⟨v', e', ho', hg'⟩ := FIN.out _ hown1 hg1
    have HO' := hide ho'
    have HG' := hide hg'
    subst e'
    clear ho' hg' hown1 hg1
    go_wp2_with fail
    go_ret
    exact ⟨_, rfl, HO'.out, HG'.out, rfl⟩
  · go_enter Try.func99, Try.ntmps99
    go_wp2_with fail
    go_region_held3 (fun _ => True) (trivial)
      ((first | ((refine step_spare rfl _ _ _ rfl base 3 i0 Try.underlying26 hi0 hz1 g i cap _ ?_ HP.out ⟨g, i + 1, none⟩ (m - i) (cap - (i + 1)) _ ?_ HL.out HN.out HO.out (by omega) ?_); (· rfl); (· rfl); (intro w1 hown1 hg1))))
    have hg2 : w.grownBy w1 (some g) := ⟨hg1.os, hg1.tape, hg1.output, hg1.size, hg1.block⟩
    have hcl := HCL.out w1 hown1
    obtain ⟨v', e', ho', hg'⟩ := FIN.out w1 hown1 hg2
    have HO' := hide ho'
    have HG' := hide hg'
    subst e'
    rw [show i + (m - i) = m by omega]
    clear ho' hg' hown1 hg1
    go_wp2_with fail
    go_ret
    exact ⟨_, rfl, HO'.out, HG'.out, rfl⟩

def skipL {α : Type} (zs : List α) (i : Nat) : List α := zs.take i ++ zs.drop (i + 1)
theorem skipL_length {α : Type} {zs : List α} {i : Nat} (h : i < zs.length) : (skipL zs i).length = zs.length - 1 := by unfold skipL; simp; omega
theorem skipL_mem {α : Type} {zs : List α} {i : Nat} {x : α} (h : x ∈ skipL zs i) : x ∈ zs := by
  rcases List.mem_append.1 h with h | h
  · exact List.mem_of_mem_take h
  · exact List.mem_of_mem_drop h

set_option maxHeartbeats 400000 in
theorem i_without {hi : Nat} (v : Value) (zs : List Int) (i : Nat) (w : World) (h : Ints hi w v zs) (hlt : i < zs.length) (hn : zs.length ≤ 1048576) :
    Calls Try.prog 65 #[v, .int .i64 i] w fun e w' => ∃ v', e = .returned v' ∧ OwnI w.heap.size w' v' (skipL zs i) ∧ Below w.heap.size w w' := by
  have HC := hide (g_Clone v zs w h (by omega))
  clear h
  go_enter Try.func65, Try.ntmps65
  go_wp2_with fail
  refine HC.out.mono ?_
  rintro e w1 ⟨v1, rfl, hown1, hb1⟩
  have ho : w1.ownsRow w.heap.size 3 1 v1 (ic zs).length (ic zs) := by have := hown1; unfold OwnI at this; simpa [ic] using this
  have HD := hide (g_Delete1 v1 (ic zs) i w1 ho (by simpa using hlt) (by simp; omega) (by intro y hy; simp [ic] at hy; obtain ⟨q, _, rfl⟩ := hy; rfl))
  have HLT := fun k hk => World.ownsRow.lt ho k hk
  clear ho hown1
  go_wp2_with fail
  refine HD.out.mono ?_
  rintro e w2 ⟨v2, rfl, hown2, hg2, -⟩
  go_wp2_with fail
  go_ret
  refine ⟨_, rfl, ?_, ⟨hg2.os.trans hb1.os, hg2.tape.trans hb1.tape, hg2.output.trans hb1.output, Nat.le_trans hb1.size hg2.size, fun k hk => ?_⟩⟩
  · unfold OwnI
    rw [skipL_length hlt]
    unfold skipL
    simpa [ic] using hown2
  · rw [hg2.block k (Nat.lt_of_lt_of_le hk hb1.size) (fun e => by have := HLT k e.symm; omega)]
    exact hb1.block k hk

theorem step_ints {ops : Array Oper} {o : Oper} {a : Act} {K : Act → World → Prop} {Q : Exit → Act → World → Prop} {E : Prop} {W : World} (hgd : o.guard = none) (s x : Operand)
    (ho : o.op = .call { callee := .builtin .append, args := #[s, x], argTypes := #[26, 26] })
    (base : Nat) {v : Value} {zs : List Int} (hs : a.eval s = v) (wr : World) (hown : OwnI base wr v zs) (hbw : Below wr.heap.size wr W) (hb : base ≤ wr.heap.size)
    {b off m c : Nat} {ys : List Int} (hx : a.eval x = .slice (some ⟨b, off, none⟩) m c) (hl : ys.length = m) (hc : ∀ j u, (ic ys)[j]? = some u → W.cell? ⟨b, off + j, none⟩ = some u) (hn : zs.length + ys.length ≤ 1048576)
    (h : ∀ v' w', OwnI base w' v' (zs ++ ys) → Below base wr w' → K (a.put o.dst v') w') :
    if Region.wanted o (yielded ops a.tmps) = true then Oper.wp Try.prog o a W K Q else E := by
  have hw : Region.wanted o (yielded ops a.tmps) = true := by simp [Region.wanted, hgd]
  rw [if_pos hw]
  have hown' := hown.below hbw
  have hbW : base ≤ W.heap.size := Nat.le_trans hb hbw.size
  obtain ⟨i0, hi, hz0, hz1, hz2⟩ := info_parts int_info
  refine wp_append_own W s x _ ho base 3 i0 (.int .i64 0) 1 8 Try.underlying26 hi hz0 hz1 hz2 rfl (by decide) v zs.length (ic zs) hs hown' ⟨b, off, none⟩ m c (ic ys) hx (by simp; omega) ?_ ?_ ?_ ?_ hbW ?_
  · intro j u hj
    have := hc j u hj
    unfold Addr.add
    split
    · rename_i h0; subst h0; simpa using this
    · exact this
  · intro y hy; simp [ic] at hy; obtain ⟨q, _, rfl⟩ := hy; rfl
  · unfold maxLen; omega
  · omega
  · intro v' w' hown2 hg _
    refine h v' w' (by unfold OwnI; rw [show (zs ++ ys).length = zs.length + m by simp [hl]]; simpa [ic] using hown2) ⟨hg.os.trans hbw.os, hg.tape.trans hbw.tape, hg.output.trans hbw.output, Nat.le_trans hbw.size hg.size, fun i hi2 => ?_⟩
    rw [hg.block i (by omega) (fun e => by have := World.ownsRow.lt hown' i e.symm; omega)]
    exact hbw.block i (by omega)

end Go.Proofs.Ytlipmbcjpmbjnaa
