/- What came in, opened; the law's own small helpers on []int: copy, equality, marks. -/
import Derived.Test.YtlipmbcjpmbjnaaRows
import Derived.Test.YtlipmbcjpmbjnaaLib
import Derived.Test.YtlipmbcjpmbjnaaTab
import Derived.ProofKit
import Derived.ShutString
import Derived.Below
namespace Go.Proofs.Ytlipmbcjpmbjnaa
open Go.ChangeShapes Go.WideShapes Go.ChangeAt Go.RowKit
open Go.ChangeMaps (open_string shut_string)
set_option linter.unusedVariables false

theorem own : ownKnob Try.prog.godebug = none := by kernel_rfl
theorem laidOut : laidOutB Try.prog = true := by kernel_rfl
theorem int_info : (Try.prog.info? 3).map (fun i => (i.zero, i.size, i.bytes)) = some (some (.int .i64 0), 1, 8) := by kernel_rfl

/-- An argument that is a slice of ints. -/
structure InInts (w : World) (v : Value) (zs : List Int) : Prop where
  ints : Ints w.heap.size w v zs
  wf : ∀ z ∈ zs, -9223372036854775808 ≤ z ∧ z ≤ 9223372036854775807

set_option maxRecDepth 100000 in
theorem in_ints {H : Type} {enc : TypeId × Value → H} {W : World} {base : Nat} {v : Value} {d : DataW H} {p : List MemPlace}
    (hv : Value.okWide Try.prog W .any base 26 v) (h : DataW.Trod enc Try.prog W 0 (fun _ => true) true 26 v d p) (_lt : ∀ x ∈ p, x.block < W.heap.size) :
    ∃ zs, InInts W v zs := by
  obtain ⟨a0, len0, cap0, rfl⟩ := okWide_slice Try.underlying26 hv
  obtain ⟨fuel, hf⟩ := h
  rcases open_ints Try.underlying26 Try.underlying3 (by kernel_rfl) hf with ⟨hcs, _⟩ | ⟨x, l, c, zs, hcs, _, hl, hm, hz, _, hcell, hwz⟩
  · simp [Value.cells] at hcs
    obtain ⟨rfl, rfl, rfl⟩ := hcs
    exact ⟨[], Ints.nil _ W, by simp⟩
  · simp [Value.cells] at hcs
    obtain ⟨rfl, rfl, rfl⟩ := hcs
    have hz' : zs.length = cap0 := by simpa using hz
    refine ⟨zs.take len0, ⟨some x, cap0, by rw [List.length_take, hz', Nat.min_eq_left hl], by rw [List.length_take, hz']; omega, hm, ?_⟩, fun z hzm => bounds_i64 (hwz z (List.mem_of_mem_take hzm))⟩
    intro h0
    have h0' : 0 < zs.length := by simp [List.length_take] at h0; omega
    have hc0 := hcell 0 h0'
    have hsp : x.spot = none := by simpa [Addr.add] using World.cell?_spot hc0
    obtain ⟨b, off, sp⟩ := x
    dsimp only at hsp
    subst hsp
    refine ⟨b, off, rfl, World.block_lt_of_cell? _ _ hc0, fun j u hu => ?_⟩
    rw [List.getElem?_map] at hu
    obtain ⟨z, hz1, rfl⟩ := Option.map_eq_some_iff.1 hu
    have hj : j < zs.length := by
      have := (List.getElem?_eq_some_iff.1 hz1).1
      simp [List.length_take] at this
      omega
    have hzj : zs[j]? = some z := by
      rw [List.getElem?_take] at hz1
      split at hz1
      · exact hz1
      · cases hz1
    have := hcell j hj
    rw [List.getD_eq_getElem?_getD, hzj] at this
    rcases Nat.eq_zero_or_pos j with rfl | hjp
    · simpa [Addr.add] using this
    · simpa [Addr.add, Nat.ne_of_gt hjp] using this

set_option maxHeartbeats 400000 in
/-- a copy in new memory -/
theorem toIntS_any {hi : Nat} (v : Value) (zs : List Int) (w : World) (h : Ints hi w v zs) (hn : zs.length ≤ 1048576) :
    Calls Try.prog 29 #[v] w fun e w' => ∃ v', e = .returned v' ∧ FInts w.heap.size w'.heap.size w' v' zs ∧ Below w.heap.size w w' := by
  obtain ⟨A, c, rfl, hc, hm, hrow⟩ := h
  have hmk := fun W => run_make_row' (P := Try.prog) 26 3 (.int .i64 0) 8 Try.underlying26 int_info rfl .i64 .i64 zs.length (by omega) (by omega) W
  unfold maxLen at hm
  go_enter Try.func29, Try.ntmps29
  go_wp2
  clear hmk
  go_loopw [4] (fun i wr => ∃ k : Nat, k ≤ zs.length ∧ i = .int .i64 k ∧ Blk wr w.heap.size 3 ((ic (zs.take k)) ++ List.replicate (zs.length - k) (Value.int .i64 0)).toArray ∧ Below w.heap.size w wr) (fun i _ => zs.length - (intOf i).toNat)
  case atStart => exact ⟨0, Nat.zero_le _, rfl, by simpa [madeCells_one] using Blk.new w 3 (madeCells #[Value.int .i64 0] zs.length), (Below.refl _ _).alloc (Nat.le_refl _) _⟩
  case round =>
    obtain ⟨k, hk, rfl, hblk, hbel⟩ := hrel
    by_cases hlt : k < zs.length
    · obtain ⟨b, off, x, rfl, hx, hcw⟩ := hrow.int hlt
      have hcr := below_old hbel _ _ hcw
      have hs : ∃ u, wr.cell? ⟨w.heap.size, k, none⟩ = some u := by
        rw [hblk.cell k]
        exact ⟨_, Array.getElem?_eq_getElem (by simp; omega)⟩
      obtain ⟨u, hs⟩ := hs
      have hf := hblk.frozen k
      have hnew := hblk.set_ k (.int .i64 x)
      rw [set_map _ _ _ _ hlt (by simp; omega), ← take_snoc hx] at hnew
      have HN := hide hnew
      have HB := hide hbel
      clear hnew hx hbel hcw hblk
      go_wp2
      go_roundw
      case rel => exact ⟨k + 1, by omega, by go_num, HN.out, HB.out.setCell (Nat.le_refl _) _⟩
      case measure => simp [intOf]; omega
    · obtain rfl : k = zs.length := by omega
      have HN := hide hblk
      have HB := hide hbel
      clear hblk hbel
      go_wp2
      go_ret
      refine ⟨_, rfl, ⟨_, _, rfl, Nat.le_refl _, by unfold maxLen; omega, HN.out.own (Nat.le_refl _) ?_⟩, HB.out⟩
      intro j u hu
      simpa using hu

set_option maxHeartbeats 400000 in
/-- two slices that read alike are equal -/
theorem eqIntS_yes {hi hi' : Nat} (v v' : Value) (zs : List Int) (w : World) (h : Ints hi w v zs) (h' : Ints hi' w v' zs) (hn : zs.length ≤ 1048576) :
    Calls Try.prog 13 #[v, v'] w fun e w' => e = .returned (.bool true) ∧ Quiet w w' := by
  obtain ⟨A, c, rfl, hc, hm, hrow⟩ := h
  obtain ⟨A', c', rfl, hc', hm', hrow'⟩ := h'
  unfold maxLen at hm hm'
  go_enter Try.func13, Try.ntmps13
  go_wp2
  go_loopw [5] (fun i wr => ∃ k : Nat, k ≤ zs.length ∧ i = .int .i64 k ∧ Quiet w wr) (fun i _ => zs.length - (intOf i).toNat)
  case atStart => exact ⟨0, Nat.zero_le _, rfl, Quiet.refl _⟩
  case round =>
    obtain ⟨k, hk, rfl, hq⟩ := hrel
    by_cases hlt : k < zs.length
    · obtain ⟨b, off, x, rfl, hx, hcw⟩ := hrow.int hlt
      obtain ⟨b', off', x', rfl, hx', hcw'⟩ := hrow'.int hlt
      obtain rfl : x = x' := by rw [hx] at hx'; injection hx'
      rw [← hq.cell] at hcw hcw'
      clear hx hx'
      go_wp2
      go_quiet (fail)
      go_wp2
      go_roundw
      case rel => exact ⟨k + 1, by omega, by go_num, hq.drewN _⟩
      case measure => simp [intOf]; omega
    · go_wp2
      go_ret
      exact ⟨rfl, hq⟩

set_option maxHeartbeats 400000 in
theorem markIntS_any {lo hi : Nat} (v : Value) (zs : List Int) (k0 : Int) (w : World) (h : FInts lo hi w v zs) (hn : zs.length ≤ 16777216) (h0 : 0 ≤ k0) (h1 : k0 ≤ 1099511627776) :
    Calls Try.prog 16 #[v, .int .i64 k0] w fun e w' => e = .returned (.int .i64 (k0 + zs.length)) ∧ FInts lo hi w' v (marks k0 zs.length) ∧ Chg lo hi w w' ∧ w.grownBy w' v.ownBlock ∧ (zs = [] → w' = w) := by
  obtain ⟨A, c, rfl, hc, hm, hrow⟩ := h
  unfold maxLen at hm
  rcases Nat.eq_zero_or_pos zs.length with hz | hz
  · obtain rfl : zs = [] := List.eq_nil_of_length_eq_zero hz
    go_enter Try.func16, Try.ntmps16
    go_wp2
    refine wp_loop_rounds 1 ?_
    rw [rounds_succ]
    go_wp2
    go_ret
    exact ⟨by simp, ⟨A, c, rfl, hc, by unfold maxLen; omega, Own.nil _ _ _ _⟩, chg_refl _ _ _, grown_refl _ _, fun _ => rfl⟩
  · obtain ⟨b, off, rfl, hl, hh, hcell⟩ := hrow (by simpa using hz)
    have hM : Marked lo hi w b off k0 zs 0 := ⟨hl, hh, fun j hj => by
      have := hcell j (.int .i64 zs[j]) (by simp [List.getElem?_eq_getElem hj])
      simpa [List.getElem?_eq_getElem hj] using this⟩
    clear hcell hrow
    go_enter Try.func16, Try.ntmps16
    go_wp2
    have HM := hide hM
    clear hM
    go_loopw [1, 5] (fun q i wr => ∃ k : Nat, k ≤ zs.length ∧ i = .int .i64 k ∧ q = .int .i64 (k0 + k) ∧ Marked lo hi wr b off k0 zs k ∧ Chg lo hi w wr ∧ w.grownBy wr (some b)) (fun _ i _ => zs.length - (intOf i).toNat)
    case atStart => exact ⟨0, Nat.zero_le _, rfl, by simp, HM.out, chg_refl _ _ _, grown_refl _ _⟩
    case round =>
      obtain ⟨k, hk, rfl, rfl, hM, hchg, hgr⟩ := hrel
      by_cases hlt : k < zs.length
      · have hs := (hM.2.2 k hlt).1
        have hf := (hM.2.2 k hlt).2
        rw [if_neg (by omega)] at hs
        have HM' := hide (hM.next hlt)
        have HC := hide (hchg.setCell (p := ⟨b, off + k, none⟩) hl hh (.int .i64 (k0 + k)))
        have HG := hide (grown_setCell hgr (off + k) (.int .i64 (k0 + k)))
        clear hM hchg hgr
        go_wp2
        go_roundw
        case rel => exact ⟨k + 1, by omega, by go_num, by go_num, HM'.out, HC.out, HG.out⟩
        case measure => simp [intOf]; omega
      · obtain rfl : k = zs.length := by omega
        have HM' := hide hM
        have HC := hide hchg
        have HG := hide hgr
        clear hM hchg hgr
        go_wp2
        go_ret
        refine ⟨rfl, ⟨some ⟨b, off, none⟩, c, by simp [marks_length], by simpa [marks_length] using hc, by unfold maxLen; omega, ?_⟩, HC.out, HG.out, fun h => by rw [h] at hz; simp at hz⟩
        intro _
        refine ⟨b, off, rfl, hl, hh, fun j u hu => ?_⟩
        have hj : j < zs.length := by
          have := (List.getElem?_eq_some_iff.1 hu).1
          simpa [marks] using this
        have hm := HM'.out.2.2 j hj
        rw [if_pos hj] at hm
        have hu' : u = .int .i64 (k0 + j) := by simpa [marks, hj] using hu.symm
        rw [hu']
        exact hm

set_option maxHeartbeats 400000 in
theorem heldIntS_yes {hi : Nat} (v : Value) (n : Nat) (k0 : Int) (w : World) (h : Ints hi w v (marks k0 n)) (hn : n ≤ 16777216) (h0 : 0 ≤ k0) (h1 : k0 ≤ 1099511627776) :
    Calls Try.prog 17 #[v, .int .i64 k0] w fun e w' => e = .returned (.int .i64 (k0 + n)) ∧ Quiet w w' := by
  obtain ⟨A, c, rfl, hc, hm, hrow⟩ := h
  have hl := marks_length k0 n
  rw [hl] at hc ⊢
  unfold maxLen at hm
  have HL := hide hl
  clear hl
  go_enter Try.func17, Try.ntmps17
  go_wp2
  go_loop [1, 5] (fun q i => ∃ k : Nat, k ≤ n ∧ i = .int .i64 k ∧ q = .int .i64 (k0 + k)) (fun _ i => n - (intOf i).toNat)
  case atStart => exact ⟨0, Nat.zero_le _, rfl, by simp⟩
  case round =>
    obtain ⟨k, hk, rfl, rfl⟩ := hrel
    by_cases hlt : k < n
    · obtain ⟨b, off, x, rfl, hx, hcw⟩ := hrow.int (k := k) (by rw [HL.out]; exact hlt)
      have hxx := marks_get hx
      rw [hxx] at hcw
      clear hx hxx
      go_wp2
      go_round
      case rel => exact ⟨k + 1, by omega, by go_num, by go_num⟩
      case measure => simp [intOf]; omega
    · obtain rfl : k = n := by omega
      go_wp2
      go_ret
      exact ⟨rfl, Quiet.refl _⟩

/-- a slice of ints that the call itself grows -/
def OwnI (base : Nat) (w : World) (v : Value) (zs : List Int) : Prop := w.ownsRow base 3 1 v zs.length (ic zs)
theorem OwnI.nil (base : Nat) (w : World) : OwnI base w (.slice none 0 0) [] := World.ownsRow_nil _ _ _ _
theorem OwnI.made (base : Nat) (w : World) (hb : base ≤ w.heap.size) : OwnI base (w.alloc (.cells #[] 3)) (.slice (some ⟨w.heap.size, 0, none⟩) 0 0) [] := World.ownsRow_made w #[] 0 hb (by simp [maxLen]) rfl
theorem OwnI.below {base : Nat} {w w' : World} {v : Value} {zs : List Int} (h : OwnI base w v zs) (hb : Below w.heap.size w w') : OwnI base w' v zs := ownsRow_below h hb
theorem OwnI.fints {base : Nat} {w : World} {v : Value} {zs : List Int} (h : OwnI base w v zs) : FInts base w.heap.size w v zs := by
  obtain ⟨A, c, e, h1, h2, h3⟩ := ownsRow_own h
  exact ⟨A, c, e, h1, h2, h3⟩
theorem append_int {ops : Array Oper} {rest : List Oper} {o : Oper} {a : Act} {Q : Exit → Act → World → Prop} {w : World} {y : Int} (hgd : o.guard = none) (s x : Operand)
    (ho : o.op = .call { callee := .builtin .append, args := #[s, x], argTypes := #[26, 26] })
    (base : Nat) {v : Value} {zs : List Int} (hs : a.eval s = v) (hown : OwnI base w v zs)
    (hx : a.eval x = .slice (some ⟨w.heap.size, 0, none⟩) 1 1) (hn : zs.length ≤ 1073741824) (hb : base ≤ w.heap.size)
    (h : ∀ v' w', OwnI base w' v' (zs ++ [y]) → Below base w w' → wpList Try.prog ops Q rest (a.put o.dst v') w') : wpList Try.prog ops Q (o :: rest) a (w.alloc (.cells #[.int .i64 y] 3)) :=
  wpList_append_1 hgd s x _ ho 3 (.int .i64 0) 8 Try.underlying26 int_info rfl (by decide) w base v zs.length (ic zs) hs hown (.int .i64 y) rfl hx hn hb fun v' w' h1 h2 =>
    h v' w' (by unfold OwnI; simpa [ic] using h1) h2

theorem append_ints {ops : Array Oper} {rest : List Oper} {o : Oper} {a : Act} {Q : Exit → Act → World → Prop} {w : World} (hgd : o.guard = none) (s x : Operand)
    (ho : o.op = .call { callee := .builtin .append, args := #[s, x], argTypes := #[26, 26] })
    (base : Nat) {v : Value} {zs : List Int} (hs : a.eval s = v) (hown : OwnI base w v zs) {hi c : Nat} {A : Option Addr} {ys : List Int} (hx : a.eval x = .slice A ys.length c) (hrow : Row hi w A (ic ys))
    (hn : zs.length + ys.length ≤ 1073741824) (hb : base ≤ w.heap.size)
    (h : ∀ v' w', OwnI base w' v' (zs ++ ys) → Below base w w' → wpList Try.prog ops Q rest (a.put o.dst v') w') : wpList Try.prog ops Q (o :: rest) a w :=
  wpList_append_n hgd s x _ ho 3 (.int .i64 0) 8 Try.underlying26 int_info rfl (by decide) base hs hown hx (by simp) hrow (by intro y hy; simp [ic] at hy; obtain ⟨q, _, rfl⟩ := hy; rfl) hn hb fun v' w' h1 h2 =>
    h v' w' (by unfold OwnI; simpa [ic] using h1) h2

end Go.Proofs.Ytlipmbcjpmbjnaa
