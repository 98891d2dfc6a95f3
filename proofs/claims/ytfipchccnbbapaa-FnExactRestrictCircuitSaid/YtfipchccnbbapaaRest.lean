/- The walks: slices of gates that the call itself grows; RestrictCircuit, DualCircuit. -/
import Derived.Test.YtfipchccnbbapaaVals
import Derived.Deep.AppendLies
import Derived.Deep.RegionHeld3
namespace Go.Proofs.Ytfipchccnbbapaa
open Go.RowKit
set_option linter.unusedVariables false

def OwnG (base : Nat) (w : World) (v : Value) (gs : List GateL) : Prop := w.ownsRow base 44 3 v gs.length (gcells gs)
theorem OwnG.nil (base : Nat) (w : World) : OwnG base w (.slice none 0 0) [] := World.ownsRow_nil _ _ _ _
theorem OwnG.made (base : Nat) (w : World) (hb : base ≤ w.heap.size) : OwnG base (w.alloc (.cells #[] 44)) (.slice (some ⟨w.heap.size, 0, none⟩) 0 0) [] := World.ownsRow_made w #[] 0 hb (by simp [maxLen]) rfl
theorem OwnG.below {base : Nat} {w w' : World} {v : Value} {gs : List GateL} (h : OwnG base w v gs) (hb : Below w.heap.size w w') : OwnG base w' v gs := ownsRow_below h hb
theorem OwnG.own {base : Nat} {w : World} {v : Value} {gs : List GateL} (h : OwnG base w v gs) : ∃ A c, v = .slice A gs.length c ∧ gs.length ≤ c ∧ c ≤ maxLen ∧ Own base w.heap.size w A (gcells gs) := by
  obtain ⟨hl, h2⟩ := h
  rcases h2 with ⟨rfl, h0⟩ | ⟨g, cap, cur, rfl, hb, hh, hnc, hm, hsz, htake⟩
  · have : gs = [] := List.eq_nil_of_length_eq_zero h0
    subst this
    exact ⟨none, 0, rfl, Nat.le_refl _, by simp [maxLen], Own.nil _ _ _ _⟩
  · refine ⟨_, _, rfl, hnc, hm, fun _ => ⟨g, 0, rfl, hb, Blk.lt (t := 44) (cs := cur) hh, fun j u hu => ?_⟩⟩
    have hB : Blk w g 44 cur := hh
    rw [Nat.zero_add, hB.cell j, hB.frozen j]
    refine ⟨?_, rfl⟩
    rw [← htake, List.getElem?_take] at hu
    split at hu
    · simpa using hu
    · cases hu
theorem OwnG.fgates {base : Nat} {w : World} {v : Value} {gs : List GateL} (h : OwnG base w v gs) : FGates base w.heap.size w v gs := by
  obtain ⟨A, c, e, h1, h2, h3⟩ := h.own
  exact ⟨A, c, e, h1, h2, h3⟩
theorem OwnG.lt {base : Nat} {w : World} {v : Value} {gs : List GateL} (h : OwnG base w v gs) : ∀ k, v.ownBlock = some k → base ≤ k ∧ k < w.heap.size := World.ownsRow.lt h

theorem gcells_one {gs : List GateL} : ∀ u ∈ gcells gs, u.oneCell' = true := by
  intro u hu
  obtain ⟨j, hj⟩ := List.getElem?_of_mem hu
  obtain ⟨k, g, _, hh⟩ := gcells_flat _ _ _ hj
  rcases hh with ⟨_, rfl⟩ | ⟨_, rfl⟩ | ⟨_, rfl⟩ <;> rfl

/-- append of one gate, in any region -/
theorem run_gate {wr W : World} {base : Nat} {v : Value} {gs : List GateL} (hown : OwnG base wr v gs) (hbw : Below wr.heap.size wr W) (hb : base ≤ wr.heap.size) :
    OwnG base W v gs ∧ base ≤ W.heap.size ∧ ∀ w', W.grownBy w' v.ownBlock → Below base wr w' := by
  refine ⟨hown.below hbw, Nat.le_trans hb hbw.size, fun w' hg => ⟨hg.os.trans hbw.os, hg.tape.trans hbw.tape, hg.output.trans hbw.output, Nat.le_trans hbw.size hg.size, fun i hi => ?_⟩⟩
  rw [hg.block i (Nat.lt_of_lt_of_le hi (Nat.le_trans hb hbw.size)) (fun e => by have := hown.lt i e.symm; omega)]
  exact hbw.block i (by omega)

theorem step_gate {ops : Array Oper} {o : Oper} {a : Act} {K : Act → World → Prop} {Q : Exit → Act → World → Prop} {E : Prop} {W : World} (hgd : o.guard = none) (s x : Operand)
    (ho : o.op = .call { callee := .builtin .append, args := #[s, x], argTypes := #[25, 25] })
    (base : Nat) {v : Value} {gs : List GateL} (hs : a.eval s = v) (wr : World) (hown : OwnG base wr v gs) (hbw : Below wr.heap.size wr W) (hb : base ≤ wr.heap.size) (hn : gs.length ≤ 1073741824)
    {H : Nat} (hx : a.eval x = .slice (some ⟨H, 0, none⟩) 1 1) (g : GateL) (hc0 : W.cell? ⟨H, 0, none⟩ = some (.int .i64 g.1)) (hc1 : W.cell? ⟨H, 1, none⟩ = some (.int .i64 g.2.1)) (hc2 : W.cell? ⟨H, 2, none⟩ = some (.int .i64 g.2.2))
    (h : ∀ v' w', OwnG base w' v' (gs ++ [g]) → Below base wr w' → K (a.put o.dst v') w') :
    if Region.wanted o (yielded ops a.tmps) = true then Oper.wp Try.prog o a W K Q else E := by
  obtain ⟨hown', hb', hbel⟩ := run_gate hown hbw hb
  obtain ⟨i0, hi, hz0, hz1, hz2⟩ := info_parts gate_info
  refine step_append_lies W hgd s x _ ho base 44 i0 _ 3 24 Try.underlying25 hi hz0 hz1 hz2 rfl (by decide) v gs.length (gcells gs) hs hown' ⟨H, 0, none⟩ 1 1 (gcells [g]) hx rfl ?_ gcells_one (by decide) ?_ ?_ hb' W.heap.size rfl ?_
  · intro j y hj
    match j, hj with
    | 0, hj => simp [gcells] at hj; subst hj; simpa [Addr.add] using hc0
    | 1, hj => simp [gcells] at hj; subst hj; simpa [Addr.add] using hc1
    | 2, hj => simp [gcells] at hj; subst hj; simpa [Addr.add] using hc2
    | j + 3, hj => simp [gcells] at hj
  · unfold maxLen; omega
  · omega
  · intro g' cap w' hown2 hg _ _
    exact h _ w' (by unfold OwnG; simpa [gcells_append] using hown2) (hbel w' hg)
theorem append_gate {ops : Array Oper} {rest : List Oper} {o : Oper} {a : Act} {Q : Exit → Act → World → Prop} {W : World} (hgd : o.guard = none) (s x : Operand)
    (ho : o.op = .call { callee := .builtin .append, args := #[s, x], argTypes := #[25, 25] })
    (base : Nat) {v : Value} {gs : List GateL} (hs : a.eval s = v) (wr : World) (hown : OwnG base wr v gs) (hbw : Below wr.heap.size wr W) (hb : base ≤ wr.heap.size) (hn : gs.length ≤ 1073741824)
    {H : Nat} (hx : a.eval x = .slice (some ⟨H, 0, none⟩) 1 1) (g : GateL) (hc0 : W.cell? ⟨H, 0, none⟩ = some (.int .i64 g.1)) (hc1 : W.cell? ⟨H, 1, none⟩ = some (.int .i64 g.2.1)) (hc2 : W.cell? ⟨H, 2, none⟩ = some (.int .i64 g.2.2))
    (h : ∀ v' w', OwnG base w' v' (gs ++ [g]) → Below base wr w' → wpList Try.prog ops Q rest (a.put o.dst v') w') : wpList Try.prog ops Q (o :: rest) a W := by
  obtain ⟨hown', hb', hbel⟩ := run_gate hown hbw hb
  obtain ⟨i0, hi, hz0, hz1, hz2⟩ := info_parts gate_info
  refine wpList_append_lies W hgd s x _ ho base 44 i0 _ 3 24 Try.underlying25 hi hz0 hz1 hz2 rfl (by decide) v gs.length (gcells gs) hs hown' ⟨H, 0, none⟩ 1 1 (gcells [g]) hx rfl ?_ gcells_one (by decide) ?_ ?_ hb' W.heap.size rfl ?_
  · intro j y hj
    match j, hj with
    | 0, hj => simp [gcells] at hj; subst hj; simpa [Addr.add] using hc0
    | 1, hj => simp [gcells] at hj; subst hj; simpa [Addr.add] using hc1
    | 2, hj => simp [gcells] at hj; subst hj; simpa [Addr.add] using hc2
    | j + 3, hj => simp [gcells] at hj
  · unfold maxLen; omega
  · omega
  · intro g' cap w' hown2 hg _ _
    exact h _ w' (by unfold OwnG; simpa [gcells_append] using hown2) (hbel w' hg)

set_option maxHeartbeats 400000 in
theorem g_CloneG {hi : Nat} (v : Value) (gs : List GateL) (w : World) (h : Gates hi w v gs) (hn : gs.length ≤ 16777216) :
    Calls Try.prog 53 #[v] w fun e w' => ∃ v', e = .returned v' ∧ OwnG w.heap.size w' v' gs ∧ Below w.heap.size w w' := by
  obtain ⟨A, c, rfl, hc, hm, hrow⟩ := h
  unfold maxLen at hm
  rcases A with _ | ad
  · have hz : gs = [] := by
      rcases Nat.eq_zero_or_pos gs.length with h0 | h0
      · exact List.eq_nil_of_length_eq_zero h0
      · obtain ⟨_, _, hh, _⟩ := hrow (by rw [gcells_length]; omega)
        cases hh
    have heq : ∀ W, (binOp .eql 25 (.slice none gs.length c) (.slice none 0 0)).run Try.prog W = .ok (.bool true) W := fun W => Lib.run_eql_slice_nil W 25 44 none gs.length c 0 0 Try.underlying25
    have HZ := hide hz
    clear hz
    go_enter Try.func53, Try.ntmps53
    go_wp2_with fail
    go_ret
    exact ⟨_, rfl, by rw [HZ.out]; exact OwnG.nil _ _, Below.refl _ _⟩
  · have heq : ∀ W, (binOp .eql 25 (.slice (some ad) gs.length c) (.slice none 0 0)).run Try.prog W = .ok (.bool false) W := fun W => Lib.run_eql_slice_nil W 25 44 (some ad) gs.length c 0 0 Try.underlying25
    have hmade := OwnG.made w.heap.size w (Nat.le_refl _)
    have hal : Below w.heap.size w (w.alloc (.cells #[] 44)) := (Below.refl w.heap.size w).alloc (Nat.le_refl _) (.cells #[] 44)
    have hrow' := hrow.below hal
    obtain ⟨i0, hi0, hz0, hz1, hz2⟩ := info_parts gate_info
    have hnews : ∀ j u, (gcells gs)[j]? = some u → (w.alloc (.cells #[] 44)).cell? (ad.add j) = some u := by
      intro j u hu
      obtain ⟨b, off, e, _, hcc⟩ := hrow' (by have := (List.getElem?_eq_some_iff.1 hu).1; omega)
      injection e with e
      subst e
      have := hcc j u hu
      unfold Addr.add
      split
      · rename_i h0; subst h0; simpa using this
      · exact this
    have HN := hide hnews
    clear hnews hrow hrow'
    go_enter Try.func53, Try.ntmps53
    go_wp2_with (at_builtin; refine wpList_append_own _ rfl _ _ _ rfl w.heap.size 44 i0 _ 3 24 Try.underlying25 hi0 hz0 hz1 hz2 rfl (by decide) _ 0 [] rfl hmade ad gs.length c (gcells gs) rfl (by rw [gcells_length]; omega) HN.out gcells_one (by unfold maxLen; omega) (by omega) (by simp) ?_; intro v1 w1 hown1 hg1 _)
    go_ret
    have hown1' : OwnG w.heap.size w1 v1 gs := by unfold OwnG; simpa using hown1
    refine ⟨_, rfl, hown1', ?_⟩
    refine ⟨hg1.os, hg1.tape, hg1.output, Nat.le_trans (by simp) hg1.size, fun k hk => ?_⟩
    rw [hg1.block k (by simp; omega) (fun e => by have e' : some k = some w.heap.size := e; injection e' with e'; omega)]
    exact hal.block k hk

/-! plain -/
def oppK (k : Int) : Int := if k = 5 then 6 else if k = 6 then 5 else if k = 2 then 3 else if k = 3 then 2 else k
def dualG (g : GateL) : GateL := (oppK g.1, g.2.1, g.2.2)
def restG (v : Int) (val : Bool) (g : GateL) : GateL := if g.1 = 1 ∧ g.2.1 = v then (if val then 2 else 3, 0, 0) else g

theorem i_dualKind (k : Int) (w : World) : Calls Try.prog 55 #[.int .i64 k] w fun e w' => e = .returned (.int .i64 (oppK k)) ∧ w = w' := by
  by_cases h5 : k = 5
  · subst h5
    go_enter Try.func55, Try.ntmps55
    go_wp2
    go_ret
    exact ⟨rfl, rfl⟩
  by_cases h6 : k = 6
  · subst h6
    go_enter Try.func55, Try.ntmps55
    go_wp2
    go_ret
    exact ⟨rfl, rfl⟩
  by_cases h2 : k = 2
  · subst h2
    go_enter Try.func55, Try.ntmps55
    go_wp2
    go_ret
    exact ⟨rfl, rfl⟩
  by_cases h3 : k = 3
  · subst h3
    go_enter Try.func55, Try.ntmps55
    go_wp2
    go_ret
    exact ⟨rfl, rfl⟩
  have HK := hide (show oppK k = k by unfold oppK; simp [h5, h6, h2, h3])
  have n5 : (k == 5) = false := by simpa using h5
  have n6 : (k == 6) = false := by simpa using h6
  have n2 : (k == 2) = false := by simpa using h2
  have n3 : (k == 3) = false := by simpa using h3
  go_enter Try.func55, Try.ntmps55
  go_wp2
  go_ret
  exact ⟨by rw [HK.out]; rfl, rfl⟩

theorem s_l6Opposite (k : Int) (w : World) : Calls Try.prog 54 #[.int .i64 k] w fun e w' => e = .returned (.int .i64 (oppK k)) ∧ w = w' := by
  by_cases h5 : k = 5
  · subst h5
    go_enter Try.func54, Try.ntmps54
    go_wp2
    go_ret
    exact ⟨rfl, rfl⟩
  by_cases h6 : k = 6
  · subst h6
    go_enter Try.func54, Try.ntmps54
    go_wp2
    go_ret
    exact ⟨rfl, rfl⟩
  by_cases h2 : k = 2
  · subst h2
    go_enter Try.func54, Try.ntmps54
    go_wp2
    go_ret
    exact ⟨rfl, rfl⟩
  by_cases h3 : k = 3
  · subst h3
    go_enter Try.func54, Try.ntmps54
    go_wp2
    go_ret
    exact ⟨rfl, rfl⟩
  have HK := hide (show oppK k = k by unfold oppK; simp [h5, h6, h2, h3])
  have n5 : (k == 5) = false := by simpa using h5
  have n6 : (k == 6) = false := by simpa using h6
  have n2 : (k == 2) = false := by simpa using h2
  have n3 : (k == 3) = false := by simpa using h3
  go_enter Try.func54, Try.ntmps54
  go_wp2
  go_ret
  exact ⟨by rw [HK.out]; rfl, rfl⟩

theorem below_drew_of {B : Nat} {a w : World} (h : Below B a w) : Below B a w.drew := ⟨h.os, h.tape, h.output, h.size, h.block⟩
theorem below_alloc_of {a w : World} (h : Below a.heap.size a w) (o : Obj) : Below a.heap.size a (w.alloc o) := h.alloc h.size o

def fDualCircuit (vars : Int) (gs : List GateL) : List GateL × Bool := if circB vars gs then (gs.map dualG, true) else ([], false)
def fRestrictCircuit (vars : Int) (gs : List GateL) (v : Int) (val : Bool) : List GateL × Bool := if circB vars gs then (if inB v 1 vars then (gs.map (restG v val), true) else ([], false)) else ([], false)
theorem fDualCircuit_len {vars : Int} {gs : List GateL} {r0 : List GateL} {r1 : Bool} (hn : szG gs ≤ 1048576) (hR : fDualCircuit vars gs = (r0, r1)) : szG r0 ≤ 1048576 := by
  unfold fDualCircuit at hR
  unfold szG at *
  split at hR
  · injection hR with h1 _; rw [← h1]; simpa using hn
  · injection hR with h1 _; rw [← h1]; simp
theorem fRestrictCircuit_len {vars : Int} {gs : List GateL} {v : Int} {val : Bool} {r0 : List GateL} {r1 : Bool} (hn : szG gs ≤ 1048576) (hR : fRestrictCircuit vars gs v val = (r0, r1)) : szG r0 ≤ 1048576 := by
  unfold fRestrictCircuit at hR
  unfold szG at *
  split at hR
  · split at hR
    · injection hR with h1 _; rw [← h1]; simpa using hn
    · injection hR with h1 _; rw [← h1]; simp
  · injection hR with h1 _; rw [← h1]; simp

/-- a gate of a slice that is turned in place -/
theorem Cel.gate {w : World} {b off : Nat} {xs ys : List GateL} {g : GateL} (h : Cel w b off (gcells (xs ++ g :: ys))) {k : Nat} (hk : xs.length = k) :
    (w.cell? ⟨b, off + k * 3, none⟩ = some (.int .i64 g.1) ∧ w.frozen? ⟨b, off + k * 3, none⟩ = false) ∧ (w.cell? ⟨b, off + k * 3 + 1, none⟩ = some (.int .i64 g.2.1) ∧ w.frozen? ⟨b, off + k * 3 + 1, none⟩ = false) ∧
      w.cell? ⟨b, off + k * 3 + 2, none⟩ = some (.int .i64 g.2.2) ∧ w.frozen? ⟨b, off + k * 3 + 2, none⟩ = false := by
  have hget := gcells_get (xs ++ g :: ys) k g (by rw [List.getElem?_append_right (by omega), hk]; simp)
  exact ⟨h _ _ hget.1, by simpa [Nat.add_assoc] using h _ _ hget.2.1, by simpa [Nat.add_assoc] using h _ _ hget.2.2⟩
theorem Cel.gate_set {w : World} {b off : Nat} {xs ys : List GateL} {g : GateL} (h : Cel w b off (gcells (xs ++ g :: ys))) {k : Nat} (hk : xs.length = k) (x y z : Int) :
    Cel (((w.setCell ⟨b, off + k * 3, none⟩ (.int .i64 x)).setCell ⟨b, off + k * 3 + 1, none⟩ (.int .i64 y)).setCell ⟨b, off + k * 3 + 2, none⟩ (.int .i64 z)) b off (gcells (xs ++ (x, y, z) :: ys)) := by
  have hlen : 3 * k + 3 ≤ (gcells (xs ++ g :: ys)).length := by rw [gcells_length]; simp; omega
  have hset := gcells_set3 x y z g ys xs
  rw [hk] at hset
  have h3 := ((h.set_ (i := k * 3) (by omega) (.int .i64 x)).set_ (i := k * 3 + 1) (by simp; omega) (.int .i64 y)).set_ (i := k * 3 + 2) (by simp; omega) (.int .i64 z)
  rw [hset] at h3
  simpa only [Nat.add_assoc] using h3
theorem gcells_set1 (a : Int) (g : GateL) (ys : List GateL) : ∀ xs : List GateL, (gcells (xs ++ g :: ys)).set (xs.length * 3) (.int .i64 a) = gcells (xs ++ (a, g.2.1, g.2.2) :: ys)
  | [] => by simp [gcells]
  | x :: r => by
    have ih := gcells_set1 a g ys r
    simp only [List.cons_append, gcells, List.length_cons]
    rw [← ih]
    generalize gcells (r ++ g :: ys) = L
    rw [show (r.length + 1) * 3 = r.length * 3 + 1 + 1 + 1 from by omega]
    simp only [List.set_cons_succ]
theorem Cel.gate_set1 {w : World} {b off : Nat} {xs ys : List GateL} {g : GateL} (h : Cel w b off (gcells (xs ++ g :: ys))) {k : Nat} (hk : xs.length = k) (x : Int) :
    Cel (w.setCell ⟨b, off + k * 3, none⟩ (.int .i64 x)) b off (gcells (xs ++ (x, g.2.1, g.2.2) :: ys)) := by
  have hlen : 3 * k + 3 ≤ (gcells (xs ++ g :: ys)).length := by rw [gcells_length]; simp; omega
  have hset := gcells_set1 x g ys xs
  rw [hk] at hset
  have h3 := h.set_ (i := k * 3) (by omega) (.int .i64 x)
  rwa [hset] at h3

set_option maxHeartbeats 800000 in
theorem I_DualCircuit {hi : Nat} (vars : Int) (v : Value) (gs : List GateL) (r0 : List GateL) (r1 : Bool) (w : World) (h : Gates hi w v gs) (hn0 : szG gs ≤ 1048576) (hR : fDualCircuit vars gs = (r0, r1)) :
    Calls Try.prog 32 #[.int .i64 vars, v] w fun e w' => ∃ v', e = .returned (.tuple #[v', .bool r1]) ∧ FGates w.heap.size w'.heap.size w' v' r0 ∧ Below w.heap.size w w' := by
  cases hg : circB vars gs with
  | false =>
    obtain ⟨rfl, rfl⟩ : r0 = [] ∧ r1 = false := by simpa [fDualCircuit, hg, eq_comm] using hR
    clear hR
    go_enter Try.func32, Try.ntmps32
    go_wp2_with fail
    refine (i_IsCircuit vars v gs w h hn0).mono ?_
    rw [hg]
    rintro e w1 ⟨rfl, hb1⟩
    go_wp2_with fail
    go_ret2
    exact ⟨_, rfl, FGates.nil _ _ _, hb1⟩
  | true =>
    obtain ⟨hr0, rfl⟩ : r0 = gs.map dualG ∧ r1 = true := by simpa [fDualCircuit, hg, eq_comm] using hR
    have HR := hide hr0
    obtain ⟨_, hl1, hl2, _⟩ := circ_parts hg
    clear hR hr0
    go_enter Try.func32, Try.ntmps32
    go_wp2_with fail
    refine (i_IsCircuit vars v gs w h hn0).mono ?_
    rw [hg]
    rintro e w1 ⟨rfl, hb1⟩
    go_wp2_with fail
    refine (g_CloneG v gs w1 (h.below hb1) (by omega)).mono ?_
    rintro e w2 ⟨v2, rfl, hown, hb2⟩
    obtain ⟨A2, c2, rfl, hc2, hm2, hown2⟩ := hown.own
    obtain ⟨b, off, rfl, hlb, hhb, hcel⟩ := hown2.cel (by rw [gcells_length]; omega)
    have HC0 := hide hcel
    have hb12 := hb1.trans (hb2.mono hb1.size)
    have hwb : w.heap.size ≤ b := Nat.le_trans hb1.size hlb
    unfold maxLen at hm2
    clear hcel hown2 hown h
    go_wp2_with fail
    go_loopw [16] (fun i wr => ∃ k : Nat, k ≤ gs.length ∧ i = .int .i64 k ∧ Cel wr b off (gcells ((gs.take k).map dualG ++ gs.drop k)) ∧ Below w.heap.size w wr ∧ b < wr.heap.size) (fun i _ => gs.length - (intOf i).toNat)
    case atStart => exact ⟨0, Nat.zero_le _, rfl, by simpa using HC0.out, hb12, hhb⟩
    case round =>
      obtain ⟨k, hk, rfl, hC, hbel, hbr⟩ := hrel
      by_cases hlt : k < gs.length
      · have hx : gs.drop k = gs[k] :: gs.drop (k + 1) := List.drop_eq_getElem_cons hlt
        obtain ⟨g, hgk⟩ : ∃ g, gs[k] = g := ⟨_, rfl⟩
        rw [hgk] at hx
        have hlk : ((gs.take k).map dualG).length = k := by simp; omega
        rw [hx] at hC
        obtain ⟨⟨s0, t0⟩, -, -⟩ := hC.gate hlk
        have hC1 := hC.gate_set1 hlk (oppK g.1)
        rw [show (gs.take k).map dualG ++ (oppK g.1, g.2.1, g.2.2) :: gs.drop (k + 1) = (gs.take (k + 1)).map dualG ++ gs.drop (k + 1) from by rw [take_snoc_l hx]; simp [dualG]] at hC1
        have HC1 := hide hC1
        have HBE := hide (hbel.setCell (p := ⟨b, off + k * 3, none⟩) hwb (.int .i64 (oppK g.1)))
        clear hC hC1 hx hgk hlk
        go_wp2_with (go_at_call 55; refine (i_dualKind _ _).mono ?_; rintro e w' ⟨rfl, rfl⟩)
        go_roundw
        case rel => exact ⟨k + 1, by omega, by go_num, HC1.out, HBE.out, by simpa [World.setCell] using hbr⟩
        case measure => simp [intOf]; omega
      · obtain rfl : k = gs.length := by omega
        have HC := hide hC
        clear hC
        go_wp2_with fail
        go_ret2
        have := HC.out
        rw [List.drop_length, List.append_nil, List.take_length, ← HR.out] at this
        have hrl : r0.length = gs.length := by rw [HR.out]; simp
        exact ⟨_, rfl, ⟨some ⟨b, off, none⟩, c2, by rw [hrl]; rfl, by rw [hrl]; exact hc2, by unfold maxLen; omega, this.own hwb hbr⟩, hbel⟩

set_option maxHeartbeats 1600000 in
theorem S_DualCircuit {hi : Nat} (vars : Int) (v : Value) (gs : List GateL) (r0 : List GateL) (r1 : Bool) (w : World) (h : Gates hi w v gs) (hn0 : szG gs ≤ 1048576) (hR : fDualCircuit vars gs = (r0, r1)) :
    Calls Try.prog 31 #[.int .i64 vars, v] w fun e w' => ∃ v', e = .returned (.tuple #[v', .bool r1]) ∧ FGates w.heap.size w'.heap.size w' v' r0 ∧ Below w.heap.size w w' := by
  have hmade := OwnG.made w.heap.size w (Nat.le_refl _)
  have hal0 : Below w.heap.size w (w.alloc (.cells #[] 44)) := (Below.refl _ _).alloc (Nat.le_refl _) _
  have HMADE := hide hmade
  have HG0 := hide (s_l6Good vars v gs _ (h.below hal0) hn0)
  clear hmade
  cases hg : circB vars gs with
  | false =>
    obtain ⟨rfl, rfl⟩ : r0 = [] ∧ r1 = false := by simpa [fDualCircuit, hg, eq_comm] using hR
    clear hR
    go_enter Try.func31, Try.ntmps31
    go_wp2_with fail
    refine HG0.out.mono ?_
    rw [hg]
    rintro e w1 ⟨rfl, hb1⟩
    go_wp2_with fail
    go_ret2
    have hbt := hal0.trans (hb1.mono (by simp))
    exact ⟨_, rfl, (HMADE.out.below hb1).fgates.mono (Nat.le_refl _) (Nat.le_refl _), hbt⟩
  | true =>
    obtain ⟨hr0, rfl⟩ : r0 = gs.map dualG ∧ r1 = true := by simpa [fDualCircuit, hg, eq_comm] using hR
    have HR := hide hr0
    obtain ⟨_, hl1, hl2, _⟩ := circ_parts hg
    clear hR hr0
    go_enter Try.func31, Try.ntmps31
    go_wp2_with fail
    refine HG0.out.mono ?_
    rw [hg]
    rintro e w1 ⟨rfl, hb1⟩
    have hbt := hal0.trans (hb1.mono (by simp))
    obtain ⟨A, c, rfl, hc, hm, hrow⟩ := h.top.below hbt
    have HM1 := hide (HMADE.out.below hb1)
    unfold maxLen at hm
    clear h
    go_wp2_with fail
    go_loopw [6, 7] (fun q i wr => ∃ k : Nat, k ≤ gs.length ∧ i = .int .i64 k ∧ OwnG w.heap.size wr q ((gs.take k).map dualG) ∧ Below w.heap.size w1 wr) (fun _ i _ => gs.length - (intOf i).toNat)
    case atStart => exact ⟨0, Nat.zero_le _, rfl, by simpa using HM1.out, Below.refl _ _⟩
    case round =>
      obtain ⟨k, hk, rfl, hown, hbel⟩ := hrel
      by_cases hlt : k < gs.length
      · obtain ⟨b, off, ⟨g0, g1, g2⟩, rfl, hx, hc0, hc1, hc2⟩ := hrow.gate hlt
        have hbb : b < w.heap.size := by obtain ⟨b', off', e', hlt', _⟩ := hrow (by rw [gcells_length]; omega); injection e' with e'; injection e' with e1 e2; omega
        replace hc0 := (hbel.cell (p := ⟨b, off + k * 3, none⟩) hbb).trans hc0
        replace hc1 := (hbel.cell (p := ⟨b, off + k * 3 + 1, none⟩) hbb).trans hc1
        replace hc2 := (hbel.cell (p := ⟨b, off + k * 3 + 2, none⟩) hbb).trans hc2
        have HF := hide (show (gs.take (k + 1)).map dualG = (gs.take k).map dualG ++ [(oppK g0, g1, g2)] by rw [take_snoc_l hx]; simp [dualG])
        have hsz := Nat.le_trans hbt.size hbel.size
        have HL := hide (show ((gs.take k).map dualG).length ≤ 1073741824 by simp; omega)
        clear hx
        go_wp2_with fail
        go_region_held3 (fun w' => w'.cell? ⟨b, off + k * 3, none⟩ = some (.int .i64 g0) ∧ w'.cell? ⟨b, off + k * 3 + 1, none⟩ = some (.int .i64 g1) ∧ w'.cell? ⟨b, off + k * 3 + 2, none⟩ = some (.int .i64 g2)) (first | go_keep | exact ⟨hc0, hc1, hc2⟩)
          ((first | (go_at_call 54; refine (s_l6Opposite _ _).mono ?_; rintro e w' ⟨rfl, rfl⟩) | ((refine step_gate (H := wr.heap.size) rfl _ _ rfl w.heap.size ?_ wr hown ?_ hsz HL.out ?_ (oppK g0, g1, g2) ?_ ?_ ?_ ?_); (· rfl); (· (repeat (first | exact Below.refl _ _ | apply below_drew_of | apply below_alloc_of))); (· rfl); (· simp); (· simp); (· simp); (intro v2 w2 hown2 hb2; replace hc0 := (hb2.cell (p := ⟨b, off + k * 3, none⟩) hbb).trans hc0; replace hc1 := (hb2.cell (p := ⟨b, off + k * 3 + 1, none⟩) hbb).trans hc1; replace hc2 := (hb2.cell (p := ⟨b, off + k * 3 + 2, none⟩) hbb).trans hc2))))
        go_wp2_with fail
        go_roundw
        case rel => exact ⟨k + 1, by omega, by go_num, by rw [HF.out]; exact hown2, hbel.trans hb2⟩
        case measure => simp [intOf]; omega
      · obtain rfl : k = gs.length := by omega
        have HC := hide hown
        clear hown
        go_wp2_with fail
        go_ret2
        have := HC.out.fgates
        rw [List.take_length, ← HR.out] at this
        exact ⟨_, rfl, this.mono (Nat.le_refl _) (Nat.le_refl _), hbt.trans hbel⟩

theorem s_l6Constant (val : Bool) (w : World) : Calls Try.prog 51 #[.bool val] w fun e w' => e = .returned (gv (if val then 2 else 3, 0, 0)) ∧ Below w.heap.size w w' := by
  have hal : ∀ o, Below w.heap.size w (w.alloc o) := fun o => (Below.refl _ _).alloc (Nat.le_refl _) o
  cases val with
  | true =>
    go_enter Try.func51, Try.ntmps51
    go_wp2
    refine bodyPost_ret (v := .agg #[.int .i64 2, .int .i64 0, .int .i64 0]) (by simp [results, Try.results51, go_sem]) rfl ⟨rfl, hal _⟩
  | false =>
    go_enter Try.func51, Try.ntmps51
    go_wp2
    refine bodyPost_ret (v := .agg #[.int .i64 3, .int .i64 0, .int .i64 0]) (by simp [results, Try.results51, go_sem]) rfl ⟨rfl, hal _⟩

set_option maxHeartbeats 1600000 in
theorem S_RestrictCircuit {hi : Nat} (vars : Int) (v : Value) (gs : List GateL) (x : Int) (val : Bool) (r0 : List GateL) (r1 : Bool) (w : World) (h : Gates hi w v gs) (hn0 : szG gs ≤ 1048576) (hR : fRestrictCircuit vars gs x val = (r0, r1)) :
    Calls Try.prog 25 #[.int .i64 vars, v, .int .i64 x, .bool val] w fun e w' => ∃ v', e = .returned (.tuple #[v', .bool r1]) ∧ FGates w.heap.size w'.heap.size w' v' r0 ∧ Below w.heap.size w w' := by
  have hmade := OwnG.made w.heap.size w (Nat.le_refl _)
  have hal0 : Below w.heap.size w (w.alloc (.cells #[] 44)) := (Below.refl _ _).alloc (Nat.le_refl _) _
  have HMADE := hide hmade
  have HG0 := hide (s_l6Good vars v gs _ (h.below hal0) hn0)
  clear hmade
  cases hg : circB vars gs with
  | false =>
    obtain ⟨rfl, rfl⟩ : r0 = [] ∧ r1 = false := by simpa [fRestrictCircuit, hg, eq_comm] using hR
    clear hR
    go_enter Try.func25, Try.ntmps25
    go_wp2_with fail
    refine HG0.out.mono ?_
    rw [hg]
    rintro e w1 ⟨rfl, hb1⟩
    go_wp2_with fail
    go_ret2
    have hbt := hal0.trans (hb1.mono (by simp))
    exact ⟨_, rfl, (HMADE.out.below hb1).fgates.mono (Nat.le_refl _) (Nat.le_refl _), hbt⟩
  | true =>
    cases hv : inB x 1 vars with
    | false =>
      obtain ⟨rfl, rfl⟩ : r0 = [] ∧ r1 = false := by simpa [fRestrictCircuit, hg, hv, eq_comm] using hR
      clear hR
      go_enter Try.func25, Try.ntmps25
      go_wp2_with fail
      refine HG0.out.mono ?_
      rw [hg]
      rintro e w1 ⟨rfl, hb1⟩
      go_wp2_with (go_at_call 50; refine (s_l1In _ _ _ _).mono ?_; rintro e w2 ⟨rfl, rfl⟩)
      go_ret2
      have hbt := hal0.trans (hb1.mono (by simp))
      exact ⟨_, rfl, (HMADE.out.below hb1).fgates.mono (Nat.le_refl _) (Nat.le_refl _), hbt⟩
    | true =>
      obtain ⟨hr0, rfl⟩ : r0 = gs.map (restG x val) ∧ r1 = true := by simpa [fRestrictCircuit, hg, hv, eq_comm] using hR
      have HR := hide hr0
      obtain ⟨_, hl1, hl2, _⟩ := circ_parts hg
      clear hR hr0
      go_enter Try.func25, Try.ntmps25
      go_wp2_with fail
      refine HG0.out.mono ?_
      rw [hg]
      rintro e w1 ⟨rfl, hb1⟩
      have hbt := hal0.trans (hb1.mono (by simp))
      obtain ⟨A, c, rfl, hc, hm, hrow⟩ := h.top.below hbt
      have HM1 := hide (HMADE.out.below hb1)
      unfold maxLen at hm
      clear h
      go_wp2_with (go_at_call 50; refine (s_l1In _ _ _ _).mono ?_; rintro e w2 ⟨rfl, rfl⟩)
      go_loopw [10, 11] (fun q i wr => ∃ k : Nat, k ≤ gs.length ∧ i = .int .i64 k ∧ OwnG w.heap.size wr q ((gs.take k).map (restG x val)) ∧ Below w.heap.size w1 wr) (fun _ i _ => gs.length - (intOf i).toNat)
      case atStart => exact ⟨0, Nat.zero_le _, rfl, by simpa using HM1.out, Below.refl _ _⟩
      case round =>
        obtain ⟨k, hk, rfl, hown, hbel⟩ := hrel
        by_cases hlt : k < gs.length
        · obtain ⟨b, off, ⟨g0, g1, g2⟩, rfl, hx, hc0, hc1, hc2⟩ := hrow.gate hlt
          have hbb : b < w.heap.size := by obtain ⟨b', off', e', hlt', _⟩ := hrow (by rw [gcells_length]; omega); injection e' with e'; injection e' with e1 e2; omega
          replace hc0 := (hbel.cell (p := ⟨b, off + k * 3, none⟩) hbb).trans hc0
          replace hc1 := (hbel.cell (p := ⟨b, off + k * 3 + 1, none⟩) hbb).trans hc1
          replace hc2 := (hbel.cell (p := ⟨b, off + k * 3 + 2, none⟩) hbb).trans hc2
          have hsz := Nat.le_trans hbt.size hbel.size
          have HL := hide (show ((gs.take k).map (restG x val)).length ≤ 1073741824 by simp; omega)
          by_cases hp : g0 = 1 ∧ g1 = x
          · have HF := hide (show (gs.take (k + 1)).map (restG x val) = (gs.take k).map (restG x val) ++ [(if val then 2 else 3, 0, 0)] by rw [take_snoc_l hx]; simp [restG, hp])
            obtain ⟨rfl, rfl⟩ := hp
            have HK := fun W => hide (s_l6Constant val W)
            unfold gv at HK
            clear hx
            go_wp2_with fail
            refine (HK _).out.mono ?_
            rintro e w2 ⟨rfl, hb2⟩
            have hown2 := hown.below hb2
            have hsz2 := Nat.le_trans hsz hb2.size
            have hbel2 := hbel.trans (hb2.mono hsz)
            dsimp only
            go_wp2_with (at_builtin; (refine append_gate (H := w2.heap.size) rfl _ _ rfl w.heap.size ?_ w2 hown2 ?_ hsz2 HL.out ?_ (if val = true then 2 else 3, 0, 0) ?_ ?_ ?_ ?_); (· rfl); (· (repeat (first | exact Below.refl _ _ | apply below_drew_of | apply below_alloc_of))); (· rfl); (· simp); (· simp); (· simp); (intro v3 w3 hown3 hb3))
            go_roundw
            case rel => exact ⟨k + 1, by omega, by go_num, by rw [HF.out]; exact hown3, hbel2.trans hb3⟩
            case measure => simp [intOf]; omega
          · have HF := hide (show (gs.take (k + 1)).map (restG x val) = (gs.take k).map (restG x val) ++ [(g0, g1, g2)] by rw [take_snoc_l hx]; simp [restG, hp])
            have HP := hide hp
            clear hx hp
            by_cases h1 : g0 = 1
            · subst h1
              have h2 : (g1 == x) = false := by simpa using HP.out
              go_wp2_with (at_builtin; (refine append_gate (H := wr.heap.size) rfl _ _ rfl w.heap.size ?_ wr hown ?_ hsz HL.out ?_ (1, g1, g2) ?_ ?_ ?_ ?_); (· rfl); (· (repeat (first | exact Below.refl _ _ | apply below_drew_of | apply below_alloc_of))); (· rfl); (· simp); (· simp); (· simp); (intro v3 w3 hown3 hb3))
              go_roundw
              case rel => exact ⟨k + 1, by omega, by go_num, by rw [HF.out]; exact hown3, hbel.trans hb3⟩
              case measure => simp [intOf]; omega
            · have h2 : (g0 == 1) = false := by simpa using h1
              go_wp2_with (at_builtin; (refine append_gate (H := wr.heap.size) rfl _ _ rfl w.heap.size ?_ wr hown ?_ hsz HL.out ?_ (g0, g1, g2) ?_ ?_ ?_ ?_); (· rfl); (· (repeat (first | exact Below.refl _ _ | apply below_drew_of | apply below_alloc_of))); (· rfl); (· simp); (· simp); (· simp); (intro v3 w3 hown3 hb3))
              go_roundw
              case rel => exact ⟨k + 1, by omega, by go_num, by rw [HF.out]; exact hown3, hbel.trans hb3⟩
              case measure => simp [intOf]; omega
        · obtain rfl : k = gs.length := by omega
          have HC := hide hown
          clear hown
          go_wp2_with fail
          go_ret2
          have := HC.out.fgates
          rw [List.take_length, ← HR.out] at this
          exact ⟨_, rfl, this.mono (Nat.le_refl _) (Nat.le_refl _), hbt.trans hbel⟩

set_option maxHeartbeats 1600000 in
theorem I_RestrictCircuit {hi : Nat} (vars : Int) (v : Value) (gs : List GateL) (x : Int) (val : Bool) (r0 : List GateL) (r1 : Bool) (w : World) (h : Gates hi w v gs) (hn0 : szG gs ≤ 1048576) (hR : fRestrictCircuit vars gs x val = (r0, r1)) :
    Calls Try.prog 26 #[.int .i64 vars, v, .int .i64 x, .bool val] w fun e w' => ∃ v', e = .returned (.tuple #[v', .bool r1]) ∧ FGates w.heap.size w'.heap.size w' v' r0 ∧ Below w.heap.size w w' := by
  cases hg : circB vars gs with
  | false =>
    obtain ⟨rfl, rfl⟩ : r0 = [] ∧ r1 = false := by simpa [fRestrictCircuit, hg, eq_comm] using hR
    clear hR
    go_enter Try.func26, Try.ntmps26
    go_wp2_with fail
    refine (i_IsCircuit vars v gs w h hn0).mono ?_
    rw [hg]
    rintro e w1 ⟨rfl, hb1⟩
    go_wp2_with fail
    go_ret2
    exact ⟨_, rfl, FGates.nil _ _ _, hb1⟩
  | true =>
    cases hv : inB x 1 vars with
    | false =>
      obtain ⟨rfl, rfl⟩ : r0 = [] ∧ r1 = false := by simpa [fRestrictCircuit, hg, hv, eq_comm] using hR
      clear hR
      go_enter Try.func26, Try.ntmps26
      go_wp2_with fail
      refine (i_IsCircuit vars v gs w h hn0).mono ?_
      rw [hg]
      rintro e w1 ⟨rfl, hb1⟩
      go_wp2_with (go_at_call 52; refine (i_isVar _ _ _).mono ?_; rintro e w2 ⟨rfl, rfl⟩)
      go_ret2
      exact ⟨_, rfl, FGates.nil _ _ _, hb1⟩
    | true =>
      obtain ⟨hr0, rfl⟩ : r0 = gs.map (restG x val) ∧ r1 = true := by simpa [fRestrictCircuit, hg, hv, eq_comm] using hR
      have HR := hide hr0
      obtain ⟨_, hl1, hl2, _⟩ := circ_parts hg
      clear hR hr0
      cases val with
      | true =>
        go_enter Try.func26, Try.ntmps26
        go_wp2_with fail
        refine (i_IsCircuit vars v gs w h hn0).mono ?_
        rw [hg]
        rintro e w1 ⟨rfl, hb1⟩
        go_wp2_with (go_at_call 52; refine (i_isVar _ _ _).mono ?_; rintro e w2 ⟨rfl, rfl⟩)
        refine (g_CloneG v gs w1 (h.below hb1) (by omega)).mono ?_
        rintro e w2 ⟨v2, rfl, hown, hb2⟩
        obtain ⟨A2, c2, rfl, hc2, hm2, hown2⟩ := hown.own
        obtain ⟨b, off, rfl, hlb, hhb, hcel⟩ := hown2.cel (by rw [gcells_length]; omega)
        have HC0 := hide hcel
        have hb12 := hb1.trans (hb2.mono hb1.size)
        have hwb : w.heap.size ≤ b := Nat.le_trans hb1.size hlb
        unfold maxLen at hm2
        clear hcel hown2 hown h
        go_wp2_with fail
        go_loopw [29] (fun i wr => ∃ k : Nat, k ≤ gs.length ∧ i = .int .i64 k ∧ Cel wr b off (gcells ((gs.take k).map (restG x true) ++ gs.drop k)) ∧ Below w.heap.size w wr ∧ b < wr.heap.size) (fun i _ => gs.length - (intOf i).toNat)
        case atStart => exact ⟨0, Nat.zero_le _, rfl, by simpa using HC0.out, hb12, hhb⟩
        case round =>
          obtain ⟨k, hk, rfl, hC, hbel, hbr⟩ := hrel
          by_cases hlt : k < gs.length
          · have hx : gs.drop k = gs[k] :: gs.drop (k + 1) := List.drop_eq_getElem_cons hlt
            obtain ⟨⟨g0, g1, g2⟩, hgk⟩ : ∃ g, gs[k] = g := ⟨_, rfl⟩
            rw [hgk] at hx
            have hlk : ((gs.take k).map (restG x true)).length = k := by simp; omega
            rw [hx] at hC
            obtain ⟨⟨s0, t0⟩, ⟨s1, t1⟩, s2, t2⟩ := hC.gate hlk
            dsimp only at s0 s1 s2
            have hal : ∀ o, Below wr.heap.size wr (wr.alloc o) := fun o => (Below.refl _ _).alloc (Nat.le_refl _) o
            have hne : ¬ (b = wr.heap.size) := by omega
            by_cases hp : g0 = 1 ∧ g1 = x
            · have hC1 := hC.gate_set hlk 2 0 0
              rw [show (gs.take k).map (restG x true) ++ (2, 0, 0) :: gs.drop (k + 1) = (gs.take (k + 1)).map (restG x true) ++ gs.drop (k + 1) from by rw [take_snoc_l hx]; simp [restG, hp]] at hC1
              have HC1 := hide hC1
              have HBE := hide (((hbel.setCell (p := ⟨b, off + k * 3, none⟩) hwb (.int .i64 2)).setCell (p := ⟨b, off + k * 3 + 1, none⟩) hwb (.int .i64 0)).setCell (p := ⟨b, off + k * 3 + 2, none⟩) hwb (.int .i64 0))
              obtain ⟨rfl, rfl⟩ := hp
              clear hC hC1 hx hgk hlk
              go_wp2_with fail
              go_roundw
              case rel => exact ⟨k + 1, by omega, by go_num, HC1.out.below ((Below.refl _ _).alloc (Nat.le_refl _) _), HBE.out.alloc HBE.out.size _, by simp [World.setCell]; omega⟩
              case measure => simp [intOf]; omega
            · have hC1 : Cel wr b off (gcells ((gs.take (k + 1)).map (restG x true) ++ gs.drop (k + 1))) := by rw [take_snoc_l hx]; simpa [restG, hp] using hC
              have HC1 := hide hC1
              have HP := hide hp
              clear hC hC1 hx hgk hlk hp
              by_cases h1 : g0 = 1
              · subst h1
                have h2 : (g1 == x) = false := by simpa using HP.out
                go_wp2_with fail
                go_roundw
                case rel => exact ⟨k + 1, by omega, by go_num, HC1.out.below (hal _), hbel.alloc hbel.size _, by simp; omega⟩
                case measure => simp [intOf]; omega
              · have h2 : (g0 == 1) = false := by simpa using h1
                go_wp2_with fail
                go_roundw
                case rel => exact ⟨k + 1, by omega, by go_num, HC1.out.below (hal _), hbel.alloc hbel.size _, by simp; omega⟩
                case measure => simp [intOf]; omega
          · obtain rfl : k = gs.length := by omega
            have HC := hide hC
            clear hC
            go_wp2_with fail
            go_ret2
            have := HC.out
            rw [List.drop_length, List.append_nil, List.take_length, ← HR.out] at this
            have hrl : r0.length = gs.length := by rw [HR.out]; simp
            exact ⟨_, rfl, ⟨some ⟨b, off, none⟩, c2, by rw [hrl]; rfl, by rw [hrl]; exact hc2, by unfold maxLen; omega, this.own hwb hbr⟩, hbel⟩
      | false =>
        go_enter Try.func26, Try.ntmps26
        go_wp2_with fail
        refine (i_IsCircuit vars v gs w h hn0).mono ?_
        rw [hg]
        rintro e w1 ⟨rfl, hb1⟩
        go_wp2_with (go_at_call 52; refine (i_isVar _ _ _).mono ?_; rintro e w2 ⟨rfl, rfl⟩)
        refine (g_CloneG v gs w1 (h.below hb1) (by omega)).mono ?_
        rintro e w2 ⟨v2, rfl, hown, hb2⟩
        obtain ⟨A2, c2, rfl, hc2, hm2, hown2⟩ := hown.own
        obtain ⟨b, off, rfl, hlb, hhb, hcel⟩ := hown2.cel (by rw [gcells_length]; omega)
        have HC0 := hide hcel
        have hb12 := hb1.trans (hb2.mono hb1.size)
        have hwb : w.heap.size ≤ b := Nat.le_trans hb1.size hlb
        unfold maxLen at hm2
        clear hcel hown2 hown h
        go_wp2_with fail
        go_loopw [29] (fun i wr => ∃ k : Nat, k ≤ gs.length ∧ i = .int .i64 k ∧ Cel wr b off (gcells ((gs.take k).map (restG x false) ++ gs.drop k)) ∧ Below w.heap.size w wr ∧ b < wr.heap.size) (fun i _ => gs.length - (intOf i).toNat)
        case atStart => exact ⟨0, Nat.zero_le _, rfl, by simpa using HC0.out, hb12, hhb⟩
        case round =>
          obtain ⟨k, hk, rfl, hC, hbel, hbr⟩ := hrel
          by_cases hlt : k < gs.length
          · have hx : gs.drop k = gs[k] :: gs.drop (k + 1) := List.drop_eq_getElem_cons hlt
            obtain ⟨⟨g0, g1, g2⟩, hgk⟩ : ∃ g, gs[k] = g := ⟨_, rfl⟩
            rw [hgk] at hx
            have hlk : ((gs.take k).map (restG x false)).length = k := by simp; omega
            rw [hx] at hC
            obtain ⟨⟨s0, t0⟩, ⟨s1, t1⟩, s2, t2⟩ := hC.gate hlk
            dsimp only at s0 s1 s2
            have hal : ∀ o, Below wr.heap.size wr (wr.alloc o) := fun o => (Below.refl _ _).alloc (Nat.le_refl _) o
            have hne : ¬ (b = wr.heap.size) := by omega
            by_cases hp : g0 = 1 ∧ g1 = x
            · have hC1 := hC.gate_set hlk 3 0 0
              rw [show (gs.take k).map (restG x false) ++ (3, 0, 0) :: gs.drop (k + 1) = (gs.take (k + 1)).map (restG x false) ++ gs.drop (k + 1) from by rw [take_snoc_l hx]; simp [restG, hp]] at hC1
              have HC1 := hide hC1
              have HBE := hide (((hbel.setCell (p := ⟨b, off + k * 3, none⟩) hwb (.int .i64 3)).setCell (p := ⟨b, off + k * 3 + 1, none⟩) hwb (.int .i64 0)).setCell (p := ⟨b, off + k * 3 + 2, none⟩) hwb (.int .i64 0))
              obtain ⟨rfl, rfl⟩ := hp
              clear hC hC1 hx hgk hlk
              go_wp2_with fail
              go_roundw
              case rel => exact ⟨k + 1, by omega, by go_num, HC1.out.below ((Below.refl _ _).alloc (Nat.le_refl _) _), HBE.out.alloc HBE.out.size _, by simp [World.setCell]; omega⟩
              case measure => simp [intOf]; omega
            · have hC1 : Cel wr b off (gcells ((gs.take (k + 1)).map (restG x false) ++ gs.drop (k + 1))) := by rw [take_snoc_l hx]; simpa [restG, hp] using hC
              have HC1 := hide hC1
              have HP := hide hp
              clear hC hC1 hx hgk hlk hp
              by_cases h1 : g0 = 1
              · subst h1
                have h2 : (g1 == x) = false := by simpa using HP.out
                go_wp2_with fail
                go_roundw
                case rel => exact ⟨k + 1, by omega, by go_num, HC1.out.below (hal _), hbel.alloc hbel.size _, by simp; omega⟩
                case measure => simp [intOf]; omega
              · have h2 : (g0 == 1) = false := by simpa using h1
                go_wp2_with fail
                go_roundw
                case rel => exact ⟨k + 1, by omega, by go_num, HC1.out.below (hal _), hbel.alloc hbel.size _, by simp; omega⟩
                case measure => simp [intOf]; omega
          · obtain rfl : k = gs.length := by omega
            have HC := hide hC
            clear hC
            go_wp2_with fail
            go_ret2
            have := HC.out
            rw [List.drop_length, List.append_nil, List.take_length, ← HR.out] at this
            have hrl : r0.length = gs.length := by rw [HR.out]; simp
            exact ⟨_, rfl, ⟨some ⟨b, off, none⟩, c2, by rw [hrl]; rfl, by rw [hrl]; exact hc2, by unfold maxLen; omega, this.own hwb hbr⟩, hbel⟩

end Go.Proofs.Ytfipchccnbbapaa
