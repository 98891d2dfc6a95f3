/- The library's Backward over gates: its contract for a range over a function. -/
import Derived.RangeFuncNested
import Derived.RangeFuncBound
import Derived.RangeFuncCalls
import Derived.RangeFuncLeaves
import Derived.RangeFuncBox
import Derived.Shelf.Abstract
import Derived.Shelf.RegionOpen
import Derived.WalkKit
import Derived.OwnWalkIn
import Derived.TacticsInMore
import Derived.LoopNIn
import Derived.LoopIn
import Derived.Test.YtfipchccnbbapaaMonS
namespace Go.Proofs.Ytfipchccnbbapaa
open Go.RowKit Go.Shelf
set_option linter.unusedVariables false
attribute [local go_sem] Oper.semAt_some

/-- the places of a list of n, and the last k of them from the last on -/
abbrev Pl (n : Nat) := { i : Nat // i < n }
def downto (n k : Nat) (h : k ≤ n) : List (Pl n) := (List.range k).attach.map fun j => ⟨n - 1 - j.1, by have := List.mem_range.1 j.2; omega⟩
theorem downto_len (n k : Nat) (h : k ≤ n) : (downto n k h).length = k := by simp [downto]
theorem downto_val (n k : Nat) (h : k ≤ n) : (downto n k h).map (·.1) = (List.range k).map fun j => n - 1 - j := by
  unfold downto
  rw [List.map_map]
  have : ((fun x : Pl n => x.1) ∘ fun j : { j // j ∈ List.range k } => (⟨n - 1 - j.1, by have := List.mem_range.1 j.2; omega⟩ : Pl n)) = fun j => n - 1 - j.1 := rfl
  rw [this]
  exact List.attach_map_val
theorem downto_succ (n k : Nat) (h : k + 1 ≤ n) : downto n (k + 1) h = downto n k (by omega) ++ [⟨n - 1 - k, by omega⟩] := by
  have hinj : ∀ a b : List (Pl n), a.map (·.1) = b.map (·.1) → a = b := by
    intro a
    induction a with
    | nil => intro b hb; cases b with
      | nil => rfl
      | cons y s => simp at hb
    | cons x r ih => intro b hb; cases b with
      | nil => simp at hb
      | cons y s =>
        simp only [List.map_cons, List.cons.injEq] at hb
        rw [Subtype.ext hb.1, ih s hb.2]
  apply hinj
  rw [List.map_append, downto_val, downto_val, List.range_succ, List.map_append]
  rfl

/-- what a round must keep: what lay below n₀, and the box of the slice over which the loop goes -/
def KpB (n₀ Bs : Nat) (W W' : World) : Prop := Below n₀ W W' ∧ ∀ u, W.cell? ⟨Bs, 0, none⟩ = some u → W'.cell? ⟨Bs, 0, none⟩ = some u
theorem KpB.refl (n₀ Bs : Nat) (W : World) : KpB n₀ Bs W W := ⟨Below.refl _ _, fun _ h => h⟩
theorem kpB_t {n₀ Bs : Nat} {A B C : World} (h : KpB n₀ Bs A B) (k : KpB n₀ Bs B C) : KpB n₀ Bs A C := ⟨h.1.trans k.1, fun u hu => k.2 u (h.2 u hu)⟩
theorem kpB_b {n₀ Bs : Nat} {w : World} (hn : n₀ ≤ w.heap.size) (W : World) (l : Nat) (o o' : Obj) (hl : w.heap.size ≤ l) (h : W.heap[l]? = some o) (ho : o.isCells = false) (hw : o.isWalk = false) : KpB n₀ Bs W (W.putObj l o') :=
  ⟨belowK_b hn W l o o' hl h ho hw, fun u hu => by
    by_cases e : l = Bs
    · subst e
      exfalso
      unfold World.cell? at hu
      simp only [h] at hu
      cases o <;> simp [Obj.isCells] at ho <;> simp at hu
    · exact (World.cell?_of_block ((grownBy_putObj' W l o').block Bs (World.block_lt_of_cell? _ _ hu) (fun e2 => e (Option.some.inj e2).symm))).trans hu⟩

set_option maxRecDepth 100000 in
set_option maxHeartbeats 2000000 in
theorem bwd1_in (F : Fence) (n : Nat) (h68 : F.fn 68) (hro : F.round = none) (hn : 1 ≤ n) (l Bs n₀ b off len cap : Nat) (gs : List GateL) (hlen : gs.length = len) (h200 : len ≤ 200) (hb : b < n₀) (J Jx : List (Pl len) → World → Prop)
    (hY : ∀ pre x W, J pre W → pre.length < len → YieldAt F (n - 1) Try.prog l #[.int .i64 (x.1 : Int), gv (gateAt gs x.1)] W fun e W' =>
      (e = .returned (.bool true) ∧ J (pre ++ [x]) W' ∧ KpB n₀ Bs W W') ∨ (e = .returned (.bool false) ∧ Jx (pre ++ [x]) W'))
    (W : World) (hBs : W.cell? ⟨Bs, 0, none⟩ = some (.slice (some ⟨b, off, none⟩) len cap)) (hc : ∀ j, j < len → W.cell? ⟨b, off + j * 3, none⟩ = some (.int .i64 (gateAt gs j).1) ∧ W.cell? ⟨b, off + j * 3 + 1, none⟩ = some (.int .i64 (gateAt gs j).2.1) ∧ W.cell? ⟨b, off + j * 3 + 2, none⟩ = some (.int .i64 (gateAt gs j).2.2)) (h0 : J [] W) :
    CallsIn F n Try.prog 68 #[.func (.yield l) #[] #[], .pointer (some ⟨Bs, 0, none⟩)] W fun e W' => (∃ v, e = .returned v) ∧
      ((∃ ys, ys = downto len len (Nat.le_refl _) ∧ J ys W') ∨ (∃ pre, Jx pre W')) := by
  refine callsIn_of_wp Try.func68 rfl h68 ?_ hro
  simp only [Try.ntmps68, List.size_toArray, List.length_cons, List.length_nil, Nat.reduceAdd, Nat.reduceSub, Array.replicate_succ, Array.replicate_zero, List.push_toArray, List.append_toArray, List.nil_append, List.cons_append]
  have w0 : IntKind.i64.wrap ((len : Int) - 1) = (len : Int) - 1 := by rw [IntKind.wrap_i64]; omega
  gi_wp2
  gi_loopw [3] (fun i wr => ∃ (k : Nat) (hk : k ≤ len), i = .int .i64 ((len : Int) - 1 - (k : Int)) ∧ J (downto len k hk) wr ∧ KpB n₀ Bs W wr)
    (fun i _ => (intOf i + 1).toNat)
  case atStart => exact ⟨0, Nat.zero_le _, by simp, h0, KpB.refl _ _ _⟩
  case round =>
    obtain ⟨k, hk, rfl, hJs, hnx⟩ := hrel
    have hBs' := hnx.2 _ hBs
    by_cases hlt : k < len
    · obtain ⟨m, hm⟩ : ∃ m : Nat, len - 1 - k = m := ⟨_, rfl⟩
      have hmi : (len : Int) - 1 - (k : Int) = (m : Int) := by omega
      obtain ⟨fn, tmps, assign, body, hy, hR⟩ := hY _ ⟨m, by omega⟩ wr hJs (by rw [downto_len]; exact hlt)
      dsimp only at hy
      obtain ⟨c0, c1, c2⟩ := hc m (by omega)
      replace c0 := (hnx.1.cell (p := ⟨b, off + m * 3, none⟩) hb).trans c0
      replace c1 := (hnx.1.cell (p := ⟨b, off + m * 3 + 1, none⟩) hb).trans c1
      replace c2 := (hnx.1.cell (p := ⟨b, off + m * 3 + 2, none⟩) hb).trans c2
      rw [hmi]
      have hki : (len : Int) - 1 - ((k + 1 : Nat) : Int) = (m : Int) - 1 := by omega
      have b0 : (0 : Int) ≤ (m : Int) := by omega
      have b1 : (m : Int) < (len : Int) := by omega
      have w1 : IntKind.i64.wrap ((m : Int) - 1) = (m : Int) - 1 := by rw [IntKind.wrap_i64]; omega
      unfold gv at hy
      gi_wp2
      refine hR.mono ?_
      rintro e W3 (⟨rfl, hJ3, hk3⟩ | ⟨rfl, hJx3⟩)
      · gi_wp2
        go_roundw
        case rel => exact ⟨k + 1, by omega, by rw [hki], by rw [downto_succ]; simpa [hm] using hJ3, kpB_t hnx hk3⟩
        case measure => (simp [intOf] <;> omega)
      · gi_wp2
        refine bodyPost_ret (results_none rfl _ _ _) rfl ?_
        exact ⟨⟨_, rfl⟩, .inr ⟨_, hJx3⟩⟩
    · obtain rfl : k = len := by omega
      have b0 : ¬ ((0 : Int) ≤ (k : Int) - 1 - (k : Int)) := by omega
      gi_wp2
      go_end0
      exact ⟨⟨_, rfl⟩, .inl hJs⟩

set_option maxHeartbeats 1000000 in
theorem bwd_in (F : Fence) (n : Nat) (h66 : F.fn 66) (hro : F.round = none) (a : Option Addr) (len cap : Nat) (w : World) :
    CallsIn F n Try.prog 66 #[.slice a len cap] w fun e w' => e = .returned (.func (.func 68) #[] #[.pointer (some ⟨w.heap.size, 0, none⟩)]) ∧ w' = w.alloc (.cells #[.slice a len cap] 25) := by
  refine callsIn_of_wp Try.func66 rfl h66 ?_ hro
  simp only [Try.ntmps66, List.size_toArray, List.length_cons, List.length_nil, Nat.reduceAdd, Nat.reduceSub, Array.replicate_succ, Array.replicate_zero, List.push_toArray, List.append_toArray, List.nil_append, List.cons_append]
  gi_wp2
  go_ret
  exact ⟨rfl, rfl⟩

/-- the gates lie in block b, from off on -/
def GatesAt (W : World) (b off : Nat) (gs : List GateL) : Prop := ∀ j, j < gs.length → W.cell? ⟨b, off + j * 3, none⟩ = some (.int .i64 (gateAt gs j).1) ∧ W.cell? ⟨b, off + j * 3 + 1, none⟩ = some (.int .i64 (gateAt gs j).2.1) ∧ W.cell? ⟨b, off + j * 3 + 2, none⟩ = some (.int .i64 (gateAt gs j).2.2)
theorem GatesAt.below {W W' : World} {b off n₀ : Nat} {gs : List GateL} (h : GatesAt W b off gs) (hb : Below n₀ W W') (hn : b < n₀) : GatesAt W' b off gs := fun j hj =>
  ⟨(hb.cell (p := ⟨b, off + j * 3, none⟩) hn).trans (h j hj).1, (hb.cell (p := ⟨b, off + j * 3 + 1, none⟩) hn).trans (h j hj).2.1, (hb.cell (p := ⟨b, off + j * 3 + 2, none⟩) hn).trans (h j hj).2.2⟩

theorem bwd_stops (F : Fence) (n : Nat) (h68 : F.fn 68) (hro : F.round = none) (hn : 1 ≤ n) (Bs n₀ b off len cap : Nat) (gs : List GateL) (hlen : gs.length = len) (h200 : len ≤ 200) (w : World) (hBs : Bs < w.heap.size) (hn₀ : n₀ ≤ w.heap.size) (hb : b < n₀)
    (hc : w.cell? ⟨Bs, 0, none⟩ = some (.slice (some ⟨b, off, none⟩) len cap)) (hG : GatesAt w b off gs) :
    SeqStopsK F n Try.prog 68 #[.pointer (some ⟨Bs, 0, none⟩)] (fun x : Pl len => #[Value.int .i64 (x.1 : Int), gv (gateAt gs x.1)]) (KpB n₀ Bs) (fun ys => ys = downto len len (Nat.le_refl _)) (fun _ => True) len w := fun l J Jx W hW _ _ hY h0 => by
  have hc' := (hW.cell (p := ⟨Bs, 0, none⟩) hBs).trans hc
  have hG' := hG.below (hW.mono hn₀) hb
  refine (bwd1_in F n h68 hro hn l Bs n₀ b off len cap gs hlen h200 hb J Jx hY W hc' (fun j hj => hG' j (by omega)) h0).mono ?_
  rintro e W' ⟨he, ⟨ys, rfl, hj⟩ | ⟨pre, hj⟩⟩
  · exact ⟨he, .inl ⟨_, rfl, hj⟩⟩
  · exact ⟨he, .inr ⟨_, trivial, hj⟩⟩

end Go.Proofs.Ytfipchccnbbapaa
