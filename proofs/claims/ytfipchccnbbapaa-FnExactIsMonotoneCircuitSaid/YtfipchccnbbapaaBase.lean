/- What came in, opened; the law's own small helpers on []int: copy, equality, marks. -/
import Derived.Test.YtfipchccnbbapaaRows
import Derived.Test.YtfipchccnbbapaaLib
import Derived.Test.YtfipchccnbbapaaTab
import Derived.ProofKit
import Derived.ShutString
import Derived.Below
namespace Go.Proofs.Ytfipchccnbbapaa
open Go.ChangeShapes Go.WideShapes Go.ChangeAt Go.RowKit
open Go.ChangeMaps (open_string shut_string)
set_option linter.unusedVariables false

theorem own : ownKnob Try.prog.godebug = none := by kernel_rfl
theorem laidOut : laidOutB Try.prog = true := by kernel_rfl
theorem int_info : (Try.prog.info? 3).map (fun i => (i.zero, i.size, i.bytes)) = some (some (.int .i64 0), 1, 8) := by kernel_rfl

/-- An argument that is a slice of ints. -/
structure InInts (w : World) (v : Value) (zs : List Int) : Prop where
  ints : Ints w.heap.size w v zs
  wf : ∀ z ∈ zs, -9223372036854775808 ≤ z ∧ z ≤ 9223372036854775807

set_option maxRecDepth 100000 in
theorem in_ints {H : Type} {enc : TypeId × Value → H} {W : World} {base : Nat} {v : Value} {d : DataW H} {p : List MemPlace}
    (hv : Value.okWide Try.prog W .any base 51 v) (h : DataW.Trod enc Try.prog W 0 (fun _ => true) true 51 v d p) (_lt : ∀ x ∈ p, x.block < W.heap.size) :
    ∃ zs, InInts W v zs := by
  obtain ⟨a0, len0, cap0, rfl⟩ := okWide_slice Try.underlying51 hv
  obtain ⟨fuel, hf⟩ := h
  rcases open_ints Try.underlying51 Try.underlying3 (by kernel_rfl) hf with ⟨hcs, _⟩ | ⟨x, l, c, zs, hcs, _, hl, hm, hz, _, hcell, hwz⟩
  · simp [Value.cells] at hcs
    obtain ⟨rfl, rfl, rfl⟩ := hcs
    exact ⟨[], Ints.nil _ W, by simp⟩
  · simp [Value.cells] at hcs
    obtain ⟨rfl, rfl, rfl⟩ := hcs
    have hz' : zs.length = cap0 := by simpa using hz
    refine ⟨zs.take len0, ⟨some x, cap0, by rw [List.length_take, hz', Nat.min_eq_left hl], by rw [List.length_take, hz']; omega, hm, ?_⟩, fun z hzm => bounds_i64 (hwz z (List.mem_of_mem_take hzm))⟩
    intro h0
    have h0' : 0 < zs.length := by simp [List.length_take] at h0; omega
    have hc0 := hcell 0 h0'
    have hsp : x.spot = none := by simpa [Addr.add] using World.cell?_spot hc0
    obtain ⟨b, off, sp⟩ := x
    dsimp only at hsp
    subst hsp
    refine ⟨b, off, rfl, World.block_lt_of_cell? _ _ hc0, fun j u hu => ?_⟩
    rw [List.getElem?_map] at hu
    obtain ⟨z, hz1, rfl⟩ := Option.map_eq_some_iff.1 hu
    have hj : j < zs.length := by
      have := (List.getElem?_eq_some_iff.1 hz1).1
      simp [List.length_take] at this
      omega
    have hzj : zs[j]? = some z := by
      rw [List.getElem?_take] at hz1
      split at hz1
      · exact hz1
      · cases hz1
    have := hcell j hj
    rw [List.getD_eq_getElem?_getD, hzj] at this
    rcases Nat.eq_zero_or_pos j with rfl | hjp
    · simpa [Addr.add] using this
    · simpa [Addr.add, Nat.ne_of_gt hjp] using this

/-- a slice of ints that the call itself grows -/
def OwnI (base : Nat) (w : World) (v : Value) (zs : List Int) : Prop := w.ownsRow base 3 1 v zs.length (ic zs)
theorem OwnI.nil (base : Nat) (w : World) : OwnI base w (.slice none 0 0) [] := World.ownsRow_nil _ _ _ _
theorem OwnI.made (base : Nat) (w : World) (hb : base ≤ w.heap.size) : OwnI base (w.alloc (.cells #[] 3)) (.slice (some ⟨w.heap.size, 0, none⟩) 0 0) [] := World.ownsRow_made w #[] 0 hb (by simp [maxLen]) rfl
theorem OwnI.below {base : Nat} {w w' : World} {v : Value} {zs : List Int} (h : OwnI base w v zs) (hb : Below w.heap.size w w') : OwnI base w' v zs := ownsRow_below h hb
theorem OwnI.fints {base : Nat} {w : World} {v : Value} {zs : List Int} (h : OwnI base w v zs) : FInts base w.heap.size w v zs := by
  obtain ⟨A, c, e, h1, h2, h3⟩ := ownsRow_own h
  exact ⟨A, c, e, h1, h2, h3⟩
theorem append_int {ops : Array Oper} {rest : List Oper} {o : Oper} {a : Act} {Q : Exit → Act → World → Prop} {w : World} {y : Int} (hgd : o.guard = none) (s x : Operand)
    (ho : o.op = .call { callee := .builtin .append, args := #[s, x], argTypes := #[51, 51] })
    (base : Nat) {v : Value} {zs : List Int} (hs : a.eval s = v) (hown : OwnI base w v zs)
    (hx : a.eval x = .slice (some ⟨w.heap.size, 0, none⟩) 1 1) (hn : zs.length ≤ 1073741824) (hb : base ≤ w.heap.size)
    (h : ∀ v' w', OwnI base w' v' (zs ++ [y]) → Below base w w' → wpList Try.prog ops Q rest (a.put o.dst v') w') : wpList Try.prog ops Q (o :: rest) a (w.alloc (.cells #[.int .i64 y] 3)) :=
  wpList_append_1 hgd s x _ ho 3 (.int .i64 0) 8 Try.underlying51 int_info rfl (by decide) w base v zs.length (ic zs) hs hown (.int .i64 y) rfl hx hn hb fun v' w' h1 h2 =>
    h v' w' (by unfold OwnI; simpa [ic] using h1) h2

theorem append_ints {ops : Array Oper} {rest : List Oper} {o : Oper} {a : Act} {Q : Exit → Act → World → Prop} {w : World} (hgd : o.guard = none) (s x : Operand)
    (ho : o.op = .call { callee := .builtin .append, args := #[s, x], argTypes := #[51, 51] })
    (base : Nat) {v : Value} {zs : List Int} (hs : a.eval s = v) (hown : OwnI base w v zs) {hi c : Nat} {A : Option Addr} {ys : List Int} (hx : a.eval x = .slice A ys.length c) (hrow : Row hi w A (ic ys))
    (hn : zs.length + ys.length ≤ 1073741824) (hb : base ≤ w.heap.size)
    (h : ∀ v' w', OwnI base w' v' (zs ++ ys) → Below base w w' → wpList Try.prog ops Q rest (a.put o.dst v') w') : wpList Try.prog ops Q (o :: rest) a w :=
  wpList_append_n hgd s x _ ho 3 (.int .i64 0) 8 Try.underlying51 int_info rfl (by decide) base hs hown hx (by simp) hrow (by intro y hy; simp [ic] at hy; obtain ⟨q, _, rfl⟩ := hy; rfl) hn hb fun v' w' h1 h2 =>
    h v' w' (by unfold OwnI; simpa [ic] using h1) h2

end Go.Proofs.Ytfipchccnbbapaa
