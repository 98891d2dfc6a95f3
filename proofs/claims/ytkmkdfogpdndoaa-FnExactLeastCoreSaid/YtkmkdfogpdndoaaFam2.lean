/- The walks under ApartCnfs: a clause shifted. -/
import Derived.Test.YtkmkdfogpdndoaaFam
namespace Go.Proofs.Ytkmkdfogpdndoaa
open Go.RowKit
set_option linter.unusedVariables false

def shiftI (n : Int) (l : Int) : Int := if 0 < l then l + n else l - n
def shiftL (n : Int) (c : List Int) : List Int := c.map (shiftI n)

set_option maxHeartbeats 800000 in
theorem i_shifted {hi : Nat} (v : Value) (zs : List Int) (n : Nat) (w : World) (h : Ints hi w v zs) (hn : n ≤ 12) (hs : ∀ l ∈ zs, l ≠ 0 ∧ -12 ≤ l ∧ l ≤ 12) (hl : zs.length ≤ 1048576) :
    Calls Try.prog 65 #[v, .int .i64 n] w fun e w' => ∃ v', e = .returned v' ∧ OwnI w.heap.size w' v' (shiftL n zs) ∧ Below w.heap.size w w' := by
  obtain ⟨A, c, rfl, hc, hm, hrow⟩ := h.top
  have HS := hide hs
  have HLL := hide hl
  unfold maxLen at hm
  clear hs h
  go_enter Try.func65, Try.ntmps65
  go_wp2_with fail
  go_loopw [5, 10] (fun q i wr => ∃ k : Nat, k ≤ zs.length ∧ i = .int .i64 k ∧ OwnI w.heap.size wr q (shiftL n (zs.take k)) ∧ Below w.heap.size w wr) (fun _ i _ => zs.length - (intOf i).toNat)
  case atStart => exact ⟨0, Nat.zero_le _, rfl, OwnI.nil _ _, Below.refl _ _⟩
  case round =>
    obtain ⟨k, hk, rfl, hown, hbel⟩ := hrel
    have hszr := hbel.size
    by_cases hlt : k < zs.length
    · obtain ⟨b, off, x, rfl, hx, hcw⟩ := hrow.int hlt
      have hbb : b < w.heap.size := by obtain ⟨b', off', e', hlt', _⟩ := hrow (by simp; omega); injection e' with e'; injection e' with e1 e2; omega
      replace hcw := (hbel.cell (p := ⟨b, off + k, none⟩) hbb).trans hcw
      obtain ⟨hx0, hx1, hx2⟩ := HS.out x (List.mem_of_getElem? (get_of_drop hx))
      have HL := hide (show (shiftL n (zs.take k)).length ≤ 1073741824 by have := HLL.out; simp [shiftL]; omega)
      by_cases hp : 0 < x
      · have HF := hide (show shiftL n (zs.take (k + 1)) = shiftL n (zs.take k) ++ [x + (n : Int)] by rw [take_snoc hx]; simp [shiftL, shiftI, hp])
        have hwr : IntKind.i64.wrap (x + (n : Int)) = x + (n : Int) := by rw [IntKind.wrap_i64]; omega
        clear hx
        go_wp2_with (at_builtin; refine append_int rfl _ _ rfl w.heap.size rfl hown rfl HL.out hszr ?_; intro v1 w2 hown1 hb1)
        go_roundw
        case rel => exact ⟨k + 1, by omega, by go_num, by rw [HF.out]; first | exact hown1 | (rw [hwr] at hown1; exact hown1), hbel.trans hb1⟩
        case measure => simp [intOf]; omega
      · have HF := hide (show shiftL n (zs.take (k + 1)) = shiftL n (zs.take k) ++ [x - (n : Int)] by rw [take_snoc hx]; simp [shiftL, shiftI, hp])
        have hwr : IntKind.i64.wrap (x - (n : Int)) = x - (n : Int) := by rw [IntKind.wrap_i64]; omega
        clear hx
        go_wp2_with (at_builtin; refine append_int rfl _ _ rfl w.heap.size rfl hown rfl HL.out hszr ?_; intro v1 w2 hown1 hb1)
        go_roundw
        case rel => exact ⟨k + 1, by omega, by go_num, by rw [HF.out]; first | exact hown1 | (rw [hwr] at hown1; exact hown1), hbel.trans hb1⟩
        case measure => simp [intOf]; omega
    · obtain rfl : k = zs.length := by omega
      go_wp2_with fail
      go_ret
      exact ⟨_, rfl, by rw [List.take_length] at hown; exact hown, hbel⟩

end Go.Proofs.Ytkmkdfogpdndoaa
