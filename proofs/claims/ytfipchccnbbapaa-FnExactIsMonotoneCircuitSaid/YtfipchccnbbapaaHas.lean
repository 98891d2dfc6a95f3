/- The walks: membership, parts, the value of a clause; the library's Index, Contains, IndexFunc, ContainsFunc on ints. -/
import Derived.Test.YtfipchccnbbapaaBase
import Derived.Test.YtfipchccnbbapaaClause
namespace Go.Proofs.Ytfipchccnbbapaa
open Go.RowKit
set_option linter.unusedVariables false

/-- What is asked of a function value that answers a bool for each cell: the answers bs, in every later world. -/
def Answers (P : Program) (g : FuncId) (lb : Array Value) (cs : List Value) (bs : List Bool) (w : World) : Prop :=
  ∀ (j : Nat) (u : Value) (b : Bool), cs[j]? = some u → bs[j]? = some b → ∀ W : World, Below w.heap.size w W → Calls P g (#[u] ++ lb) W fun e w' => e = .returned (.bool b) ∧ Below W.heap.size W w'

set_option maxHeartbeats 400000 in
theorem g_IndexFunc {hi : Nat} (A : Option Addr) (c g : Nat) (lb : Array Value) (zs : List Int) (bs : List Bool) (w : World) (hc : zs.length ≤ c) (hm : c ≤ maxLen) (hrow : Row hi w A (ic zs)) (hl : bs.length = zs.length)
    (eg : ∀ args W, (callFunc g args).run Try.prog W = .ok (.enter g args) W) (hp : Answers Try.prog g lb (ic zs) bs w) :
    Calls Try.prog 65 #[.slice A zs.length c, .func (.func g) #[] lb] w fun e w' => e = .returned (.int .i64 (firstT bs 0)) ∧ Below w.heap.size w w' := by
  unfold maxLen at hm
  have HP := hide hp
  have HL := hide hl
  clear hp hl
  go_enter Try.func65, Try.ntmps65
  go_wp2_with fail
  go_loopw [8] (fun i wr => ∃ k : Nat, k ≤ zs.length ∧ i = .int .i64 k ∧ Hid (firstT bs 0 = firstT (bs.drop k) k) ∧ Below w.heap.size w wr) (fun i _ => zs.length - (intOf i).toNat)
  case atStart => exact ⟨0, Nat.zero_le _, rfl, rfl, Below.refl _ _⟩
  case round =>
    obtain ⟨k, hk, rfl, hr, hbel⟩ := hrel
    by_cases hlt : k < zs.length
    · obtain ⟨b, off, y, rfl, hx, hcw⟩ := hrow.int hlt
      have hcr := below_old hbel _ _ hcw
      have hbk : bs.drop k = bs[k]'(by rw [HL.out]; exact hlt) :: bs.drop (k + 1) := List.drop_eq_getElem_cons _
      obtain ⟨t, ht⟩ : ∃ t, bs[k]'(by rw [HL.out]; exact hlt) = t := ⟨_, rfl⟩
      rw [ht] at hbk
      have hpk := HP.out k (.int .i64 y) t (by simp [get_of_drop hx]) (get_of_drop hbk) wr hbel
      have HPK := hide hpk
      have HX := hide hbk
      clear hx hbk hpk ht hcw
      go_wp2_with fail
      refine HPK.out.mono ?_
      rintro e w1 ⟨rfl, hb1⟩
      have hbel1 := hbel.trans (hb1.mono hbel.size)
      cases t with
      | true =>
        go_wp2_with fail
        go_ret
        exact ⟨by rw [hr.out, HX.out]; rfl, hbel1⟩
      | false =>
        go_wp2_with fail
        go_roundw
        case rel => exact ⟨k + 1, by omega, by go_num, by rw [hr.out, HX.out]; rfl, hbel1⟩
        case measure => simp [intOf]; omega
    · obtain rfl : k = zs.length := by omega
      go_wp2_with fail
      go_ret
      exact ⟨by rw [hr.out, ← HL.out, List.drop_length]; rfl, hbel⟩

theorem g_ContainsFunc {hi : Nat} (A : Option Addr) (c g : Nat) (lb : Array Value) (zs : List Int) (bs : List Bool) (w : World) (hc : zs.length ≤ c) (hm : c ≤ maxLen) (hrow : Row hi w A (ic zs)) (hl : bs.length = zs.length)
    (eg : ∀ args W, (callFunc g args).run Try.prog W = .ok (.enter g args) W) (hp : Answers Try.prog g lb (ic zs) bs w) :
    Calls Try.prog 62 #[.slice A zs.length c, .func (.func g) #[] lb] w fun e w' => e = .returned (.bool (bs.any id)) ∧ Below w.heap.size w w' := by
  rw [← firstT_any bs 0]
  go_enter Try.func62, Try.ntmps62
  go_wp2_with (go_at_call 65; refine (g_IndexFunc A c g lb zs bs w hc hm hrow hl eg hp).mono ?_; rintro e w1 ⟨rfl, hb1⟩)
  go_ret
  exact ⟨rfl, hb1⟩

end Go.Proofs.Ytfipchccnbbapaa
