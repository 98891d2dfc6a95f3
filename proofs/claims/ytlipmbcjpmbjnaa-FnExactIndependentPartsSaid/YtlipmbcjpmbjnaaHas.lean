/- The walks: membership, parts, the value of a clause; the library's Index, Contains, IndexFunc, ContainsFunc on ints. -/
import Derived.Test.YtlipmbcjpmbjnaaBase
import Derived.Test.YtlipmbcjpmbjnaaClause
namespace Go.Proofs.Ytlipmbcjpmbjnaa
open Go.RowKit
set_option linter.unusedVariables false

set_option maxHeartbeats 400000 in
theorem s_l1Has {hi : Nat} (v : Value) (zs : List Int) (x : Int) (w : World) (h : Ints hi w v zs) :
    Calls Try.prog 42 #[v, .int .i64 x] w fun e w' => e = .returned (.bool (hasI zs x)) ∧ w = w' := by
  obtain ⟨A, c, rfl, hc, hm, hrow⟩ := h
  unfold maxLen at hm
  go_enter Try.func42, Try.ntmps42
  go_wp2_with fail
  go_loop [5] (fun i => ∃ k : Nat, k ≤ zs.length ∧ i = .int .i64 k ∧ Hid (hasI zs x = hasI (zs.drop k) x)) (fun i => zs.length - (intOf i).toNat)
  case atStart => exact ⟨0, Nat.zero_le _, rfl, rfl⟩
  case round =>
    obtain ⟨k, hk, rfl, hr⟩ := hrel
    by_cases hlt : k < zs.length
    · obtain ⟨b, off, y, rfl, hx, hcw⟩ := hrow.int hlt
      cases hb : (y == x) with
      | true =>
        have HF := hide (show hasI zs x = true by rw [hr.out, hx]; simp [hasI, (beq_iff_eq.1 hb)])
        clear hx
        go_wp2_with fail
        go_ret
        exact ⟨by rw [HF.out]; rfl, rfl⟩
      | false =>
        have HF := hide (show hasI zs x = hasI (zs.drop (k + 1)) x by
          rw [hr.out, hx]
          have : x ≠ y := fun e => by simp [e] at hb
          simp [hasI, this])
        clear hx
        go_wp2_with fail
        go_round
        case rel => exact ⟨k + 1, by omega, by go_num, HF.out⟩
        case measure => simp [intOf]; omega
    · obtain rfl : k = zs.length := by omega
      go_wp2_with fail
      go_ret
      exact ⟨by rw [hr.out, List.drop_length]; rfl, rfl⟩

theorem s_l2Has {hi : Nat} (v : Value) (zs : List Int) (x : Int) (w : World) (h : Ints hi w v zs) :
    Calls Try.prog 73 #[v, .int .i64 x] w fun e w' => e = .returned (.bool (hasI zs x)) ∧ w = w' := by
  go_enter Try.func73, Try.ntmps73
  go_wp2_with (go_at_call 42; refine (s_l1Has _ _ _ _ h).mono ?_; rintro e w1 ⟨rfl, rfl⟩)
  go_ret
  exact ⟨rfl, rfl⟩

set_option maxHeartbeats 400000 in
theorem g_Index {hi : Nat} (v : Value) (zs : List Int) (x : Int) (w : World) (h : Ints hi w v zs) :
    Calls Try.prog 106 #[v, .int .i64 x] w fun e w' => e = .returned (.int .i64 (idxI x zs 0)) ∧ w = w' := by
  obtain ⟨A, c, rfl, hc, hm, hrow⟩ := h
  unfold maxLen at hm
  go_enter Try.func106, Try.ntmps106
  go_wp2_with fail
  go_loop [8] (fun i => ∃ k : Nat, k ≤ zs.length ∧ i = .int .i64 k ∧ Hid (idxI x zs 0 = idxI x (zs.drop k) k)) (fun i => zs.length - (intOf i).toNat)
  case atStart => exact ⟨0, Nat.zero_le _, rfl, rfl⟩
  case round =>
    obtain ⟨k, hk, rfl, hr⟩ := hrel
    by_cases hlt : k < zs.length
    · obtain ⟨b, off, y, rfl, hx, hcw⟩ := hrow.int hlt
      cases hb : (x == y) with
      | true =>
        have HF := hide (show idxI x zs 0 = k by rw [hr.out, hx]; simp [idxI, (beq_iff_eq.1 hb)])
        clear hx
        go_wp2_with fail
        go_ret
        exact ⟨by rw [HF.out]; rfl, rfl⟩
      | false =>
        have HF := hide (show idxI x zs 0 = idxI x (zs.drop (k + 1)) (k + 1) by
          rw [hr.out, hx]
          have : x ≠ y := fun e => by simp [e] at hb
          simp [idxI, this])
        clear hx
        go_wp2_with fail
        go_round
        case rel => exact ⟨k + 1, by omega, by go_num, HF.out⟩
        case measure => simp [intOf]; omega
    · obtain rfl : k = zs.length := by omega
      go_wp2_with fail
      go_ret
      exact ⟨by rw [hr.out, List.drop_length]; rfl, rfl⟩

theorem g_Contains {hi : Nat} (v : Value) (zs : List Int) (x : Int) (w : World) (h : Ints hi w v zs) :
    Calls Try.prog 76 #[v, .int .i64 x] w fun e w' => e = .returned (.bool (hasI zs x)) ∧ w = w' := by
  rw [← idxI_has x zs 0]
  go_enter Try.func76, Try.ntmps76
  go_wp2_with (go_at_call 106; refine (g_Index _ _ _ _ h).mono ?_; rintro e w1 ⟨rfl, rfl⟩)
  go_ret
  exact ⟨rfl, rfl⟩

/-- What is asked of a function value that answers a bool for each cell: the answers bs, in every later world. -/
def Answers (P : Program) (g : FuncId) (lb : Array Value) (cs : List Value) (bs : List Bool) (w : World) : Prop :=
  ∀ (j : Nat) (u : Value) (b : Bool), cs[j]? = some u → bs[j]? = some b → ∀ W : World, Below w.heap.size w W → Calls P g (#[u] ++ lb) W fun e w' => e = .returned (.bool b) ∧ Below W.heap.size W w'

set_option maxHeartbeats 400000 in
theorem g_IndexFunc {hi : Nat} (A : Option Addr) (c g : Nat) (lb : Array Value) (zs : List Int) (bs : List Bool) (w : World) (hc : zs.length ≤ c) (hm : c ≤ maxLen) (hrow : Row hi w A (ic zs)) (hl : bs.length = zs.length)
    (eg : ∀ args W, (callFunc g args).run Try.prog W = .ok (.enter g args) W) (hp : Answers Try.prog g lb (ic zs) bs w) :
    Calls Try.prog 107 #[.slice A zs.length c, .func (.func g) #[] lb] w fun e w' => e = .returned (.int .i64 (firstT bs 0)) ∧ Below w.heap.size w w' := by
  unfold maxLen at hm
  have HP := hide hp
  have HL := hide hl
  clear hp hl
  go_enter Try.func107, Try.ntmps107
  go_wp2_with fail
  go_loopw [8] (fun i wr => ∃ k : Nat, k ≤ zs.length ∧ i = .int .i64 k ∧ Hid (firstT bs 0 = firstT (bs.drop k) k) ∧ Below w.heap.size w wr) (fun i _ => zs.length - (intOf i).toNat)
  case atStart => exact ⟨0, Nat.zero_le _, rfl, rfl, Below.refl _ _⟩
  case round =>
    obtain ⟨k, hk, rfl, hr, hbel⟩ := hrel
    by_cases hlt : k < zs.length
    · obtain ⟨b, off, y, rfl, hx, hcw⟩ := hrow.int hlt
      have hcr := below_old hbel _ _ hcw
      have hbk : bs.drop k = bs[k]'(by rw [HL.out]; exact hlt) :: bs.drop (k + 1) := List.drop_eq_getElem_cons _
      obtain ⟨t, ht⟩ : ∃ t, bs[k]'(by rw [HL.out]; exact hlt) = t := ⟨_, rfl⟩
      rw [ht] at hbk
      have hpk := HP.out k (.int .i64 y) t (by simp [get_of_drop hx]) (get_of_drop hbk) wr hbel
      have HPK := hide hpk
      have HX := hide hbk
      clear hx hbk hpk ht hcw
      go_wp2_with fail
      refine HPK.out.mono ?_
      rintro e w1 ⟨rfl, hb1⟩
      have hbel1 := hbel.trans (hb1.mono hbel.size)
      cases t with
      | true =>
        go_wp2_with fail
        go_ret
        exact ⟨by rw [hr.out, HX.out]; rfl, hbel1⟩
      | false =>
        go_wp2_with fail
        go_roundw
        case rel => exact ⟨k + 1, by omega, by go_num, by rw [hr.out, HX.out]; rfl, hbel1⟩
        case measure => simp [intOf]; omega
    · obtain rfl : k = zs.length := by omega
      go_wp2_with fail
      go_ret
      exact ⟨by rw [hr.out, ← HL.out, List.drop_length]; rfl, hbel⟩

theorem g_ContainsFunc {hi : Nat} (A : Option Addr) (c g : Nat) (lb : Array Value) (zs : List Int) (bs : List Bool) (w : World) (hc : zs.length ≤ c) (hm : c ≤ maxLen) (hrow : Row hi w A (ic zs)) (hl : bs.length = zs.length)
    (eg : ∀ args W, (callFunc g args).run Try.prog W = .ok (.enter g args) W) (hp : Answers Try.prog g lb (ic zs) bs w) :
    Calls Try.prog 78 #[.slice A zs.length c, .func (.func g) #[] lb] w fun e w' => e = .returned (.bool (bs.any id)) ∧ Below w.heap.size w w' := by
  rw [← firstT_any bs 0]
  go_enter Try.func78, Try.ntmps78
  go_wp2_with (go_at_call 107; refine (g_IndexFunc A c g lb zs bs w hc hm hrow hl eg hp).mono ?_; rintro e w1 ⟨rfl, hb1⟩)
  go_ret
  exact ⟨rfl, hb1⟩

end Go.Proofs.Ytlipmbcjpmbjnaa
