/- The walks of decimal numerals: the reference's l1Num, the program's FormatInt. -/
import Derived.Test.YtmepficbmgjpoaaDoorClause
import Derived.Lib.ItoaLen
import Derived.Laws.Concat
import Derived.Deep.RegionHeld3
namespace Go.Proofs.YtmepficbmgjpoaaDoor
open Go.RowKit
set_option linter.unusedVariables false

def bs (l : List UInt8) : ByteArray := ⟨l.toArray⟩
theorem bs_append (a b : List UInt8) : bs a ++ bs b = bs (a ++ b) := by
  apply ByteArray.ext
  simp [bs, ByteArray.data_append]
theorem bs_size (l : List UInt8) : (bs l).size = l.length := by simp [bs, ByteArray.size]

theorem digit_ext : ∀ u : Nat, u < 10 → (ByteArray.mk #[48, 49, 50, 51, 52, 53, 54, 55, 56, 57]).extract u (u + 1) = bs [UInt8.ofNat (48 + u)] := by decide

theorem decDigits_le (u : Nat) : (Lib.decDigits u).length ≤ u + 1 := by
  induction u using Nat.strongRecOn with
  | _ u ih =>
    by_cases h : u < 10
    · rw [Lib.decDigits, dif_pos h]; simp
    · rw [Lib.decDigits, dif_neg h, List.length_append]
      have := ih (u / 10) (by omega)
      simp; omega
theorem run_cat (P : Program) (a b : List UInt8) (W : World) (h : a.length + b.length ≤ 9223372036854775807) : (Op.stringOp .add (bs a) (bs b)).run P W = .ok (.string (bs (a ++ b))) W := by
  exact (run_string_add_sum (P := P) (w := W) (bs a) (bs b) (by rw [bs_size, bs_size]; exact h)).trans (by rw [bs_append])

set_option maxHeartbeats 1600000 in
theorem s_l1NumU (u : Nat) : ∀ (w : World), u ≤ 9999999 → Calls Tryd.prog 43 #[.int .i64 u] w fun e w' => e = .returned (.string (bs (Lib.decDigits u))) ∧ Quiet w w' := by
  induction u using Nat.strongRecOn with
  | _ u ih =>
    intro w hu
    by_cases h : u < 10
    · go_enter Tryd.func43, Tryd.ntmps43
      go_wp2_with fail
      go_ret
      exact ⟨by rw [digit_ext u h, Lib.decDigits, dif_pos h]; rfl, ⟨0, rfl⟩⟩
    · have h0 : ¬ ((u : Int) < 0) := by omega
      have h1 : ¬ ((u : Int) < 10) := by omega
      have HIH := hide (show ∀ (w : World) (q : Int), q = ((u / 10 : Nat) : Int) → Calls Tryd.prog 43 #[.int .i64 q] w fun e w' => e = .returned (.string (bs (Lib.decDigits (u / 10)))) ∧ Quiet w w' from fun w q hq => by rw [hq]; exact ih (u / 10) (by omega) w (by omega))
      clear ih
      obtain ⟨q, hq⟩ : ∃ q : Nat, (u : Int) / 10 = (q : Int) := ⟨u / 10, by omega⟩
      obtain ⟨d, hd⟩ : ∃ d : Nat, (u : Int) % 10 = (d : Int) := ⟨u % 10, by omega⟩
      have hq1 : q ≤ 999999 := by omega
      have hdt : Int.tmod (u : Int) 10 = (d : Int) := by rw [Int.tmod_eq_emod_of_nonneg (by omega)]; exact hd
      have hd1 : d < 10 := by omega
      have hd3 : (d : Int) + 1 ≤ 10 := by omega
      have hd4 : (0 : Int) ≤ (d : Int) := by omega
      have hd5 : (d : Int) ≤ (d : Int) + 1 := by omega
      have hd6 : (0 : Int) ≤ (d : Int) + 1 := by omega
      have hwq : IntKind.i64.wrap (q : Int) = (q : Int) := by rw [IntKind.wrap_i64]; omega
      have hwd : IntKind.i64.wrap (d : Int) = (d : Int) := by rw [IntKind.wrap_i64]; omega
      have hwd1 : IntKind.i64.wrap ((d : Int) + 1) = (d : Int) + 1 := by rw [IntKind.wrap_i64]; omega
      obtain ⟨y, hy⟩ : ∃ y, UInt8.ofNat (48 + d) = y := ⟨_, rfl⟩
      have hsl : ∀ W, (Instr.slice 9 (.string { data := #[48, 49, 50, 51, 52, 53, 54, 55, 56, 57] }) (some (.int .i64 (d : Int))) (some (.int .i64 ((d : Int) + 1))) none).run Tryd.prog W = .ok (.string (bs [y])) W := fun W => by
        rw [run_slice_string_if (P := Tryd.prog) (w := W) 9 _ _ _ _ _ Tryd.underlying9, if_pos ⟨hd6, hd3⟩, if_pos ⟨hd4, hd5⟩]
        have h9 : ((d : Int) + 1).toNat = d + 1 := by omega
        rw [h9, Int.toNat_natCast, digit_ext d hd1, hy]
      have hcat := fun W => run_cat Tryd.prog (Lib.decDigits q) [y] W (by have := decDigits_le q; simp; omega)
      have hsz1 : ¬ (9223372036854775807 < (bs (Lib.decDigits q)).size + (bs [y]).size) := by rw [bs_size, bs_size]; have := decDigits_le q; simp; omega
      have HY := hide hy
      have HQ := hide (show q = u / 10 by omega)
      have HD := hide (show d = u % 10 by omega)
      have HC := hide (show ∀ (w : World), Calls Tryd.prog 43 #[.int .i64 q] w fun e w' => e = .returned (.string (bs (Lib.decDigits q))) ∧ Quiet w w' from fun w => by have h9 := HIH.out w q (by rw [HQ.out]); rw [← HQ.out] at h9; exact h9)
      clear hy
      go_enter Tryd.func43, Tryd.ntmps43
      go_wp2_with fail
      go_region_held3 (fun _ => True) (trivial) ((first | (go_at_call 43; refine (HC.out _).mono ?_; rintro e w1 ⟨rfl, m, rfl⟩) | fail))
      go_wp2_with fail
      go_ret
      have hF : bs (Lib.decDigits q) ++ bs [y] = bs (Lib.decDigits u) := by
        rw [bs_append]
        conv => rhs; rw [Lib.decDigits, dif_neg h, ← HQ.out, ← HD.out, HY.out]
      refine ⟨?_, ⟨_, rfl⟩⟩
      show Ending.returned (Value.string (bs (Lib.decDigits q) ++ bs [y])) = _
      rw [hF]

theorem s_l1Num (n : Int) (w : World) (hn : -9999999 ≤ n ∧ n ≤ 9999999) : Calls Tryd.prog 43 #[.int .i64 n] w fun e w' => e = .returned (.string (bs (Lib.itoa n))) ∧ Quiet w w' := by
  by_cases h : n < 0
  · obtain ⟨u, hu⟩ : ∃ u : Nat, -n = (u : Int) := ⟨n.natAbs, by omega⟩
    have HC := hide (s_l1NumU u w (by omega))
    have hw : wrap64 (-n) = (u : Int) := by rw [← hu]; exact IntWalk.wrap64_in _ (by omega)
    have hsz1 : ¬ (9223372036854775807 < (ByteArray.mk #[45]).size + (bs (Lib.decDigits u)).size) := by rw [bs_size, show (ByteArray.mk #[45]).size = 1 from rfl]; have := decDigits_le u; omega
    have HF := hide (show ByteArray.mk #[45] ++ bs (Lib.decDigits u) = bs (Lib.itoa n) by
      rw [Lib.itoa, if_pos h, show n.natAbs = u by omega]
      exact bs_append [45] _)
    go_enter Tryd.func43, Tryd.ntmps43
    go_wp2_with fail
    refine HC.out.mono ?_
    rintro e w1 ⟨rfl, hq⟩
    go_wp2_with fail
    go_ret
    exact ⟨by rw [← HF.out]; rfl, hq⟩
  · obtain ⟨u, rfl⟩ : ∃ u : Nat, n = (u : Int) := ⟨n.toNat, by omega⟩
    rw [Lib.itoa, if_neg h, Int.toNat_natCast]
    exact s_l1NumU u w (by omega)

end Go.Proofs.YtmepficbmgjpoaaDoor
