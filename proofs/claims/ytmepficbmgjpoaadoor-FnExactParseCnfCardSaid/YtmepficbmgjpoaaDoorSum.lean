/- The walks: the checksum of a text; the order of texts. -/
import Derived.Test.YtmepficbmgjpoaaDoorRows
import Derived.Test.YtmepficbmgjpoaaDoorLib
namespace Go.Proofs.YtmepficbmgjpoaaDoor
open Go.RowKit
set_option linter.unusedVariables false

/-- the checksum of bytes, from a start on -/
def sumL : Int → List UInt8 → Int
  | acc, [] => acc
  | acc, c :: r => sumL ((41 * acc + (c.toNat : Int) + 1) % 999979) r

theorem sumL_lt : ∀ (l : List UInt8) (acc : Int), 0 ≤ acc → acc < 999979 → 0 ≤ sumL acc l ∧ sumL acc l < 999979
  | [], acc, h0, h1 => ⟨h0, h1⟩
  | c :: r, acc, h0, h1 => by
    rw [sumL]
    exact sumL_lt r _ (Int.emod_nonneg _ (by decide)) (Int.emod_lt_of_pos _ (by decide))

def fChecksum (s : ByteArray) : Int × Bool := if s.size ≤ 4000 then (sumL 7 s.data.toList, true) else (0, false)

def fLessString (a b : ByteArray) : Bool := Op.bytesLess a.toList b.toList

theorem byte_drop (s : ByteArray) (k : Nat) (h : k < s.size) : s.data.toList.drop k = s[k] :: s.data.toList.drop (k + 1) := by
  rw [List.drop_eq_getElem_cons (by simpa using h)]; rfl

set_option maxHeartbeats 400000 in
theorem s_l1Sum (s : ByteArray) (w : World) (hs : s.size ≤ 1048576) :
    Calls Tryd.prog 77 #[.string s] w fun e w' => e = .returned (.int .i64 (sumL 7 s.data.toList)) ∧ w = w' := by
  go_enter Tryd.func77, Tryd.ntmps77
  go_wp2_with fail
  go_loop [3, 4] (fun q i => ∃ (k : Nat) (acc : Int), k ≤ s.size ∧ 0 ≤ acc ∧ acc < 999979 ∧ i = .int .i64 k ∧ q = .int .i64 acc ∧ Hid (sumL 7 s.data.toList = sumL acc (s.data.toList.drop k))) (fun _ i => s.size - (intOf i).toNat)
  case atStart => exact ⟨0, 7, Nat.zero_le _, by omega, by omega, rfl, rfl, rfl⟩
  case round =>
    obtain ⟨k, acc, hk, h0, h1, rfl, rfl, hr⟩ := hrel
    by_cases hlt : k < s.size
    · have hb : (s[k].toNat : Int) < 256 := by have := s[k].toNat_lt; omega
      have HF := hide (show sumL 7 s.data.toList = sumL ((41 * acc + (s[k].toNat : Int) + 1) % 999979) (s.data.toList.drop (k + 1)) by rw [hr.out, byte_drop s k hlt, sumL])
      go_wp2_with fail
      go_round
      case rel => exact ⟨k + 1, _, by omega, by omega, by omega, by go_num, rfl, HF.out⟩
      case measure => simp [intOf]; omega
    · obtain rfl : k = s.size := by omega
      go_wp2_with fail
      go_ret
      exact ⟨ret_int (by rw [hr.out, List.drop_of_length_le (by simp)]; rfl), rfl⟩

set_option maxHeartbeats 400000 in
theorem I_Checksum (s : ByteArray) (r0 : Int) (r1 : Bool) (w : World) (hn : s.size ≤ 1048576) (hR : fChecksum s = (r0, r1)) :
    Calls Tryd.prog 53 #[.string s] w fun e w' => e = .returned (.tuple #[.int .i64 r0, .bool r1]) ∧ Below w.heap.size w w' := by
  by_cases h : s.size ≤ 4000
  · obtain ⟨hr0, rfl⟩ : r0 = sumL 7 s.data.toList ∧ r1 = true := by simpa [fChecksum, h, eq_comm] using hR
    have HR := hide hr0
    clear hR hr0
    go_enter Tryd.func53, Tryd.ntmps53
    go_wp2_with fail
    go_loop [4, 11] (fun q i => ∃ (k : Nat) (acc : Int), k ≤ s.size ∧ 0 ≤ acc ∧ acc < 999979 ∧ i = .int .i64 k ∧ q = .int .i64 acc ∧ Hid (sumL 7 s.data.toList = sumL acc (s.data.toList.drop k))) (fun _ i => s.size - (intOf i).toNat)
    case atStart => exact ⟨0, 7, Nat.zero_le _, by omega, by omega, rfl, rfl, rfl⟩
    case round =>
      obtain ⟨k, acc, hk, h0, h1, rfl, rfl, hr⟩ := hrel
      by_cases hlt : k < s.size
      · have hb : (s[k].toNat : Int) < 256 := by have := s[k].toNat_lt; omega
        have HF := hide (show sumL 7 s.data.toList = sumL ((41 * acc + (s[k].toNat : Int) + 1) % 999979) (s.data.toList.drop (k + 1)) by rw [hr.out, byte_drop s k hlt, sumL])
        go_wp2_with fail
        go_round
        case rel => exact ⟨k + 1, _, by omega, by omega, by omega, by go_num, rfl, HF.out⟩
        case measure => simp [intOf]; omega
      · obtain rfl : k = s.size := by omega
        go_wp2_with fail
        go_ret2
        exact ⟨by rw [HR.out, hr.out, List.drop_of_length_le (by simp)]; rfl, Below.refl _ _⟩
  · obtain ⟨rfl, rfl⟩ : r0 = 0 ∧ r1 = false := by simpa [fChecksum, h, eq_comm] using hR
    clear hR
    go_enter Tryd.func53, Tryd.ntmps53
    go_wp2_with fail
    go_ret2
    exact ⟨rfl, Below.refl _ _⟩

end Go.Proofs.YtmepficbmgjpoaaDoor
