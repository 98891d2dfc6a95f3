/- The walks that stand under the laws whose answer is a formula: copies of tables, what gives a family. -/
import Derived.Test.YtlipmbcjpmbjnaaTabs
import Derived.Test.YtlipmbcjpmbjnaaCore
import Derived.Test.YtlipmbcjpmbjnaaSl
import Derived.Deep.AppendLies
import Derived.Deep.RegionLaw
import Derived.Test.YtlipmbcjpmbjnaaTopC
namespace Go.Proofs.Ytlipmbcjpmbjnaa
open Go.RowKit
set_option linter.unusedVariables false

set_option maxHeartbeats 400000 in
theorem s_l1Own {hi : Nat} (v : Value) (zs : List Int) (w : World) (h : Ints hi w v zs) (hn : zs.length ≤ 16777216) :
    Calls Try.prog 46 #[v] w fun e w' => ∃ v', e = .returned v' ∧ OwnI w.heap.size w' v' zs ∧ Below w.heap.size w w' := by
  obtain ⟨A, c, rfl, hc, hm, hrow⟩ := h
  unfold maxLen at hm
  have hmade := OwnI.made w.heap.size w (Nat.le_refl _)
  have hrow' := hrow.below ((Below.refl w.heap.size w).alloc (Nat.le_refl _) (.cells #[] 3))
  go_enter Try.func46, Try.ntmps46
  go_wp2_with (at_builtin; refine append_ints rfl _ _ rfl w.heap.size rfl hmade rfl hrow' (by simp; omega) (by simp) ?_; intro v1 w1 hown1 hb1)
  go_ret
  exact ⟨_, rfl, by simpa using hown1, ((Below.refl _ _).alloc (Nat.le_refl _) _).trans hb1⟩

set_option maxHeartbeats 800000 in
theorem i_cloneLists {hi : Nat} (v : Value) (t : List (List Int)) (w : World) (h : Tab hi w v t) (hn : t.length ≤ 16777216) (hz : ∀ z ∈ t, z.length ≤ 16777216) :
    Calls Try.prog 47 #[v] w fun e w' => ∃ v' ps, e = .returned v' ∧ ps.map (·.2) = t ∧ FRT w.heap.size w' v' ps ∧ Below w.heap.size w w' := by
  obtain ⟨A, c, ps, rfl, hc, hm, rfl, hrow, hps⟩ := h.top.open_
  have HPS := hide hps
  have HZ := hide hz
  have HN := hide (show ps.length ≤ 16777216 by simpa using hn)
  unfold maxLen at hm
  clear hps hz hn h
  go_enter Try.func47, Try.ntmps47
  go_wp2_with fail
  go_loopw [3, 8] (fun q i wr => ∃ (k : Nat) (qs : List (Value × List Int)), k ≤ ps.length ∧ i = .int .i64 k ∧ Hid (qs.length = k ∧ qs.map (·.2) = (ps.map (·.2)).take k) ∧ FRT w.heap.size wr q qs ∧ Below w.heap.size w wr) (fun _ i _ => ps.length - (intOf i).toNat)
  case atStart => exact ⟨0, [], Nat.zero_le _, rfl, ⟨rfl, rfl⟩, FRT.nil _ _, Below.refl _ _⟩
  case round =>
    obtain ⟨k, qs, hk, rfl, hqs, hR, hbel⟩ := hrel
    by_cases hlt : k < ps.length
    · obtain ⟨b, off, u, z, rfl, hx, hcw, hzz⟩ := hrow.tab HPS.out hlt
      have hbb : b < w.heap.size := by obtain ⟨b', off', e', hlt', _⟩ := hrow (by simp; omega); injection e' with e'; injection e' with e1 e2; omega
      replace hcw := (hbel.cell (p := ⟨b, off + k, none⟩) hbb).trans hcw
      have hzr := hzz.below hbel
      have hzn : z.length ≤ 16777216 := HZ.out z (by
        have := List.mem_of_getElem? (get_of_drop hx)
        exact List.mem_map.2 ⟨_, this, rfl⟩)
      have HF : Hid ((qs ++ [(u, z)]).map (·.2) = (ps.map (·.2)).take (k + 1)) := by
        show _ = _
        rw [List.map_append, hqs.out.2, take_snoc_l (x := z) (by rw [← List.map_drop, hx]; simp)]
        rfl
      have HL := hide hqs.out.1
      have HLN := hide (show qs.length ≤ 1073741824 by have := hqs.out.1; have := HN.out; omega)
      obtain ⟨Au, cu, rfl, -⟩ := id hzz
      have hwr := hbel.size
      clear hx hqs
      go_wp2_with fail
      refine (g_Clone _ z _ hzr hzn).mono ?_
      rintro e w2 ⟨v2, rfl, hown2, hb2⟩
      have hu := hown2.fints
      obtain ⟨A2, c2, rfl, -⟩ := id hu
      go_wp2_with (at_builtin; refine append_frow (H := w2.heap.size) rfl _ _ rfl w.heap.size rfl hR hb2 hu rfl rfl HLN.out hwr ?_; intro v3 w3 hR3 hb3 hg3 hat3)
      go_roundw
      case rel => exact ⟨k + 1, _, by omega, by go_num, ⟨by simp [HL.out], by simpa using HF.out⟩, hR3, hbel.trans hb3⟩
      case measure => simp [intOf]; omega
    · obtain rfl : k = ps.length := by omega
      have HQ := hide hqs.out.2
      clear hqs
      go_wp2_with fail
      go_ret
      first | exact ⟨_, qs, rfl, by rw [HQ.out, List.take_of_length_le (by simp)], hR, hbel⟩ | exact ⟨_, rfl, qs, by rw [HQ.out, List.take_of_length_le (by simp)], hR, hbel⟩

theorem blkTwo {w : World} {g : Nat} {T : TypeId} {a b : Value} (h : Blk w g T #[a, b]) : w.cell? ⟨g, 0, none⟩ = some a ∧ w.cell? ⟨g, 1, none⟩ = some b ∧ w.frozen? ⟨g, 0, none⟩ = false ∧ w.frozen? ⟨g, 1, none⟩ = false :=
  ⟨by simpa using h.cell 0, by simpa using h.cell 1, h.frozen 0, h.frozen 1⟩
theorem blkSet {w : World} {g : Nat} {T : TypeId} {a b : Value} (h : Blk w g T #[a, b]) (x y : Value) : Blk ((w.setCell ⟨g, 0, none⟩ x).setCell ⟨g, 1, none⟩ y) g T #[x, y] := by
  simpa using (h.set_ 0 x).set_ 1 y

/-- what is given: the formula, or nothing -/
def giveR : Bool → Value → Value
  | true, x => .tuple #[x, .bool true]
  | false, _ => .tuple #[.agg #[.int .i64 0, .slice none 0 0], .bool false]
theorem giveR_yes (x : Value) : giveR true x = .tuple #[x, .bool true] := rfl
theorem giveR_no (x : Value) : giveR false x = .tuple #[.agg #[.int .i64 0, .slice none 0 0], .bool false] := rfl

theorem FRT.notAt {base g : Nat} {w : World} {v : Value} {ps : List (Value × List Int)} (h : FRT base w v ps) (hg : g < base) : NotAt g v ps := by
  refine ⟨fun e => ?_, fun p hp h0 e => ?_⟩
  · have := (h.1.block_lt e).1
    omega
  · obtain ⟨b, hb1, hb2, _⟩ := (h.2.1.1 p hp).block h0
    rw [hb1] at e
    have : b = g := by simpa using e
    omega

end Go.Proofs.Ytlipmbcjpmbjnaa
