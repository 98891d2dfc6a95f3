/- The law's helpers on slices of slices and on formulas; a formula that came in; IsCnf. -/
import Derived.Test.YtlipmbcjpmbjnaaBase
import Derived.Test.YtlipmbcjpmbjnaaClause
import Derived.Test.YtlipmbcjpmbjnaaTab
import Derived.Deep.Matrix
import Derived.Lib.SmallJoins
namespace Go.Proofs.Ytlipmbcjpmbjnaa
open Go.ChangeShapes Go.WideShapes Go.ChangeAt Go.RowKit
set_option linter.unusedVariables false

theorem ints_info : (Try.prog.info? 26).map (fun i => (i.zero, i.size, i.bytes)) = some (some (.slice none 0 0), 1, 24) := by kernel_rfl

structure InTab (w : World) (v : Value) (t : List (List Int)) : Prop where
  tab : Tab w.heap.size w v t

structure InCnf (w : World) (v : Value) (f : CnfL) : Prop where
  read : RCnf w.heap.size w v f
  wf : -9223372036854775808 ≤ f.1 ∧ f.1 ≤ 9223372036854775807

theorem addr_add0 {w : World} {x : Addr} {n : Nat} {u : Value} (h : w.cell? (x.add n) = some u) : x.spot = none ∨ n ≠ 0 := by
  by_cases hn : n = 0
  · subst hn
    have := World.cell?_spot h
    exact .inl (by simpa [Addr.add] using this)
  · exact .inr hn

set_option maxRecDepth 100000 in
theorem in_tab {H : Type} {enc : TypeId × Value → H} {W : World} {fuel : Nat} {v : Value} {x : DataW H × List MemPlace}
    (h : DataW.trod enc Try.prog W 0 (fun _ => true) true fuel 22 [v] = some x) : ∃ t, Tab W.heap.size W v t := by
  rcases Go.Deep.open_int_rows Try.underlying22 Try.underlying26 Try.underlying3 (by kernel_rfl) (by kernel_rfl) h with ⟨hcs, _⟩ | ⟨a, len, cap, A, L, C, Z, hcs, _, hl, hm, _, hr⟩
  · obtain rfl : v = .slice none 0 0 := by simpa using hcs
    exact ⟨[], Tab.nil _ _⟩
  · obtain rfl : v = .slice (some a) len cap := by simpa using hcs
    let ps : List (Value × List Int) := (List.range len).map fun r => (.slice (A r) (L r) (C r), (Z r).take (L r))
    refine ⟨ps.map (·.2), some a, cap, ps, by simp [ps], by simpa [ps] using hl, hm, rfl, ?_, ?_⟩
    · intro h0
      have h0' : 0 < cap := by simp [ps] at h0; omega
      have hc0 := (hr 0 h0').1
      have hsp : a.spot = none := by simpa [Addr.add] using World.cell?_spot hc0
      obtain ⟨b, off, sp⟩ := a
      dsimp only at hsp
      subst hsp
      have hb := World.block_lt_of_cell? _ _ hc0
      refine ⟨b, off, rfl, by simpa [Addr.add] using hb, fun j u hu => ?_⟩
      have hj : j < len := by
        have := (List.getElem?_eq_some_iff.1 hu).1
        simpa [ps] using this
      have hu' : u = .slice (A j) (L j) (C j) := by
        simp [ps, hj] at hu
        exact hu.symm
      subst hu'
      have := (hr j (by omega)).1
      rcases Nat.eq_zero_or_pos j with rfl | hjp
      · simpa [Addr.add] using this
      · simpa [Addr.add, Nat.ne_of_gt hjp] using this
    · intro p hp
      obtain ⟨r, hr1, rfl⟩ := List.mem_map.1 hp
      have hr2 : r < len := by simpa using hr1
      obtain ⟨_, hLC, hCm, hZ, hwf, hnone, hcell⟩ := hr r (by omega)
      refine ⟨A r, C r, by simp [List.length_take, hZ, Nat.min_eq_left hLC], by simp [List.length_take, hZ]; omega, hCm, ?_⟩
      intro h0
      have h0' : 0 < C r := by simp [List.length_take, hZ] at h0; omega
      cases hA : A r with
      | none => rw [hnone hA] at h0'; omega
      | some a' =>
        obtain ⟨_, hc⟩ := hcell a' hA
        have hc0 := hc 0 h0'
        have hsp : a'.spot = none := by simpa [Addr.add] using World.cell?_spot hc0
        obtain ⟨b, off, sp⟩ := a'
        dsimp only at hsp
        subst hsp
        have hb := World.block_lt_of_cell? _ _ hc0
        refine ⟨b, off, rfl, by simpa [Addr.add] using hb, fun j u hu => ?_⟩
        rw [List.getElem?_map] at hu
        obtain ⟨z, hz1, rfl⟩ := Option.map_eq_some_iff.1 hu
        have hjl : j < L r := by
          have := (List.getElem?_eq_some_iff.1 hz1).1
          simp [List.length_take] at this
          omega
        have hzj : (Z r)[j]? = some z := by simpa [List.getElem?_take, hjl] using hz1
        have := hc j (by omega)
        rw [List.getD_eq_getElem?_getD, hzj] at this
        rcases Nat.eq_zero_or_pos j with rfl | hjp
        · simpa [Addr.add] using this
        · simpa [Addr.add, Nat.ne_of_gt hjp] using this

set_option maxRecDepth 100000 in
theorem in_cnf {H : Type} {enc : TypeId × Value → H} {W : World} {base : Nat} {v : Value} {d : DataW H} {p : List MemPlace}
    (hv : Value.okWide Try.prog W .any base 24 v) (h : DataW.Trod enc Try.prog W 0 (fun _ => true) true 24 v d p) (_lt : ∀ x ∈ p, x.block < W.heap.size) :
    ∃ f, InCnf W v f := by
  obtain ⟨c0, c1, y0, y1, m, rfl, rfl, rfl, hy0, hy1⟩ := Go.Joins.open_agg2 Try.underlying24 (by kernel_rfl) (by kernel_rfl) hv h
  obtain ⟨a, e0, rfl, wa⟩ := DataW.trod_int Try.underlying3 hy0
  obtain ⟨t, ht⟩ := in_tab hy1
  simp at e0
  subst e0
  exact ⟨(a, t), ⟨c1, rfl, ht⟩, bounds_i64 wa⟩

set_option maxHeartbeats 400000 in
theorem szIntS_any {hi : Nat} (v : Value) (zs : List Int) (left : Int) (w : World) (h : Ints hi w v zs) (h0 : 0 ≤ left) (h1 : left ≤ 1048576) :
    Calls Try.prog 66 #[v, .int .i64 left] w fun e w' => e = .returned (.int .i64 (if (zs.length : Int) ≤ left then left - zs.length else -1)) ∧ w = w' := by
  obtain ⟨A, c, rfl, hc, hm, hrow⟩ := h
  unfold maxLen at hm
  by_cases hle : (zs.length : Int) ≤ left
  · rw [if_pos hle]
    go_enter Try.func66, Try.ntmps66
    go_wp2
    go_ret
    exact ⟨rfl, rfl⟩
  · rw [if_neg hle]
    go_enter Try.func66, Try.ntmps66
    go_wp2
    go_ret
    exact ⟨rfl, rfl⟩

def szT (t : List (List Int)) : Nat := t.length + cntT t


theorem cntT_take {t : List (List Int)} {k : Nat} {z : List Int} (h : t.drop k = z :: t.drop (k + 1)) : cntT (t.take (k + 1)) = cntT (t.take k) + z.length ∧ cntT (t.take (k + 1)) ≤ cntT t := by
  have hk : k < t.length := by
    rcases Nat.lt_or_ge k t.length with h1 | h1
    · exact h1
    · rw [List.drop_eq_nil_of_le h1] at h; cases h
  have e : t.take (k + 1) = t.take k ++ [z] := by
    rw [List.drop_eq_getElem_cons hk] at h
    injection h with h1 h2
    rw [List.take_succ_eq_append_getElem hk, h1]
  refine ⟨by rw [e, cntT_append]; simp [cntT], ?_⟩
  have : cntT t = cntT (t.take (k + 1)) + cntT (t.drop (k + 1)) := by rw [← cntT_append, List.take_append_drop]
  omega

set_option maxHeartbeats 800000 in
theorem szIntSS_any {hi : Nat} (v : Value) (t : List (List Int)) (left : Int) (w : World) (h : Tab hi w v t) (h0 : 0 ≤ left) (h1 : left ≤ 1048576) :
    Calls Try.prog 33 #[v, .int .i64 left] w fun e w' => e = .returned (.int .i64 (leftB left (szT t))) ∧ w = w' := by
  obtain ⟨A, c, ps, rfl, hc, hm, rfl, hrow, hps⟩ := h.open_
  unfold maxLen at hm
  have hlen : (ps.map (·.2)).length = ps.length := by simp
  by_cases hle : (ps.length : Int) ≤ left
  · go_enter Try.func33, Try.ntmps33
    go_wp2_with fail
    have HL := hide hlen
    clear hlen
    go_loop [1, 5] (fun q i => ∃ k : Nat, k ≤ ps.length ∧ i = .int .i64 k ∧ q = .int .i64 (left - ps.length - cntT ((ps.map (·.2)).take k)) ∧ (ps.length : Int) + cntT ((ps.map (·.2)).take k) ≤ left) (fun _ i => ps.length - (intOf i).toNat)
    case atStart => exact ⟨0, Nat.zero_le _, rfl, by simp [cntT], by simpa [cntT] using hle⟩
    case round =>
      obtain ⟨k, hk, rfl, rfl, hs⟩ := hrel
      by_cases hlt : k < ps.length
      · obtain ⟨b, off, u, z, rfl, hx, hcw, hz⟩ := hrow.tab hps hlt
        have hx2 : (ps.map (·.2)).drop k = z :: (ps.map (·.2)).drop (k + 1) := by rw [← List.map_drop, hx]; simp
        obtain ⟨hc1, hc2⟩ := cntT_take hx2
        obtain ⟨q, hq⟩ : ∃ q, cntT ((ps.map (·.2)).take k) = q := ⟨_, rfl⟩
        rw [hq] at hc1 hs ⊢
        by_cases hle2 : (z.length : Int) ≤ left - ps.length - q
        · have HC := hide hc1
          have HC2 := hide hc2
          have HQ := hide hq
          have HIF := hide (show (if (z.length : Int) ≤ left - ps.length - q then left - ps.length - q - z.length else -1) = left - ps.length - q - z.length from if_pos hle2)
          clear hx hx2 hc1 hc2 hq
          go_wp2_with (go_at_call 66; refine (szIntS_any _ _ _ _ hz (by omega) (by omega)).mono ?_; rintro e w1 ⟨rfl, rfl⟩; rw [HIF.out])
          go_round
          case rel => exact ⟨k + 1, by omega, by go_num, by rw [HC.out]; go_num, by rw [HC.out]; omega⟩
          case measure => simp [intOf]; omega
        · have HF := hide (show leftB left (szT (ps.map (·.2))) = -1 by
            unfold leftB szT
            rw [if_neg (by rw [HL.out]; omega)])
          have HIF := hide (show (if (z.length : Int) ≤ left - ps.length - q then left - ps.length - q - z.length else -1) = -1 from if_neg hle2)
          clear hx hx2 hc1 hc2 hq
          go_wp2_with (go_at_call 66; refine (szIntS_any _ _ _ _ hz (by omega) (by omega)).mono ?_; rintro e w1 ⟨rfl, rfl⟩; rw [HIF.out])
          go_ret
          exact ⟨by rw [HF.out]; rfl, rfl⟩
      · obtain rfl : k = ps.length := by omega
        have HF := hide (show leftB left (szT (ps.map (·.2))) = left - ps.length - cntT ((ps.map (·.2)).take ps.length) by
          rw [List.take_of_length_le (by simp)] at hs ⊢
          unfold leftB szT
          rw [HL.out, if_pos (by omega)]
          omega)
        clear hs
        go_wp2_with fail
        go_ret
        exact ⟨by rw [HF.out]; rfl, rfl⟩
  · have HF := hide (show leftB left (szT (ps.map (·.2))) = -1 by
      unfold leftB szT
      rw [if_neg (by rw [hlen]; omega)])
    go_enter Try.func33, Try.ntmps33
    go_wp2_with fail
    go_ret
    exact ⟨by rw [HF.out]; rfl, rfl⟩

theorem szCnf_any {hi : Nat} (v : Value) (f : CnfL) (left : Int) (w : World) (h : RCnf hi w v f) (h0 : 0 ≤ left) (h1 : left ≤ 1048576) :
    Calls Try.prog 9 #[v, .int .i64 left] w fun e w' => e = .returned (.int .i64 (leftB left (szC f))) ∧ Below w.heap.size w w' := by
  obtain ⟨cv, rfl, ht⟩ := h
  have hal : Below w.heap.size w (w.alloc (.cells #[.int .i64 f.1, cv] 24)) := (Below.refl _ _).alloc (Nat.le_refl _) _
  have ht' := ht.below hal
  by_cases hle : (szC f : Int) ≤ left
  · have HL := hide (show leftB left (szT f.2) = left - szC f from if_pos hle)
    have HL2 := hide (show leftB left (szC f) = left - szC f from if_pos hle)
    go_enter Try.func9, Try.ntmps9
    go_wp2_with (go_at_call 33; refine (szIntSS_any _ _ _ _ ht' h0 h1).mono ?_; rintro e w1 ⟨rfl, rfl⟩; rw [HL.out])
    go_ret
    exact ⟨by rw [HL2.out]; rfl, hal⟩
  · have HL := hide (show leftB left (szT f.2) = -1 from if_neg hle)
    have HL2 := hide (show leftB left (szC f) = -1 from if_neg hle)
    go_enter Try.func9, Try.ntmps9
    go_wp2_with (go_at_call 33; refine (szIntSS_any _ _ _ _ ht' h0 h1).mono ?_; rintro e w1 ⟨rfl, rfl⟩; rw [HL.out])
    go_ret
    exact ⟨by rw [HL2.out]; rfl, hal⟩

theorem set_row (xs : List Value) (n k : Nat) (x : Value) (z : Value) (hk : k < n) (hx : xs.length = k) :
    ((xs ++ List.replicate (n - k) z).toArray.setIfInBounds k x) = ((xs ++ [x]) ++ List.replicate (n - (k + 1)) z).toArray := by
  apply Array.ext'
  simp only [Array.toList_setIfInBounds]
  rw [show n - k = (n - (k + 1)) + 1 from by omega, List.replicate_succ, List.set_append_right _ _ (by simp [hx])]
  simp [hx]

set_option maxHeartbeats 800000 in
theorem toIntSS_any {hi : Nat} (v : Value) (t : List (List Int)) (w : World) (h : Tab hi w v t) (hn : szT t ≤ 1048576) :
    Calls Try.prog 37 #[v] w fun e w' => ∃ v', e = .returned v' ∧ FTab w.heap.size w'.heap.size w' v' t ∧ Below w.heap.size w w' := by
  obtain ⟨A, c, ps, rfl, hc, hm, rfl, hrow, hps⟩ := h.open_
  unfold szT at hn
  have hl1 : ps.length ≤ 1048576 := by simp at hn; omega
  have hzl : ∀ p ∈ ps, p.2.length ≤ 1048576 := by
    intro p hp
    have : ∀ (qs : List (Value × List Int)), p ∈ qs → p.2.length ≤ cntT (qs.map (·.2)) := by
      intro qs
      induction qs with
      | nil => simp
      | cons q r ih =>
        intro h
        simp only [List.map_cons, cntT]
        rcases List.mem_cons.1 h with rfl | h
        · omega
        · have := ih h; omega
    have := this ps hp
    omega
  have HZ := hide hzl
  have HN := hide hn
  clear hzl hn
  have hmk := fun W => run_make_row' (P := Try.prog) 22 26 (.slice none 0 0) 24 Try.underlying22 ints_info rfl .i64 .i64 ps.length (by omega) (by omega) W
  unfold maxLen at hm
  go_enter Try.func37, Try.ntmps37
  go_wp2
  clear hmk
  go_loopw [4] (fun i wr => ∃ (k : Nat) (qs : List (Value × List Int)), k ≤ ps.length ∧ i = .int .i64 k ∧ Hid (qs.length = k ∧ qs.map (·.2) = (ps.map (·.2)).take k) ∧ Blk wr w.heap.size 26 (qs.map (·.1) ++ List.replicate (ps.length - k) (Value.slice none 0 0)).toArray ∧ Rws (w.heap.size + 1) wr.heap.size wr qs ∧ Below w.heap.size w wr ∧ w.heap.size + 1 ≤ wr.heap.size) (fun i _ => ps.length - (intOf i).toNat)
  case atStart => exact ⟨0, [], Nat.zero_le _, rfl, ⟨rfl, rfl⟩, by simpa [madeCells_one] using Blk.new w 26 (madeCells #[Value.slice none 0 0] ps.length), Rws.nil _ _ _, (Below.refl _ _).alloc (Nat.le_refl _) _, by simp⟩
  case round =>
    obtain ⟨k, qs, hk, rfl, hqs, hblk, hrws, hbel, hsz⟩ := hrel
    by_cases hlt : k < ps.length
    · obtain ⟨b, off, u, z, rfl, hx, hcw, hz⟩ := hrow.tab hps hlt
      have hx2 : (ps.map (·.2)).drop k = z :: (ps.map (·.2)).drop (k + 1) := by rw [← List.map_drop, hx]; simp
      have hmem : (u, z) ∈ ps := List.mem_of_getElem? (get_of_drop hx)
      have hzl := HZ.out _ hmem
      have hcr := below_old hbel _ _ hcw
      have hzr := hz.below hbel
      have HX := hide hx2
      have HB := hide hblk
      clear hx hx2 hmem hcw hblk
      go_wp2_with fail
      refine (toIntS_any _ _ _ hzr hzl).mono ?_
      rintro e w1 ⟨v1, rfl, hf1, hb1⟩
      obtain ⟨A1, c1, rfl, -⟩ := id hf1
      have hs1 := hb1.size
      have hblk1 := HB.out.below hb1 (by omega)
      have hs : ∃ u, w1.cell? ⟨w.heap.size, k, none⟩ = some u := by
        rw [hblk1.cell k]
        exact ⟨_, Array.getElem?_eq_getElem (by simp [hqs.out.1]; omega)⟩
      obtain ⟨u0, hs⟩ := hs
      have hf := hblk1.frozen k
      have hnew := hblk1.set_ k (.slice A1 z.length c1)
      rw [set_row _ _ _ _ _ hlt (by simp [hqs.out.1])] at hnew
      have hrws1 := (hrws.below hb1).snoc hf1 hsz hs1
      have hch : Below (w.heap.size + 1) w1 w1 := Below.refl _ _
      have HNW := hide hnew
      clear hnew hblk1
      go_wp2_with fail
      go_roundw
      case rel =>
        refine ⟨k + 1, qs ++ [(.slice A1 z.length c1, z)], by omega, by go_num, ⟨by simp [hqs.out.1], by rw [take_snoc_l HX.out, List.map_append, hqs.out.2]; simp⟩, by simpa using HNW.out, ?_, (hbel.trans (hb1.mono hbel.size)).setCell (Nat.le_refl _) _, by simpa [World.setCell] using (by omega : w.heap.size + 1 ≤ w1.heap.size)⟩
        have hg : w1.grownBy (w1.setCell ⟨w.heap.size, k, none⟩ (.slice A1 z.length c1)) (some w.heap.size) := grown_setCell (grown_refl _ _) _ _
        refine ⟨fun p hp => ?_, hrws1.2⟩
        have hp1 := hrws1.1 p hp
        have hsz' : (w1.setCell ⟨w.heap.size, k, none⟩ (.slice A1 z.length c1)).heap.size = w1.heap.size := by simp [World.setCell]
        rw [hsz']
        refine hp1.grown hg ?_
        by_cases e0 : p.2 = []
        · exact .inl e0
        · obtain ⟨b', hb', hlo, _⟩ := hp1.block e0
          exact .inr (by rw [hb']; simp; omega)
      case measure => simp [intOf]; omega
    · obtain rfl : k = ps.length := by omega
      have HB := hide hblk
      clear hblk
      go_wp2_with fail
      go_ret
      have hq := hqs.out
      rw [List.take_of_length_le (by simp)] at hq
      have hblk := HB.out
      simp only [Nat.sub_self, List.replicate_zero, List.append_nil] at hblk
      refine ⟨_, rfl, ?_, hbel⟩
      rw [← hq.2, ← hq.1]
      refine (hrws.mono (by omega) (Nat.le_refl _)).tab (Nat.le_refl _) (by unfold maxLen; omega) (hblk.own (Nat.le_refl _) (fun j u hu => by simpa using hu)) ?_
      intro p hp e0
      obtain ⟨b', hb', hlo, _⟩ := (hrws.1 p hp).block e0
      rw [hb']; simp; omega

set_option maxHeartbeats 400000 in
theorem toCnf_any {hi : Nat} (v : Value) (f : CnfL) (w : World) (h : RCnf hi w v f) (hn : szC f ≤ 1048576) :
    Calls Try.prog 11 #[v] w fun e w' => ∃ v', e = .returned v' ∧ FCnf w.heap.size w'.heap.size w' v' f ∧ Below w.heap.size w w' := by
  obtain ⟨cv, rfl, ht⟩ := h
  have hb3 : Below w.heap.size w (((w.alloc (.cells #[.int .i64 f.1, cv] 24)).alloc (.cells #[.int .i64 0, .slice none 0 0] 29)).alloc (.cells #[.int .i64 f.1, .slice none 0 0] 29)) :=
    (((Below.refl _ _).alloc (Nat.le_refl _) _).alloc (by simp) _).alloc (by simp; omega) _
  have ht3 := ht.below hb3
  have k1 : Blk (((w.alloc (.cells #[.int .i64 f.1, cv] 24)).alloc (.cells #[.int .i64 0, .slice none 0 0] 29)).alloc (.cells #[.int .i64 f.1, .slice none 0 0] 29)) (w.heap.size + 1) 29 #[.int .i64 0, .slice none 0 0] := by
    have := (Blk.new (w.alloc (.cells #[.int .i64 f.1, cv] 24)) 29 #[.int .i64 0, .slice none 0 0]).alloc (.cells #[.int .i64 f.1, .slice none 0 0] 29)
    simpa using this
  have k2 : Blk (((w.alloc (.cells #[.int .i64 f.1, cv] 24)).alloc (.cells #[.int .i64 0, .slice none 0 0] 29)).alloc (.cells #[.int .i64 f.1, .slice none 0 0] 29)) (w.heap.size + 1 + 1) 29 #[.int .i64 f.1, .slice none 0 0] := by
    have := Blk.new ((w.alloc (.cells #[.int .i64 f.1, cv] 24)).alloc (.cells #[.int .i64 0, .slice none 0 0] 29)) 29 #[.int .i64 f.1, .slice none 0 0]
    simpa using this
  have K1 := hide k1
  have K2 := hide k2
  clear k1 k2
  go_enter Try.func11, Try.ntmps11
  go_wp2_with fail
  refine (toIntSS_any _ _ _ ht3 hn).mono ?_
  rintro e w1 ⟨v1, rfl, hf1, hb1⟩
  obtain ⟨A1, c1, ps1, rfl, -⟩ := id hf1
  have j1 := K1.out.below hb1 (by simp)
  have j2 := K2.out.below hb1 (by simp)
  have c10 := j1.cell 0
  have c11 := j1.cell 1
  have c20 := j2.cell 0
  have c21 := j2.cell 1
  have f10 := j1.frozen 0
  have f11 := j1.frozen 1
  have f20 := j2.frozen 0
  have f21 := j2.frozen 1
  have hsz1 := hb1.size
  simp at c10 c11 c20 c21 hsz1
  have J1 := hide j1
  have J2 := hide j2
  clear j1 j2
  go_wp2_with fail
  have hch : Chg (w.heap.size + 1) (w.heap.size + 1 + 1 + 1) w1 (((w1.setCell ⟨w.heap.size + 1 + 1, 1, none⟩ (.slice A1 f.2.length c1)).setCell ⟨w.heap.size + 1, 0, none⟩ (.int .i64 f.1)).setCell ⟨w.heap.size + 1, 1, none⟩ (.slice A1 f.2.length c1)) :=
    (((chg_refl _ _ w1).setCell (by simp) (by simp) _).setCell (by simp) (by simp) _).setCell (by simp) (by simp) _
  have hf2 := (hf1.chg hch (.inr (by simp))).mono (lo' := w.heap.size) (hi' := w1.heap.size) (by simp; omega) (Nat.le_refl _)
  have hbt := below_chg (hb3.trans (hb1.mono (by simp; omega))) hch (by omega) (Nat.le_refl _)
  refine bodyPost_ret (v := .agg #[.int .i64 f.1, .slice A1 f.2.length c1]) (by simp [results, Try.results11, go_sem, c10, c11]) rfl ⟨_, rfl, ⟨_, rfl, ?_⟩, hbt⟩
  have hz : ∀ (a b c : Addr) (x y z : Value), (((w1.setCell a x).setCell b y).setCell c z).heap.size = w1.heap.size := by intros; simp [World.setCell]
  rw [hz]
  exact hf2

set_option maxHeartbeats 400000 in
theorem eqIntSS_yes {hi hi' : Nat} (v v' : Value) (t : List (List Int)) (w : World) (h : Tab hi w v t) (h' : Tab hi' w v' t) (hn : szT t ≤ 1048576) :
    Calls Try.prog 22 #[v, v'] w fun e w' => e = .returned (.bool true) ∧ Quiet w w' := by
  have hzl : ∀ z ∈ t, z.length ≤ 1048576 := by
    intro z hz
    have : ∀ (q : List (List Int)), z ∈ q → z.length ≤ cntT q := by
      intro q
      induction q with
      | nil => simp
      | cons y r ih =>
        intro h
        simp only [cntT]
        rcases List.mem_cons.1 h with rfl | h
        · omega
        · have := ih h; omega
    have := this t hz
    unfold szT at hn
    omega
  have HZ := hide hzl
  clear hzl
  obtain ⟨A, c, ps, rfl, hc, hm, rfl, hrow, hps⟩ := h.open_
  obtain ⟨A', c', ps', e', hc', hm', ht', hrow', hps'⟩ := h'.open_
  have hlen : ps'.length = ps.length := by have := congrArg List.length ht'; simpa using this.symm
  rw [hlen] at e'
  subst e'
  have HT := hide ht'
  have HLN := hide hlen
  clear ht' hlen
  unfold maxLen at hm hm'
  go_enter Try.func22, Try.ntmps22
  go_wp2_with fail
  go_loopw [5] (fun i wr => ∃ k : Nat, k ≤ ps.length ∧ i = .int .i64 k ∧ Quiet w wr) (fun i _ => ps.length - (intOf i).toNat)
  case atStart => exact ⟨0, Nat.zero_le _, rfl, Quiet.refl _⟩
  case round =>
    obtain ⟨k, hk, rfl, hq⟩ := hrel
    by_cases hlt : k < ps.length
    · obtain ⟨b, off, u, z, rfl, hx, hcw, hz⟩ := hrow.tab hps hlt
      obtain ⟨b', off', u', z', rfl, hx', hcw', hz'⟩ := hrow'.tab hps' (k := k) (by rw [HLN.out]; exact hlt)
      have hzz : z = z' := by
        have h1 : (ps.map (·.2))[k]? = some z := by rw [List.getElem?_map, get_of_drop hx]; rfl
        have h2 : (ps'.map (·.2))[k]? = some z' := by rw [List.getElem?_map, get_of_drop hx']; rfl
        rw [HT.out, h2] at h1
        injection h1 with h1
        exact h1.symm
      subst hzz
      have hzl := HZ.out z (by have := List.mem_of_getElem? (get_of_drop hx); exact List.mem_map.2 ⟨_, this, rfl⟩)
      rw [← hq.cell] at hcw hcw'
      have hzq := hz.below (hq.below _)
      have hzq' := hz'.below (hq.below _)
      clear hx hx'
      go_wp2_with fail
      go_quiet ((go_at_call 13; exact quietC (eqIntS_yes _ _ _ _ (hzq.drewN _) (hzq'.drewN _) hzl)))
      go_wp2_with fail
      go_roundw
      case rel => exact ⟨k + 1, by omega, by go_num, hq.drewN _⟩
      case measure => simp [intOf]; omega
    · go_wp2_with fail
      go_ret
      exact ⟨rfl, hq⟩

theorem eqCnf_yes {hi hi' : Nat} (v v' : Value) (f : CnfL) (w : World) (h : RCnf hi w v f) (h' : RCnf hi' w v' f) (hn : szC f ≤ 1048576) :
    Calls Try.prog 14 #[v, v'] w fun e w' => e = .returned (.bool true) ∧ Below w.heap.size w w' := by
  obtain ⟨cv, rfl, ht⟩ := h
  obtain ⟨cv', rfl, ht'⟩ := h'
  have hb : Below w.heap.size w ((w.alloc (.cells #[.int .i64 f.1, cv] 29)).alloc (.cells #[.int .i64 f.1, cv'] 29)) := ((Below.refl _ _).alloc (Nat.le_refl _) _).alloc (by simp) _
  have ht2 := ht.below hb
  have ht2' := ht'.below hb
  go_enter Try.func14, Try.ntmps14
  go_wp2_with (go_at_call 22; refine (eqIntSS_yes _ _ _ _ ht2 ht2' hn).mono ?_; rintro e w1 ⟨rfl, hq⟩)
  go_ret
  exact ⟨rfl, hb.trans (hq.below _)⟩

/-- the state of marking: the first k rows are marked -/
def MarkedT (lo hi : Nat) (w : World) (A : Option Addr) (k0 : Int) (ps : List (Value × List Int)) (k : Nat) : Prop :=
  Own lo hi w A (ps.map (·.1)) ∧ ∀ (j : Nat) (p : Value × List Int), ps[j]? = some p → FInts lo hi w p.1 (if j < k then marks (k0 + cntT ((ps.map (·.2)).take j)) p.2.length else p.2)

set_option maxHeartbeats 800000 in
theorem markIntSS_any {lo hi : Nat} (v : Value) (t : List (List Int)) (k0 : Int) (w : World) (h : FTab lo hi w v t) (hn : cntT t ≤ 16777216) (h0 : 0 ≤ k0) (h1 : k0 ≤ 549755813888) :
    Calls Try.prog 23 #[v, .int .i64 k0] w fun e w' => e = .returned (.int .i64 (k0 + cntT t)) ∧ FTab lo hi w' v (markT k0 t) ∧ Chg lo hi w w' ∧ True := by
  obtain ⟨A, c, ps, rfl, hc, hm, rfl, hown, hrws, hsep⟩ := h.open_
  have hm' := hm
  unfold maxLen at hm
  have hM : MarkedT lo hi w A k0 ps 0 := ⟨hown, fun j p hp => by simpa using hrws.1 p (List.mem_of_getElem? hp)⟩
  have HM := hide hM
  have HSEP := hide hsep
  have HAP := hide hrws.2
  clear hM hown hrws hsep h
  go_enter Try.func23, Try.ntmps23
  go_wp2_with fail
  go_loopw [1, 5] (fun q i wr => ∃ k : Nat, k ≤ ps.length ∧ i = .int .i64 k ∧ q = .int .i64 (k0 + cntT ((ps.map (·.2)).take k)) ∧ cntT ((ps.map (·.2)).take k) ≤ 16777216 ∧ MarkedT lo hi wr A k0 ps k ∧ Chg lo hi w wr) (fun _ i _ => ps.length - (intOf i).toNat)
  case atStart => exact ⟨0, Nat.zero_le _, rfl, by simp [cntT], by simp [cntT], HM.out, chg_refl _ _ _⟩
  case round =>
    obtain ⟨k, hk, rfl, rfl, hcb, hM, hchg⟩ := hrel
    by_cases hlt : k < ps.length
    · obtain ⟨b, off, e1, hcw⟩ := hM.1.row.at_ (k := k) (by simpa using hlt)
      subst e1
      obtain ⟨u, z, huz⟩ : ∃ u z, ps[k] = (u, z) := ⟨_, _, rfl⟩
      have hpk : ps[k]? = some (u, z) := by rw [List.getElem?_eq_getElem hlt, huz]
      have hcu : wr.cell? ⟨b, off + k, none⟩ = some u := by rw [hcw]; simp [huz]
      have hfk := hM.2 k _ hpk
      rw [if_neg (by omega)] at hfk
      have hx2 : (ps.map (·.2)).drop k = z :: (ps.map (·.2)).drop (k + 1) := by rw [← List.map_drop, List.drop_eq_getElem_cons hlt, huz]; simp
      obtain ⟨hc1, hc2⟩ := cntT_take hx2
      obtain ⟨q, hq⟩ : ∃ q, cntT ((ps.map (·.2)).take k) = q := ⟨_, rfl⟩
      rw [hq] at hc1 hcb ⊢
      have hzn : z.length ≤ 16777216 := by omega
      have HC1 := hide hc1
      have HQ := hide hq
      have HPK := hide hpk
      have hc3 : q + z.length ≤ 16777216 := by omega
      clear hc1 hc2 hq hx2 huz hpk hcw
      go_wp2_with fail
      refine (markIntS_any _ _ _ _ hfk hzn (by omega) (by omega)).mono ?_
      rintro e w1 ⟨rfl, hf1, hch1, hg1, hsame⟩
      have HN : Hid (MarkedT lo hi w1 (some ⟨b, off, none⟩) k0 ps (k + 1)) := by
        refine ⟨?_, fun j p hp => ?_⟩
        · by_cases e0 : z = []
          · rw [hsame e0]; exact hM.1
          · exact hM.1.grown hg1 (.inl (fun e => HSEP.out (u, z) (List.mem_of_getElem? HPK.out) e0 e.symm))
        · by_cases ej : j = k
          · subst ej
            rw [HPK.out] at hp
            obtain rfl : (u, z) = p := by simpa using hp
            rw [if_pos (by omega), HQ.out]
            exact hf1
          · have hold := hM.2 j p hp
            have hiff : (j < k + 1) = (j < k) := by simp; omega
            simp only [hiff]
            by_cases e0 : z = []
            · rw [hsame e0]; exact hold
            · refine hold.grown hg1 ?_
              by_cases e2 : p.2 = []
              · left
                split
                · rw [e2]; rfl
                · exact e2
              · right
                have hap : Apart p (u, z) := by
                  have hjl : j < ps.length := (List.getElem?_eq_some_iff.1 hp).1
                  have hpj : ps[j] = p := (List.getElem?_eq_some_iff.1 hp).2
                  have hpk2 : ps[k]'hlt = (u, z) := (List.getElem?_eq_some_iff.1 HPK.out).2
                  rcases Nat.lt_or_gt_of_ne ej with hjk | hjk
                  · have := List.pairwise_iff_getElem.1 HAP.out j k hjl hlt hjk
                    rw [hpj, hpk2] at this
                    exact this
                  · have := List.pairwise_iff_getElem.1 HAP.out k j hlt hjl hjk
                    rw [hpj, hpk2] at this
                    rcases this with h | h | h
                    · exact .inr (.inl h)
                    · exact .inl h
                    · exact .inr (.inr (fun e => h e.symm))
                rcases hap with h | h | h
                · exact absurd h e2
                · exact absurd h e0
                · exact h
      clear hM hf1 hg1 hsame
      have hch2 := hchg.trans hch1
      clear hchg hch1
      go_wp2_with fail
      go_roundw
      case rel => exact ⟨k + 1, by omega, by go_num, by rw [HC1.out]; go_num, by rw [HC1.out]; omega, HN.out, hch2⟩
      case measure => simp [intOf]; omega
    · obtain rfl : k = ps.length := by omega
      have HM2 := hide hM
      have HCH := hide hchg
      clear hM hchg
      go_wp2_with fail
      go_ret
      have htk : (ps.map (·.2)).take ps.length = ps.map (·.2) := List.take_of_length_le (by simp)
      refine ⟨ret_int (by rw [htk]), ?_, HCH.out, trivial⟩
      have hM := HM2.out
      let qs : List (Value × List Int) := (ps.map (·.1)).zip (markT k0 (ps.map (·.2)))
      have hml : (markT k0 (ps.map (·.2))).length = ps.length := by rw [markT_length]; simp
      have h1' : qs.map (·.1) = ps.map (·.1) := by
        show List.map Prod.fst _ = _
        rw [List.map_fst_zip (by simp [hml])]
      have h2' : qs.map (·.2) = markT k0 (ps.map (·.2)) := by
        show List.map Prod.snd _ = _
        rw [List.map_snd_zip (by simp [hml])]
      have hql : qs.length = ps.length := by have := congrArg List.length h1'; simpa using this
      have hget : ∀ (j : Nat) (y : Value × List Int), qs[j]? = some y → ∃ p, ps[j]? = some p ∧ y = (p.1, marks (k0 + cntT ((ps.map (·.2)).take j)) p.2.length) := by
        intro j y hy
        have hj : j < ps.length := by have := (List.getElem?_eq_some_iff.1 hy).1; omega
        refine ⟨ps[j], List.getElem?_eq_getElem hj, ?_⟩
        have hm2 := markT_get (ps.map (·.2)) k0 j ps[j].2 (by simp [List.getElem?_eq_getElem hj])
        have : qs[j]? = some ((ps.map (·.1))[j]'(by simpa using hj), (markT k0 (ps.map (·.2)))[j]'(by omega)) := by
          rw [List.getElem?_eq_getElem (by omega)]
          simp [qs]
        rw [this] at hy
        injection hy with hy
        rw [← hy]
        rw [List.getElem?_eq_getElem (by omega)] at hm2
        injection hm2 with hm2
        rw [hm2]
        simp
      refine ⟨A, c, qs, by rw [hml], by rw [hml]; exact hc, hm', h2'.symm, by rw [h1']; exact hM.1, ?_, ?_, ?_⟩
      · intro y hy
        obtain ⟨j, hj, hjy⟩ := List.mem_iff_getElem.1 hy
        obtain ⟨p, hp, rfl⟩ := hget j y (by rw [List.getElem?_eq_getElem hj, hjy])
        have := hM.2 j p hp
        rwa [if_pos (by omega)] at this
      · rw [List.pairwise_iff_getElem]
        intro i j hi hj hij
        obtain ⟨p, hp, hpe⟩ := hget i _ (List.getElem?_eq_getElem hi)
        obtain ⟨p', hp', hpe'⟩ := hget j _ (List.getElem?_eq_getElem hj)
        have hap := List.pairwise_iff_getElem.1 HAP.out i j (by omega) (by omega) hij
        rw [(List.getElem?_eq_some_iff.1 hp).2, (List.getElem?_eq_some_iff.1 hp').2] at hap
        rw [hpe, hpe']
        rcases hap with h | h | h
        · exact .inl (by simp [h, marks])
        · exact .inr (.inl (by simp [h, marks]))
        · exact .inr (.inr h)
      · intro y hy e0
        obtain ⟨j, hj, hjy⟩ := List.mem_iff_getElem.1 hy
        obtain ⟨p, hp, rfl⟩ := hget j y (by rw [List.getElem?_eq_getElem hj, hjy])
        exact HSEP.out p (List.mem_of_getElem? hp) (fun e => e0 (by simp [e, marks]))

theorem markCnf_any {lo hi : Nat} (v : Value) (f : CnfL) (k0 : Int) (w : World) (h : FCnf lo hi w v f) (hn : cntC f ≤ 16777216) (h0 : 0 ≤ k0) (h1 : k0 ≤ 549755813888) :
    Calls Try.prog 15 #[v, .int .i64 k0] w fun e w' => e = .returned (.int .i64 (k0 + cntC f)) ∧ FCnf lo hi w' v (markC k0 f) ∧ Chg lo hi w w' ∧ True := by
  obtain ⟨cv, rfl, ht⟩ := h
  have hb : Below w.heap.size w (w.alloc (.cells #[.int .i64 f.1, cv] 29)) := (Below.refl _ _).alloc (Nat.le_refl _) _
  have ht2 := ht.below hb
  go_enter Try.func15, Try.ntmps15
  go_wp2_with (go_at_call 23; refine (markIntSS_any _ _ _ _ ht2 hn h0 h1).mono ?_; rintro e w1 ⟨rfl, hf1, hch, -⟩)
  go_ret
  exact ⟨rfl, ⟨cv, rfl, hf1⟩, Chg.trans ⟨hb.os, hb.tape, hb.output, hb.size, fun k hk _ => hb.block k hk⟩ hch, trivial⟩

set_option maxHeartbeats 400000 in
theorem heldIntSS_yes {hi : Nat} (v : Value) (t : List (List Int)) (k0 : Int) (w : World) (h : Tab hi w v (markT k0 t)) (hn : cntT t ≤ 16777216) (h0 : 0 ≤ k0) (h1 : k0 ≤ 549755813888) :
    Calls Try.prog 24 #[v, .int .i64 k0] w fun e w' => e = .returned (.int .i64 (k0 + cntT t)) ∧ Quiet w w' := by
  obtain ⟨A, c, ps, rfl, hc, hm, ht, hrow, hps⟩ := h.open_
  unfold maxLen at hm
  have hl : ps.length = t.length := by have := congrArg List.length ht; simpa [markT_length] using this.symm
  have HT := hide ht
  have HL := hide hl
  clear ht hl
  go_enter Try.func24, Try.ntmps24
  go_wp2_with fail
  go_loopw [1, 5] (fun q i wr => ∃ k : Nat, k ≤ ps.length ∧ i = .int .i64 k ∧ q = .int .i64 (k0 + cntT (t.take k)) ∧ cntT (t.take k) ≤ 16777216 ∧ Quiet w wr) (fun _ i _ => ps.length - (intOf i).toNat)
  case atStart => exact ⟨0, Nat.zero_le _, rfl, by simp [cntT], by simp [cntT], Quiet.refl _⟩
  case round =>
    obtain ⟨k, hk, rfl, rfl, hcb, hq⟩ := hrel
    by_cases hlt : k < ps.length
    · obtain ⟨b, off, u, z, rfl, hx, hcw, hz⟩ := hrow.tab hps hlt
      have hkt : k < t.length := by rw [← HL.out]; exact hlt
      have hzz : z = marks (k0 + cntT (t.take k)) (t[k]).length := by
        have h1 : (ps.map (·.2))[k]? = some z := by rw [List.getElem?_map, get_of_drop hx]; rfl
        rw [← HT.out, markT_get t k0 k t[k] (List.getElem?_eq_getElem hkt)] at h1
        injection h1 with h1
        exact h1.symm
      obtain ⟨hc1, hc2⟩ := cntT_take (List.drop_eq_getElem_cons hkt)
      obtain ⟨n, hn'⟩ : ∃ n, (t[k]).length = n := ⟨_, rfl⟩
      obtain ⟨q, hq'⟩ : ∃ q, cntT (t.take k) = q := ⟨_, rfl⟩
      rw [hn'] at hzz hc1
      rw [hq'] at hzz hc1 hcb ⊢
      subst hzz
      rw [← hq.cell] at hcw
      have hzq := hz.below (hq.below _)
      have hn2 : q + n ≤ 16777216 := by omega
      have HC1 := hide hc1
      clear hx hc1 hc2 hn' hq'
      go_wp2_with fail
      refine (heldIntS_yes _ _ _ _ hzq (by omega) (by omega) (by omega)).mono ?_
      rintro e w1 ⟨rfl, hq1⟩
      have hq2 := hq.trans hq1
      go_wp2_with fail
      go_roundw
      case rel => exact ⟨k + 1, by omega, by go_num, by rw [HC1.out]; go_num, by rw [HC1.out]; omega, hq2⟩
      case measure => simp [intOf]; omega
    · obtain rfl : k = ps.length := by omega
      have HC := hide (show cntT (t.take ps.length) = cntT t by rw [HL.out, List.take_length])
      go_wp2_with fail
      go_ret
      exact ⟨ret_int (by rw [HC.out]), hq⟩

theorem heldCnf_yes {hi : Nat} (v : Value) (f : CnfL) (k0 : Int) (w : World) (h : RCnf hi w v (markC k0 f)) (hn : cntC f ≤ 16777216) (h0 : 0 ≤ k0) (h1 : k0 ≤ 549755813888) :
    Calls Try.prog 27 #[v, .int .i64 k0] w fun e w' => e = .returned (.int .i64 (k0 + cntC f)) ∧ Below w.heap.size w w' := by
  obtain ⟨cv, rfl, ht⟩ := h
  have hb : Below w.heap.size w (w.alloc (.cells #[.int .i64 f.1, cv] 29)) := (Below.refl _ _).alloc (Nat.le_refl _) _
  have ht2 := ht.below hb
  have hnn : 0 ≤ k0 + (cntT f.2 : Int) := by omega
  go_enter Try.func27, Try.ntmps27
  go_wp2_with (go_at_call 24; refine (heldIntSS_yes _ _ _ _ ht2 hn h0 h1).mono ?_; rintro e w1 ⟨rfl, hq⟩)
  go_ret
  exact ⟨rfl, hb.trans (hq.below _)⟩

set_option maxHeartbeats 800000 in
theorem i_IsCnf {hi : Nat} (v : Value) (f : CnfL) (w : World) (h : RCnf hi w v f) :
    Calls Try.prog 38 #[v] w fun e w' => e = .returned (.bool (goodB f)) ∧ Below w.heap.size w w' := by
  obtain ⟨cv, rfl, ht⟩ := h
  obtain ⟨vars, t⟩ := f
  dsimp only at ht ⊢
  obtain ⟨A, c, ps, rfl, hc, hm, rfl, hrow, hps⟩ := ht.open_
  unfold maxLen at hm
  obtain ⟨wb, hwb⟩ : ∃ wb, wb = w.alloc (.cells #[.int .i64 vars, .slice A ps.length c] 29) := ⟨_, rfl⟩
  have hal : Below w.heap.size w wb := by rw [hwb]; exact (Below.refl _ _).alloc (Nat.le_refl _) _
  have hcx0 : wb.cell? ⟨w.heap.size, 0, none⟩ = some (.int .i64 vars) := by rw [hwb]; simp
  have hcx1 : wb.cell? ⟨w.heap.size, 1, none⟩ = some (.slice A ps.length c) := by rw [hwb]; simp
  have hrow' := hrow.below hal
  have hps' : ∀ p ∈ ps, Ints hi wb p.1 p.2 := fun p hp => (hps p hp).below hal
  have HPS := hide hps'
  have HWB := hide hwb
  clear hps hps' hrow ht
  go_enter Try.func38, Try.ntmps38
  go_wp2_with fail
  rw [← HWB.out]
  clear hwb
  go_loopw [8] (fun i wr => ∃ k : Nat, k ≤ ps.length ∧ i = .int .i64 k ∧ Hid (allCl vars (ps.map (·.2)) = allCl vars ((ps.drop k).map (·.2))) ∧ Quiet wb wr) (fun i _ => ps.length - (intOf i).toNat)
  case atStart => exact ⟨0, Nat.zero_le _, rfl, rfl, Quiet.refl _⟩
  case round =>
    obtain ⟨k, hk, rfl, hr, hq⟩ := hrel
    have hc0 := (hq.cell _).trans hcx0
    have hc1 := (hq.cell _).trans hcx1
    by_cases hlt : k < ps.length
    · obtain ⟨b, off, u, z, rfl, hx, hcw, hz⟩ := hrow'.tab HPS.out hlt
      rw [← hq.cell] at hcw
      have hzq := hz.below (hq.below _)
      cases hcl : clauseB vars z with
      | false =>
        have HF := hide (show goodB (vars, ps.map (·.2)) = false by unfold goodB; rw [hr.out, hx]; simp [allCl_cons, hcl])
        clear hx
        go_wp2_with (go_at_call 69; refine (i_IsClause _ _ _ _ hzq).mono ?_; rintro e w1 ⟨rfl, hq1⟩)
        go_ret
        exact ⟨by rw [HF.out]; rfl, hal.trans ((hq.trans hq1).below _)⟩
      | true =>
        have HF := hide (show allCl vars (ps.map (·.2)) = allCl vars ((ps.drop (k + 1)).map (·.2)) by rw [hr.out, hx]; simp [allCl_cons, hcl])
        clear hx
        go_wp2_with (go_at_call 69; refine (i_IsClause _ _ _ _ hzq).mono ?_; rintro e w1 ⟨rfl, hq1⟩)
        go_roundw
        case rel => exact ⟨k + 1, by omega, by go_num, HF.out, hq.trans hq1⟩
        case measure => simp [intOf]; omega
    · obtain rfl : k = ps.length := by omega
      have HA := hide (show allCl vars (ps.map (·.2)) = true by rw [hr.out, List.drop_length]; rfl)
      cases hv : varsB vars with
      | false =>
        go_wp2_with (go_at_call 70; refine (i_varsOk _ _).mono ?_; rintro e w1 ⟨rfl, rfl⟩)
        go_ret
        exact ⟨ret_bool (by simp [goodB, hv]), hal.trans (hq.below _)⟩
      | true =>
        by_cases h60 : ps.length ≤ 60
        · have hd : ((ps.length : Nat) : Int) ≤ 60 := by omega
          go_wp2_with (go_at_call 70; refine (i_varsOk _ _).mono ?_; rintro e w1 ⟨rfl, rfl⟩)
          go_ret
          exact ⟨ret_bool (by simp [goodB, hv, HA.out, h60]), hal.trans (hq.below _)⟩
        · have hd : (60 : Int) < ((ps.length : Nat) : Int) := by omega
          have hd2 : ¬((ps.length : Nat) : Int) ≤ 60 := by omega
          have hd3 : decide (((ps.length : Nat) : Int) ≤ 60) = false := by simp; omega
          go_wp2_with (go_at_call 70; refine (i_varsOk _ _).mono ?_; rintro e w1 ⟨rfl, rfl⟩)
          go_ret
          exact ⟨ret_bool (by simp [goodB, hv, HA.out, h60]), hal.trans (hq.below _)⟩

set_option maxHeartbeats 800000 in
theorem s_l2Good {hi : Nat} (v : Value) (f : CnfL) (w : World) (h : RCnf hi w v f) :
    Calls Try.prog 34 #[v] w fun e w' => e = .returned (.bool (goodB f)) ∧ Below w.heap.size w w' := by
  obtain ⟨cv, rfl, ht⟩ := h
  obtain ⟨vars, t⟩ := f
  dsimp only at ht ⊢
  obtain ⟨A, c, ps, rfl, hc, hm, rfl, hrow, hps⟩ := ht.open_
  unfold maxLen at hm
  obtain ⟨wb, hwb⟩ : ∃ wb, wb = w.alloc (.cells #[.int .i64 vars, .slice A ps.length c] 29) := ⟨_, rfl⟩
  have hal : Below w.heap.size w wb := by rw [hwb]; exact (Below.refl _ _).alloc (Nat.le_refl _) _
  have hcx0 : wb.cell? ⟨w.heap.size, 0, none⟩ = some (.int .i64 vars) := by rw [hwb]; simp
  have hcx1 : wb.cell? ⟨w.heap.size, 1, none⟩ = some (.slice A ps.length c) := by rw [hwb]; simp
  have hrow' := hrow.below hal
  have hps' : ∀ p ∈ ps, Ints hi wb p.1 p.2 := fun p hp => (hps p hp).below hal
  have HPS := hide hps'
  have HWB := hide hwb
  clear hps hps' hrow ht hwb
  cases hv : varsB vars with
  | false =>
    go_enter Try.func34, Try.ntmps34
    go_wp2_with (go_at_call 67; refine (s_l2Vars _ _).mono ?_; rintro e w1 ⟨rfl, rfl⟩)
    go_ret
    exact ⟨ret_bool (by simp [goodB, hv]), by rw [← HWB.out]; exact hal⟩
  | true =>
    by_cases h60 : ps.length ≤ 60
    · go_enter Try.func34, Try.ntmps34
      go_wp2_with (go_at_call 67; refine (s_l2Vars _ _).mono ?_; rintro e w1 ⟨rfl, rfl⟩)
      rw [← HWB.out]
      go_loopw [3] (fun i wr => ∃ k : Nat, k ≤ ps.length ∧ i = .int .i64 k ∧ Hid (allCl vars (ps.map (·.2)) = allCl vars ((ps.drop k).map (·.2))) ∧ Quiet wb wr) (fun i _ => ps.length - (intOf i).toNat)
      case atStart => exact ⟨0, Nat.zero_le _, rfl, rfl, Quiet.refl _⟩
      case round =>
        obtain ⟨k, hk, rfl, hr, hq⟩ := hrel
        have hc0 := (hq.cell _).trans hcx0
        have hc1 := (hq.cell _).trans hcx1
        by_cases hlt : k < ps.length
        · obtain ⟨b, off, u, z, rfl, hx, hcw, hz⟩ := hrow'.tab HPS.out hlt
          rw [← hq.cell] at hcw
          have hzq := hz.below (hq.below _)
          cases hcl : clauseB vars z with
          | false =>
            have HF := hide (show goodB (vars, ps.map (·.2)) = false by unfold goodB; rw [hr.out, hx]; simp [allCl_cons, hcl])
            clear hx
            go_wp2_with fail
            go_quiet ((go_at_call 68; exact quietC (s_l2Clause _ _ _ _ (hzq.drewN _))))
            go_wp2_with fail
            go_ret
            exact ⟨by rw [HF.out]; rfl, hal.trans ((hq.drewN _).below _)⟩
          | true =>
            have HF := hide (show allCl vars (ps.map (·.2)) = allCl vars ((ps.drop (k + 1)).map (·.2)) by rw [hr.out, hx]; simp [allCl_cons, hcl])
            clear hx
            go_wp2_with fail
            go_quiet ((go_at_call 68; exact quietC (s_l2Clause _ _ _ _ (hzq.drewN _))))
            go_wp2_with fail
            go_roundw
            case rel => exact ⟨k + 1, by omega, by go_num, HF.out, hq.drewN _⟩
            case measure => simp [intOf]; omega
        · obtain rfl : k = ps.length := by omega
          have HA := hide (show allCl vars (ps.map (·.2)) = true by rw [hr.out, List.drop_length]; rfl)
          go_wp2_with fail
          go_ret
          exact ⟨ret_bool (by simp [goodB, hv, HA.out, h60]), hal.trans (hq.below _)⟩
    · go_enter Try.func34, Try.ntmps34
      go_wp2_with (go_at_call 67; refine (s_l2Vars _ _).mono ?_; rintro e w1 ⟨rfl, rfl⟩)
      go_ret
      exact ⟨ret_bool (by simp [goodB, hv, h60]), by rw [← HWB.out]; exact hal⟩

end Go.Proofs.Ytlipmbcjpmbjnaa
