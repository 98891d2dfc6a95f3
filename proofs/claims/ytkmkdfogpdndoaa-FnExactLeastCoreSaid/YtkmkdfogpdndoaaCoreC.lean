/- The walks: CoreOf. -/
import Derived.Test.YtkmkdfogpdndoaaCoreB
namespace Go.Proofs.Ytkmkdfogpdndoaa
open Go.RowKit
set_option linter.unusedVariables false

abbrev castL (l : List Nat) : List Int := l.map fun (k : Nat) => (k : Int)
def idxK (k : Nat) : List Int := castL (List.range k)
def upK (k : Nat) : List Int := (List.range k).map fun (j : Nat) => (j : Int) + 1
theorem idxK_length (k : Nat) : (idxK k).length = k := by simp [idxK]
theorem upK_length (k : Nat) : (upK k).length = k := by simp [upK]
theorem idxK_succ (k : Nat) : idxK (k + 1) = idxK k ++ [(k : Int)] := by simp [idxK, List.range_succ]
theorem upK_succ (k : Nat) : upK (k + 1) = upK k ++ [(k : Int) + 1] := by simp [upK, List.range_succ]
theorem idxK_range (n : Nat) : idxK n = castL (rangeFrom 0 n) := by simp [idxK, rangeFrom, List.range_eq_range']
theorem rangeFrom_mem {k n x : Nat} (h : x ∈ rangeFrom k n) : k ≤ x ∧ x < n := by
  unfold rangeFrom at h
  have := List.mem_range'_1.1 h
  omega
theorem rangeFrom_len (k n : Nat) : (rangeFrom k n).length = n - k := by simp [rangeFrom]

theorem satB_nil (n : Nat) : satB ((n : Int), []) = true := by
  unfold satB modelsF modelsL
  have h1 : 0 < 2 ^ n := Nat.pow_pos (by decide)
  have : rangeFrom 0 (2 ^ ((n : Int), ([] : List (List Int))).1.toNat) = 0 :: rangeFrom 1 (2 ^ n) := by simp only [Int.toNat_natCast]; exact rangeFrom_lt h1
  rw [this]
  simp [allB]

def coreF (vars : Int) (t : List (List Int)) : List Int → List Nat → List Int
  | pre, [] => pre
  | pre, k :: r => if coreB vars t (pre ++ castL r) then coreF vars t pre r else coreF vars t (pre ++ [(k : Int)]) r
theorem coreF_len (vars : Int) (t : List (List Int)) : ∀ (l : List Nat) (pre : List Int), (coreF vars t pre l).length ≤ pre.length + l.length
  | [], pre => by simp [coreF]
  | k :: r, pre => by
    unfold coreF
    split
    · have := coreF_len vars t r pre; simp; omega
    · have := coreF_len vars t r (pre ++ [(k : Int)]); simp at this ⊢; omega
def fCoreOf (f : CnfL) : List Int × Bool := if goodB f then (if satB f then ([], false) else (coreF f.1 f.2 [] (rangeFrom 0 f.2.length), true)) else ([], false)
theorem fCoreOf_len {f : CnfL} {r0 : List Int} {r1 : Bool} (hn : szC f ≤ 1048576) (hR : fCoreOf f = (r0, r1)) : r0.length ≤ 1048576 := by
  unfold fCoreOf at hR
  split at hR
  · split at hR
    · injection hR with h1 _; rw [← h1]; simp
    · injection hR with h1 _
      have := coreF_len f.1 f.2 (rangeFrom 0 f.2.length) []
      rw [rangeFrom_len] at this
      unfold szC at hn
      rw [← h1]; simp at this; omega
  · injection hR with h1 _; rw [← h1]; simp
theorem skip_mid {pre : List Int} {x : Int} {r : List Int} {k : Nat} (hk : pre.length = k) : skipL (pre ++ x :: r) k = pre ++ r := by
  unfold skipL
  rw [List.take_left' hk, show pre ++ x :: r = (pre ++ [x]) ++ r by simp, List.drop_left' (by simp [hk])]
theorem idxI_mid {x : Int} {r : List Int} : ∀ (pre : List Int) (j : Nat), (∀ y ∈ pre, y < x) → idxI x (pre ++ x :: r) j = ((j + pre.length : Nat) : Int)
  | [], j, _ => by simp [idxI]
  | y :: s, j, h => by
    have hy : ¬ (x = y) := by have := h y (by simp); omega
    simp only [List.cons_append, idxI, hy, if_false]
    rw [idxI_mid s (j + 1) (fun z hz => h z (List.mem_cons_of_mem _ hz))]
    simp only [List.length_cons]
    omega

set_option maxHeartbeats 400000 in
theorem i_upTo (n : Nat) (w : World) (hn : n ≤ 1000) :
    Calls Try.prog 73 #[.int .i64 n] w fun e w' => ∃ v', e = .returned v' ∧ OwnI w.heap.size w' v' (upK n) ∧ Below w.heap.size w w' := by
  go_enter Try.func73, Try.ntmps73
  go_wp2_with fail
  go_loopw [3, 4] (fun q i wr => ∃ k : Nat, k ≤ n ∧ i = .int .i64 ((k : Int) + 1) ∧ OwnI w.heap.size wr q (upK k) ∧ Below w.heap.size w wr) (fun _ i _ => n + 1 - (intOf i).toNat)
  case atStart => exact ⟨0, Nat.zero_le _, rfl, OwnI.nil _ _, Below.refl _ _⟩
  case round =>
    obtain ⟨k, hk, rfl, hown, hbel⟩ := hrel
    by_cases hlt : k < n
    · have hle : (k : Int) + 1 ≤ (n : Int) := by omega
      have HL := hide (show (upK k).length ≤ 1073741824 by rw [upK_length]; omega)
      have hsz := hbel.size
      go_wp2_with (at_builtin; refine append_int rfl _ _ rfl w.heap.size rfl hown rfl HL.out hsz ?_; intro v1 w2 hown1 hb1)
      go_roundw
      case rel => exact ⟨k + 1, by omega, by go_num, by rw [upK_succ]; exact hown1, hbel.trans hb1⟩
      case measure => simp [intOf]; omega
    · obtain rfl : k = n := by omega
      have hle : ¬ ((k : Int) + 1 ≤ (k : Int)) := by omega
      go_wp2_with fail
      go_ret
      exact ⟨_, rfl, hown, hbel⟩

set_option maxHeartbeats 400000 in
theorem s_l5Indices (vars : Int) (A : Option Addr) (n c : Nat) (w : World) (hn : n ≤ 1000) :
    Calls Try.prog 102 #[.agg #[.int .i64 vars, .slice A n c]] w fun e w' => ∃ v', e = .returned v' ∧ OwnI (w.heap.size + 1) w' v' (idxK n) ∧ Below w.heap.size w w' := by
  obtain ⟨wa, hwa⟩ : ∃ wa, wa = w.alloc (.cells #[.int .i64 vars, .slice A n c] 29) := ⟨_, rfl⟩
  have hala : Below w.heap.size w wa := by rw [hwa]; exact (Below.refl _ _).alloc (Nat.le_refl _) _
  have hsa : w.heap.size + 1 = wa.heap.size := by rw [hwa]; simp
  have xa1 : wa.cell? ⟨w.heap.size, 1, none⟩ = some (.slice A n c) := by rw [hwa]; simp
  obtain ⟨wb, hwb⟩ : ∃ wb, wb = wa.alloc (.cells #[] 3) := ⟨_, rfl⟩
  have halb : Below wa.heap.size wa wb := by rw [hwb]; exact (Below.refl _ _).alloc (Nat.le_refl _) _
  have hmade : OwnI (w.heap.size + 1) wb (.slice (some ⟨w.heap.size + 1, 0, none⟩) 0 0) [] := by rw [hwb, hsa]; exact OwnI.made _ _ (Nat.le_refl _)
  have x01 := below_old halb _ _ xa1
  have hal := hala.trans (halb.mono (by omega))
  have hsb : w.heap.size + 1 ≤ wb.heap.size := by rw [hsa]; exact halb.size
  have HWB := hide (show wb = (w.alloc (.cells #[.int .i64 vars, .slice A n c] 29)).alloc (.cells #[] 3) by rw [hwb, hwa])
  have HMADE := hide hmade
  clear hwb hwa hmade hala halb hsa xa1
  go_enter Try.func102, Try.ntmps102
  go_wp2_with fail
  rw [← HWB.out]
  go_loopw [3, 4] (fun q i wr => ∃ k : Nat, k ≤ n ∧ i = .int .i64 k ∧ OwnI (w.heap.size + 1) wr q (idxK k) ∧ Below (w.heap.size + 1) wb wr) (fun _ i _ => n - (intOf i).toNat)
  case atStart => exact ⟨0, Nat.zero_le _, rfl, HMADE.out, Below.refl _ _⟩
  case round =>
    obtain ⟨k, hk, rfl, hown, hbel⟩ := hrel
    have y01 := (hbel.cell (p := ⟨w.heap.size, 1, none⟩) (by simp)).trans x01
    have hszr : w.heap.size + 1 ≤ wr.heap.size := Nat.le_trans hsb hbel.size
    by_cases hlt : k < n
    · have HL := hide (show (idxK k).length ≤ 1073741824 by rw [idxK_length]; omega)
      go_wp2_with (at_builtin; refine append_int rfl _ _ rfl (w.heap.size + 1) rfl hown rfl HL.out hszr ?_; intro v1 w2 hown1 hb1)
      go_roundw
      case rel => exact ⟨k + 1, by omega, by go_num, by rw [idxK_succ]; exact hown1, hbel.trans hb1⟩
      case measure => simp [intOf]; omega
    · obtain rfl : k = n := by omega
      go_wp2_with fail
      go_ret
      exact ⟨_, rfl, hown, hal.trans (hbel.mono (by omega))⟩

/-- the list half turned down by one -/
def midK (k n : Nat) : List Int := idxK k ++ (upK n).drop k
theorem midK_cons {k n : Nat} (h : k < n) : midK k n = idxK k ++ ((k : Int) + 1) :: (upK n).drop (k + 1) := by
  unfold midK
  rw [List.drop_eq_getElem_cons (by rw [upK_length]; exact h)]
  simp [upK]
theorem midK_next {k n : Nat} : idxK k ++ (k : Int) :: (upK n).drop (k + 1) = midK (k + 1) n := by
  unfold midK
  rw [idxK_succ]
  simp
theorem ic_set {pre r : List Int} {x y : Int} {k : Nat} (hk : pre.length = k) : (ic (pre ++ x :: r)).set k (.int .i64 y) = ic (pre ++ y :: r) := by
  simp only [ic, List.map_append, List.map_cons]
  rw [List.set_append_right _ _ (by simp [hk])]
  simp [hk]

set_option maxHeartbeats 1600000 in
theorem I_CoreOf {hi : Nat} (v : Value) (f : CnfL) (r0 : List Int) (r1 : Bool) (w : World) (h : RCnf hi w v f) (hn0 : szC f ≤ 1048576) (hR : fCoreOf f = (r0, r1)) :
    Calls Try.prog 47 #[v] w fun e w' => ∃ v', e = .returned (.tuple #[v', .bool r1]) ∧ FInts w.heap.size w'.heap.size w' v' r0 ∧ Below w.heap.size w w' := by
  obtain ⟨A, n, c, rfl, ht⟩ := h.open2
  obtain ⟨vars, t⟩ := f
  dsimp only at ht ⊢
  have hlen : t.length = n := by obtain ⟨A', c', ps', e, _⟩ := ht; injection e with _ e2; exact e2.symm
  obtain ⟨wb, hwb⟩ : ∃ wb, wb = w.alloc (.cells #[.int .i64 vars, .slice A n c] 29) := ⟨_, rfl⟩
  have hal : Below w.heap.size w wb := by rw [hwb]; exact (Below.refl _ _).alloc (Nat.le_refl _) _
  have hsb : w.heap.size + 1 = wb.heap.size := by rw [hwb]; simp
  have x00 : wb.cell? ⟨w.heap.size, 0, none⟩ = some (.int .i64 vars) := by rw [hwb]; simp
  have x01 : wb.cell? ⟨w.heap.size, 1, none⟩ = some (.slice A n c) := by rw [hwb]; simp
  have htb := ht.top.below hal
  have HWB := hide hwb
  have HSB := hide hsb
  clear hwb hsb
  cases hg : goodB (vars, t) with
  | false =>
    obtain ⟨rfl, rfl⟩ : r0 = [] ∧ r1 = false := by simpa [fCoreOf, hg, eq_comm] using hR
    clear hR
    go_enter Try.func47, Try.ntmps47
    go_wp2_with fail
    rw [← HWB.out]
    refine (i_IsCnf _ (vars, t) _ ⟨_, rfl, htb⟩).mono ?_
    rintro e w1 ⟨rfl, hb1⟩
    rw [hg]
    go_wp2_with fail
    go_ret2
    exact ⟨_, rfl, FInts.nil _ _ _, hal.trans (hb1.mono hal.size)⟩
  | true =>
    have HS := hide (goodB_small hg)
    have HN60 := hide (show n ≤ 60 by have := goodB_len hg; dsimp only at this; omega)
    obtain ⟨nv, hv, hn⟩ := varsB_nat (goodB_parts hg).1
    dsimp only at HS hv
    subst hv
    have HLE := hide hlen
    cases hs : satB ((nv : Int), t) with
    | true =>
      obtain ⟨rfl, rfl⟩ : r0 = [] ∧ r1 = false := by simpa [fCoreOf, hg, hs, eq_comm] using hR
      clear hR hlen
      go_enter Try.func47, Try.ntmps47
      go_wp2_with fail
      rw [← HWB.out]
      refine (i_IsCnf _ ((nv : Int), t) _ ⟨_, rfl, htb⟩).mono ?_
      rintro e w1 ⟨rfl, hb1⟩
      rw [hg]
      have y00 := below_old hb1 _ _ x00
      have y01 := below_old hb1 _ _ x01
      have hal1 := hal.trans (hb1.mono hal.size)
      go_wp2_with fail
      refine (i_satisfiable nv _ t _ (htb.below hb1) hn HS.out).mono ?_
      rintro e w2 ⟨rfl, hb2⟩
      rw [hs]
      go_wp2_with fail
      go_ret2
      exact ⟨_, rfl, FInts.nil _ _ _, hal1.trans (hb2.mono hal1.size)⟩
    | false =>
      obtain ⟨hr0, rfl⟩ : r0 = coreF nv t [] (rangeFrom 0 n) ∧ r1 = true := by simpa [fCoreOf, hg, hs, hlen, eq_comm] using hR
      have HR := hide hr0
      clear hR hr0 hlen
      go_enter Try.func47, Try.ntmps47
      go_wp2_with fail
      rw [← HWB.out]
      refine (i_IsCnf _ ((nv : Int), t) _ ⟨_, rfl, htb⟩).mono ?_
      rintro e w1 ⟨rfl, hb1⟩
      rw [hg]
      replace x00 := below_old hb1 _ _ x00
      replace x01 := below_old hb1 _ _ x01
      replace htb := htb.below hb1
      replace hal := hal.trans (hb1.mono hal.size)
      have hs1 := hb1.size
      go_wp2_with fail
      refine (i_satisfiable nv _ t _ htb hn HS.out).mono ?_
      rintro e w2 ⟨rfl, hb2⟩
      rw [hs]
      replace x00 := below_old hb2 _ _ x00
      replace x01 := below_old hb2 _ _ x01
      replace htb := htb.below hb2
      replace hal := hal.trans (hb2.mono hal.size)
      have hs2 := hb2.size
      have hn60 := HN60.out
      clear hb1 hb2
      go_wp2_with fail
      refine (i_upTo n _ (by omega)).mono ?_
      rintro e w3 ⟨v3, rfl, hown3, hb3⟩
      replace x00 := below_old hb3 _ _ x00
      replace x01 := below_old hb3 _ _ x01
      replace htb := htb.below hb3
      replace hal := hal.trans (hb3.mono hal.size)
      have hs3 := hb3.size
      have hws : w.heap.size + 1 ≤ w2.heap.size := by have := HSB.out; omega
      obtain ⟨A3, c3, rfl, hc3, hm3, hrow3⟩ := id hown3.fints
      rw [upK_length] at hc3
      have HO3 := hide hown3
      have HROW := hide hrow3
      clear hb3 hown3 hrow3
      rw [upK_length]
      unfold maxLen at hm3
      have hn1 : 1 ≤ n := by
        rcases Nat.eq_zero_or_pos n with h0 | h0
        · have := HLE.out
          rw [h0] at this
          rw [List.eq_nil_of_length_eq_zero this, satB_nil] at hs
          cases hs
        · exact h0
      obtain ⟨b, off, rfl, hlb, hhb, hcel⟩ := HROW.out.cel (by simp [upK_length]; omega)
      have hne : ¬ (b = w.heap.size) := by omega
      have HC0 := hide hcel
      clear hcel hs
      go_wp2_with fail
      go_loopw [24] (fun i wr => ∃ k : Nat, k ≤ n ∧ i = .int .i64 k ∧ Cel wr b off (ic (midK k n)) ∧ Below (w.heap.size + 1) w3 wr) (fun i _ => n - (intOf i).toNat)
      case atStart => exact ⟨0, Nat.zero_le _, rfl, by simpa [midK, idxK] using HC0.out, Below.refl _ _⟩
      case round =>
        obtain ⟨k, hk, rfl, hC, hbel⟩ := hrel
        by_cases hlt : k < n
        · rw [midK_cons hlt] at hC
          have hs0 := hC k (.int .i64 ((k : Int) + 1)) (by simp only [ic, List.map_append, List.map_cons]; rw [List.getElem?_append_right (by simp [idxK_length])]; simp [idxK_length])
          obtain ⟨s0, f0⟩ := hs0
          have hC1 := hC.set_ (i := k) (by simp [idxK_length]) (.int .i64 (k : Int))
          rw [ic_set (idxK_length k), midK_next] at hC1
          have HC1 := hide hC1
          have HBE := hide (hbel.setCell (p := ⟨b, off + k, none⟩) (by simp; omega) (.int .i64 (k : Int)))
          clear hC hC1 hbel
          go_wp2_with fail
          go_roundw
          case rel => exact ⟨k + 1, by omega, by go_num, HC1.out, HBE.out⟩
          case measure => simp [intOf]; omega
        · obtain rfl : k = n := by omega
          have hmid : midK k k = castL (rangeFrom 0 k) := by unfold midK; rw [List.drop_eq_nil_of_le (by rw [upK_length]; exact Nat.le_refl _), List.append_nil, idxK_range]
          rw [hmid] at hC
          have hF : FInts (w.heap.size + 1) wr.heap.size wr (.slice (some ⟨b, off, none⟩) k c3) ([] ++ castL (rangeFrom 0 k)) := by
            refine ⟨some ⟨b, off, none⟩, c3, by simp [rangeFrom_len], by simp [rangeFrom_len]; exact hc3, by unfold maxLen; omega, ?_⟩
            exact Cel.own (by simpa using hC) (by omega) (Nat.lt_of_lt_of_le hhb hbel.size)
          have HF0 := hide hF
          have z00 := (hbel.cell (p := ⟨w.heap.size, 0, none⟩) (by simp)).trans x00
          have z01 := (hbel.cell (p := ⟨w.heap.size, 1, none⟩) (by simp)).trans x01
          have tz := htb.under hbel (by omega)
          have hal4 := hal.trans (hbel.mono (by omega))
          have hws4 : w.heap.size + 1 ≤ wr.heap.size := by have := hbel.size; omega
          clear hC hF hbel x00 x01 htb hal hmid
          go_wp2_with fail
          go_loopw [4, 37] (fun q i ws => ∃ (j : Nat) (pre : List Int), j ≤ k ∧ i = .int .i64 j ∧ pre.length ≤ j ∧ Hid (∀ x ∈ pre, 0 ≤ x ∧ x < (j : Int)) ∧ Hid (coreF nv t [] (rangeFrom 0 k) = coreF nv t pre (rangeFrom j k)) ∧ FInts (w.heap.size + 1) ws.heap.size ws q (pre ++ castL (rangeFrom j k)) ∧ Below (w.heap.size + 1) wr ws) (fun _ i _ => k - (intOf i).toNat)
          case atStart => exact ⟨0, [], Nat.zero_le _, rfl, Nat.le_refl _, by intro x hx; simp at hx, rfl, HF0.out, Below.refl _ _⟩
          case round =>
            obtain ⟨j, pre, hj, rfl, hpl, hpb, hr2, hq, hbel⟩ := hrel
            have q00 := (hbel.cell (p := ⟨w.heap.size, 0, none⟩) (by simp)).trans z00
            have q01 := (hbel.cell (p := ⟨w.heap.size, 1, none⟩) (by simp)).trans z01
            have tq := tz.under hbel (by omega)
            by_cases hjl : j < k
            · have hrj : castL (rangeFrom j k) = (j : Int) :: castL (rangeFrom (j + 1) k) := by rw [rangeFrom_lt hjl]; rfl
              rw [hrj] at hq
              have HIX := hide (idxI_mid (x := (j : Int)) (r := castL (rangeFrom (j + 1) k)) pre 0 (fun y hy => (hpb.out y hy).2))
              have HSK := hide (skip_mid (pre := pre) (x := (j : Int)) (r := castL (rangeFrom (j + 1) k)) rfl)
              have HLZ := hide (show (pre ++ (j : Int) :: castL (rangeFrom (j + 1) k)).length = pre.length + 1 + (k - (j + 1)) by simp [rangeFrom_len]; omega)
              have HIN : Hid (∀ x ∈ pre ++ castL (rangeFrom (j + 1) k), 0 ≤ x ∧ x < (t.length : Int)) := by
                intro x hx
                rw [HLE.out]
                rcases List.mem_append.1 hx with hx | hx
                · have := hpb.out x hx; omega
                · obtain ⟨y, hy, rfl⟩ := List.mem_map.1 hx
                  have := rangeFrom_mem hy; omega
              have HLL := hide (show (pre ++ castL (rangeFrom (j + 1) k)).length ≤ 1048576 by simp [rangeFrom_len]; omega)
              obtain ⟨zs, hzs⟩ : ∃ zs, pre ++ (j : Int) :: castL (rangeFrom (j + 1) k) = zs := ⟨_, rfl⟩
              obtain ⟨ys, hys⟩ : ∃ ys, pre ++ castL (rangeFrom (j + 1) k) = ys := ⟨_, rfl⟩
              rw [hzs] at hq HLZ HIX
              rw [hzs, hys] at HSK
              rw [hys] at HIN HLL
              have HZS := hide hzs
              have HYS := hide hys
              obtain ⟨pl, hpl'⟩ : ∃ pl, pre.length = pl := ⟨_, rfl⟩
              rw [hpl'] at HIX HSK HLZ hpl
              rw [Nat.zero_add] at HIX
              have HPL := hide hpl'
              obtain ⟨A5, c5, rfl, hc5, hm5, hrow5⟩ := id hq
              have hplt : pl < zs.length := by rw [HLZ.out]; omega
              have hzl : zs.length ≤ 1048576 := by rw [HLZ.out]; omega
              have HQ := hide hq
              have HBEL := hide hbel
              have hws5 : w.heap.size + 1 ≤ wr.heap.size := Nat.le_trans hws4 hbel.size
              clear hzs hys hrj hpl' hq hrow5 hbel
              go_wp2_with fail
              refine (g_Index _ zs _ _ HQ.out.ints).mono ?_
              rintro e w5 ⟨rfl, rfl⟩
              rw [HIX.out]
              go_wp2_with fail
              refine (i_without _ zs pl _ HQ.out.ints hplt hzl).mono ?_
              rintro e w6 ⟨v6, rfl, hown6, hb6⟩
              rw [HSK.out] at hown6
              replace q00 := below_old hb6 _ _ q00
              replace q01 := below_old hb6 _ _ q01
              replace tq := tq.below hb6
              have hbel6 := HBEL.out.trans (hb6.mono hws5)
              have HQ6 := hide (HQ.out.below hb6)
              have hs6 := hb6.size
              obtain ⟨A6, c6, rfl, hc6, hm6, hrow6⟩ := id hown6.fints
              have HO6 := hide hown6
              clear hb6 hown6 hrow6
              go_wp2_with fail
              refine (i_isCore nv A k c t _ ys _ tq HO6.out.fints.ints hn HS.out HIN.out HLL.out).mono ?_
              rintro e w7 ⟨rfl, hb7⟩
              have hbel7 := hbel6.trans (hb7.mono (by omega))
              have hs7 := hb7.size
              cases hck : coreB nv t ys with
              | true =>
                have HF := hide (show coreF nv t [] (rangeFrom 0 k) = coreF nv t pre (rangeFrom (j + 1) k) by rw [hr2.out, rangeFrom_lt hjl]; rw [coreF, HYS.out, if_pos hck])
                have HQ7 := hide (show FInts (w.heap.size + 1) w7.heap.size w7 (.slice A6 ys.length c6) (pre ++ castL (rangeFrom (j + 1) k)) by rw [HYS.out]; exact (HO6.out.below hb7).fints.mono (by omega) (by omega))
                clear hb7
                go_wp2_with fail
                go_roundw
                case rel => exact ⟨j + 1, pre, by omega, by go_num, by have := HPL.out; omega, fun x hx => by have := hpb.out x hx; omega, HF.out, HQ7.out, hbel7⟩
                case measure => simp [intOf]; omega
              | false =>
                have HPB : Hid (∀ x ∈ pre ++ [(j : Int)], 0 ≤ x ∧ x < ((j + 1 : Nat) : Int)) := by
                  intro x hx
                  rcases List.mem_append.1 hx with hx | hx
                  · have := hpb.out x hx; omega
                  · obtain rfl := List.mem_singleton.1 hx; omega
                have HF := hide (show coreF nv t [] (rangeFrom 0 k) = coreF nv t (pre ++ [(j : Int)]) (rangeFrom (j + 1) k) by rw [hr2.out, rangeFrom_lt hjl]; rw [coreF, HYS.out, if_neg (by rw [hck]; simp)])
                have HQ7 := hide (show FInts (w.heap.size + 1) w7.heap.size w7 (.slice A5 zs.length c5) ((pre ++ [(j : Int)]) ++ castL (rangeFrom (j + 1) k)) by rw [List.append_assoc]; simp only [List.singleton_append]; rw [HZS.out]; exact (HQ6.out.below hb7).mono (Nat.le_refl _) (by omega))
                clear hb7
                go_wp2_with fail
                go_roundw
                case rel => exact ⟨j + 1, pre ++ [(j : Int)], by omega, by go_num, by have := HPL.out; simp; omega, HPB.out, HF.out, HQ7.out, hbel7⟩
                case measure => simp [intOf]; omega
            · obtain rfl : j = k := by omega
              rw [rangeFrom_end] at hq
              have HRR := hide (show r0 = pre by rw [HR.out, hr2.out, rangeFrom_end]; rfl)
              have HQ := hide hq
              clear hq
              go_wp2_with fail
              go_ret2
              exact ⟨_, rfl, by rw [HRR.out]; have := HQ.out; simp only [List.map_nil, List.append_nil] at this; exact this.mono (by omega) (Nat.le_refl _), hal4.trans (hbel.mono (by omega))⟩

def lenV : Value → Nat
  | .slice _ n _ => n
  | _ => 0

set_option maxHeartbeats 1600000 in
theorem S_CoreOf {hi : Nat} (v : Value) (f : CnfL) (r0 : List Int) (r1 : Bool) (w : World) (h : RCnf hi w v f) (hn0 : szC f ≤ 1048576) (hR : fCoreOf f = (r0, r1)) :
    Calls Try.prog 46 #[v] w fun e w' => ∃ v', e = .returned (.tuple #[v', .bool r1]) ∧ FInts w.heap.size w'.heap.size w' v' r0 ∧ Below w.heap.size w w' := by
  obtain ⟨A, n, c, rfl, ht⟩ := h.open2
  obtain ⟨vars, t⟩ := f
  dsimp only at ht ⊢
  have hlen : t.length = n := by obtain ⟨A', c', ps', e, _⟩ := ht; injection e with _ e2; exact e2.symm
  obtain ⟨wb, hwb⟩ : ∃ wb, wb = w.alloc (.cells #[.int .i64 vars, .slice A n c] 29) := ⟨_, rfl⟩
  have hal : Below w.heap.size w wb := by rw [hwb]; exact (Below.refl _ _).alloc (Nat.le_refl _) _
  have hsb : w.heap.size + 1 = wb.heap.size := by rw [hwb]; simp
  have x00 : wb.cell? ⟨w.heap.size, 0, none⟩ = some (.int .i64 vars) := by rw [hwb]; simp
  have x01 : wb.cell? ⟨w.heap.size, 1, none⟩ = some (.slice A n c) := by rw [hwb]; simp
  have htb := ht.top.below hal
  have HWB := hide hwb
  have HSB := hide hsb
  clear hwb hsb
  cases hg : goodB (vars, t) with
  | false =>
    obtain ⟨rfl, rfl⟩ : r0 = [] ∧ r1 = false := by simpa [fCoreOf, hg, eq_comm] using hR
    clear hR
    go_enter Try.func46, Try.ntmps46
    go_wp2_with fail
    rw [← HWB.out]
    refine (s_l2Good _ (vars, t) _ ⟨_, rfl, htb⟩).mono ?_
    rintro e w1 ⟨rfl, hb1⟩
    rw [hg]
    have hal1 := hal.trans (hb1.mono hal.size)
    have hm := OwnI.made w.heap.size w1 hal1.size
    have HM := hide hm
    clear hm
    go_wp2_with fail
    go_ret2
    exact ⟨_, rfl, HM.out.fints.mono (Nat.le_refl _) (Nat.le_refl _), hal1.alloc hal1.size _⟩
  | true =>
    have HS := hide (goodB_small hg)
    have HN60 := hide (show n ≤ 60 by have := goodB_len hg; dsimp only at this; omega)
    obtain ⟨nv, hv, hn⟩ := varsB_nat (goodB_parts hg).1
    dsimp only at HS hv
    subst hv
    have HLE := hide hlen
    cases hs : satB ((nv : Int), t) with
    | true =>
      obtain ⟨rfl, rfl⟩ : r0 = [] ∧ r1 = false := by simpa [fCoreOf, hg, hs, eq_comm] using hR
      clear hR hlen
      go_enter Try.func46, Try.ntmps46
      go_wp2_with fail
      rw [← HWB.out]
      refine (s_l2Good _ ((nv : Int), t) _ ⟨_, rfl, htb⟩).mono ?_
      rintro e w1 ⟨rfl, hb1⟩
      rw [hg]
      have y00 := below_old hb1 _ _ x00
      have y01 := below_old hb1 _ _ x01
      have hal1 := hal.trans (hb1.mono hal.size)
      go_wp2_with fail
      refine (s_l5Sat _ ((nv : Int), t) _ ⟨_, rfl, htb.below hb1⟩ hg).mono ?_
      rintro e w2 ⟨rfl, hb2⟩
      rw [hs]
      have hal2 := hal1.trans (hb2.mono hal1.size)
      have hm := OwnI.made w.heap.size w2 hal2.size
      have HM := hide hm
      clear hm
      go_wp2_with fail
      go_ret2
      exact ⟨_, rfl, HM.out.fints.mono (Nat.le_refl _) (Nat.le_refl _), hal2.alloc hal2.size _⟩
    | false =>
      obtain ⟨hr0, rfl⟩ : r0 = coreF nv t [] (rangeFrom 0 n) ∧ r1 = true := by simpa [fCoreOf, hg, hs, hlen, eq_comm] using hR
      have HR := hide hr0
      clear hR hr0 hlen
      go_enter Try.func46, Try.ntmps46
      go_wp2_with fail
      rw [← HWB.out]
      refine (s_l2Good _ ((nv : Int), t) _ ⟨_, rfl, htb⟩).mono ?_
      rintro e w1 ⟨rfl, hb1⟩
      rw [hg]
      replace x00 := below_old hb1 _ _ x00
      replace x01 := below_old hb1 _ _ x01
      replace htb := htb.below hb1
      replace hal := hal.trans (hb1.mono hal.size)
      have hs1 := hb1.size
      go_wp2_with fail
      refine (s_l5Sat _ ((nv : Int), t) _ ⟨_, rfl, htb⟩ hg).mono ?_
      rintro e w2 ⟨rfl, hb2⟩
      rw [hs]
      replace x00 := below_old hb2 _ _ x00
      replace x01 := below_old hb2 _ _ x01
      replace htb := htb.below hb2
      replace hal := hal.trans (hb2.mono hal.size)
      have hs2 := hb2.size
      have hn60 := HN60.out
      clear hb1 hb2
      go_wp2_with fail
      refine (s_l5Indices nv A n c _ (by omega)).mono ?_
      rintro e w3 ⟨v3, rfl, hown3, hb3⟩
      replace x00 := below_old hb3 _ _ x00
      replace x01 := below_old hb3 _ _ x01
      replace htb := htb.below hb3
      replace hal := hal.trans (hb3.mono hal.size)
      have hs3 := hb3.size
      have hws : w.heap.size + 1 ≤ w3.heap.size := by have := HSB.out; omega
      have HF0 := hide (show FInts (w.heap.size + 1) w3.heap.size w3 v3 ([] ++ castL (rangeFrom 0 n)) by rw [List.nil_append, ← idxK_range]; exact hown3.fints.mono (by have := HSB.out; omega) (Nat.le_refl _))
      clear hb3 hown3 hs hs1 hs2 hs3
      go_wp2_with fail
      go_loopw [4, 5] (fun q i ws => ∃ (j : Nat) (pre : List Int), j ≤ n ∧ i = .int .i64 (pre.length : Nat) ∧ pre.length ≤ j ∧ Hid (∀ x ∈ pre, 0 ≤ x ∧ x < (j : Int)) ∧ Hid (coreF nv t [] (rangeFrom 0 n) = coreF nv t pre (rangeFrom j n)) ∧ FInts (w.heap.size + 1) ws.heap.size ws q (pre ++ castL (rangeFrom j n)) ∧ Below (w.heap.size + 1) w3 ws) (fun q i _ => 2 * lenV q - (intOf i).toNat)
      case atStart => exact ⟨0, [], Nat.zero_le _, rfl, Nat.le_refl _, by intro x hx; simp at hx, rfl, HF0.out, Below.refl _ _⟩
      case round =>
        obtain ⟨j, pre, hj, rfl, hpl, hpb, hr2, hq, hbel⟩ := hrel
        have q00 := (hbel.cell (p := ⟨w.heap.size, 0, none⟩) (by simp)).trans x00
        have q01 := (hbel.cell (p := ⟨w.heap.size, 1, none⟩) (by simp)).trans x01
        have tq := htb.under hbel (by omega)
        obtain ⟨pl, hpl'⟩ : ∃ pl, pre.length = pl := ⟨_, rfl⟩
        by_cases hjl : j < n
        · have hrj : castL (rangeFrom j n) = (j : Int) :: castL (rangeFrom (j + 1) n) := by rw [rangeFrom_lt hjl]; rfl
          rw [hrj] at hq
          have HSK := hide (skip_mid (pre := pre) (x := (j : Int)) (r := castL (rangeFrom (j + 1) n)) rfl)
          have HLZ := hide (show (pre ++ (j : Int) :: castL (rangeFrom (j + 1) n)).length = pre.length + 1 + (n - (j + 1)) by simp [rangeFrom_len]; omega)
          have HLY := hide (show (pre ++ castL (rangeFrom (j + 1) n)).length = pre.length + (n - (j + 1)) by simp [rangeFrom_len])
          have HIN : Hid (∀ x ∈ pre ++ castL (rangeFrom (j + 1) n), 0 ≤ x ∧ x < (t.length : Int)) := by
            intro x hx
            rw [HLE.out]
            rcases List.mem_append.1 hx with hx | hx
            · have := hpb.out x hx; omega
            · obtain ⟨y, hy, rfl⟩ := List.mem_map.1 hx
              have := rangeFrom_mem hy; omega
          obtain ⟨zs, hzs⟩ : ∃ zs, pre ++ (j : Int) :: castL (rangeFrom (j + 1) n) = zs := ⟨_, rfl⟩
          obtain ⟨ys, hys⟩ : ∃ ys, pre ++ castL (rangeFrom (j + 1) n) = ys := ⟨_, rfl⟩
          rw [hzs] at hq HLZ
          rw [hzs, hys] at HSK
          rw [hys] at HIN HLY
          have HZS := hide hzs
          have HYS := hide hys
          rw [hpl'] at HSK HLZ HLY hpl
          rw [hpl']
          have HPL := hide hpl'
          obtain ⟨A5, c5, rfl, hc5, hm5, hrow5⟩ := id hq
          have hplt : pl < zs.length := by rw [HLZ.out]; omega
          have hzl : zs.length ≤ 1048576 := by rw [HLZ.out]; omega
          have hyl : ys.length ≤ 1048576 := by rw [HLY.out]; omega
          have HQ := hide hq
          have HBEL := hide hbel
          have hws5 : w.heap.size + 1 ≤ wr.heap.size := Nat.le_trans hws hbel.size
          clear hzs hys hrj hpl' hq hrow5 hbel
          go_wp2_with fail
          refine (s_l5Skip _ zs pl _ HQ.out.ints hplt hzl).mono ?_
          rintro e w6 ⟨v6, rfl, hown6, hb6⟩
          rw [HSK.out] at hown6
          replace q00 := below_old hb6 _ _ q00
          replace q01 := below_old hb6 _ _ q01
          replace tq := tq.below hb6
          have hbel6 := HBEL.out.trans (hb6.mono hws5)
          have HQ6 := hide (HQ.out.below hb6)
          have hs6 := hb6.size
          obtain ⟨A6, c6, rfl, hc6, hm6, hrow6⟩ := id hown6.fints
          have HO6 := hide hown6
          clear hb6 hown6 hrow6
          go_wp2_with fail
          refine (s_l5Core nv A n c t _ ys _ tq HO6.out.fints.ints hn HS.out HIN.out hyl).mono ?_
          rintro e w7 ⟨rfl, hb7⟩
          have hbel7 := hbel6.trans (hb7.mono (by omega))
          have hs7 := hb7.size
          cases hck : coreB nv t ys with
          | true =>
            have HF := hide (show coreF nv t [] (rangeFrom 0 n) = coreF nv t pre (rangeFrom (j + 1) n) by rw [hr2.out, rangeFrom_lt hjl]; rw [coreF, HYS.out, if_pos hck])
            have HQ7 := hide (show FInts (w.heap.size + 1) w7.heap.size w7 (.slice A6 ys.length c6) (pre ++ castL (rangeFrom (j + 1) n)) by rw [HYS.out]; exact (HO6.out.below hb7).fints.mono (by omega) (by omega))
            clear hb7
            go_wp2_with fail
            go_roundw
            case rel => exact ⟨j + 1, pre, by omega, by rw [HPL.out], by have := HPL.out; omega, fun x hx => by have := hpb.out x hx; omega, HF.out, HQ7.out, hbel7⟩
            case measure => have h1 := HLY.out; have h2 := HLZ.out; simp [intOf, lenV]; omega
          | false =>
            have HPB : Hid (∀ x ∈ pre ++ [(j : Int)], 0 ≤ x ∧ x < ((j + 1 : Nat) : Int)) := by
              intro x hx
              rcases List.mem_append.1 hx with hx | hx
              · have := hpb.out x hx; omega
              · obtain rfl := List.mem_singleton.1 hx; omega
            have HF := hide (show coreF nv t [] (rangeFrom 0 n) = coreF nv t (pre ++ [(j : Int)]) (rangeFrom (j + 1) n) by rw [hr2.out, rangeFrom_lt hjl]; rw [coreF, HYS.out, if_neg (by rw [hck]; simp)])
            have HQ7 := hide (show FInts (w.heap.size + 1) w7.heap.size w7 (.slice A5 zs.length c5) ((pre ++ [(j : Int)]) ++ castL (rangeFrom (j + 1) n)) by rw [List.append_assoc]; simp only [List.singleton_append]; rw [HZS.out]; exact (HQ6.out.below hb7).mono (Nat.le_refl _) (by omega))
            clear hb7
            go_wp2_with fail
            go_roundw
            case rel => exact ⟨j + 1, pre ++ [(j : Int)], by omega, by simp [HPL.out], by have := HPL.out; simp; omega, HPB.out, HF.out, HQ7.out, hbel7⟩
            case measure => have h1 := HLY.out; have h2 := HLZ.out; simp [intOf, lenV]; omega
        · obtain rfl : j = n := by omega
          rw [rangeFrom_end] at hq
          simp only [List.map_nil, List.append_nil] at hq
          have HRR := hide (show r0 = pre by rw [HR.out, hr2.out, rangeFrom_end]; rfl)
          obtain ⟨A5, c5, rfl, hc5, hm5, hrow5⟩ := id hq
          have HQ := hide hq
          clear hq hrow5 hpl'
          go_wp2_with fail
          go_ret2
          exact ⟨_, rfl, by rw [HRR.out]; exact HQ.out.mono (by omega) (Nat.le_refl _), hal.trans (hbel.mono (by omega))⟩

end Go.Proofs.Ytkmkdfogpdndoaa
