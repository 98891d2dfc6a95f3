/- Slices of texts that read as lists; the law's own small helpers on []string: equality, marks. -/
import Derived.Test.YtmepficbmgjpoaaDoorStrs
import Derived.Laws.IdiomStrings
namespace Go.Proofs.YtmepficbmgjpoaaDoor
open Go.RowKit
set_option linter.unusedVariables false

/-- The slice value v reads as the texts xs. -/
def StrV (hi : Nat) (w : World) (v : Value) (xs : List ByteArray) : Prop :=
  ∃ A c, v = .slice A xs.length c ∧ xs.length ≤ c ∧ c ≤ maxLen ∧ Row hi w A (sc xs)
/-- .. in memory from block lo on, which may be written. -/
def FStr (lo hi : Nat) (w : World) (v : Value) (xs : List ByteArray) : Prop :=
  ∃ A c, v = .slice A xs.length c ∧ xs.length ≤ c ∧ c ≤ maxLen ∧ Own lo hi w A (sc xs)
section
variable {hi lo : Nat} {w w' : World} {v : Value} {xs : List ByteArray}
theorem FStr.strs (h : FStr lo hi w v xs) : StrV hi w v xs := by
  obtain ⟨A, c, e, h1, h2, h3⟩ := h; exact ⟨A, c, e, h1, h2, h3.row⟩
theorem FStr.mono {lo' hi' : Nat} (h : FStr lo hi w v xs) (hl : lo' ≤ lo) (hh : hi ≤ hi') : FStr lo' hi' w v xs := by
  obtain ⟨A, c, e, h1, h2, h3⟩ := h; exact ⟨A, c, e, h1, h2, h3.mono hl hh⟩
theorem StrV.below (h : StrV hi w v xs) (hb : Below w.heap.size w w') : StrV hi w' v xs := by
  obtain ⟨A, c, e, h1, h2, h3⟩ := h; exact ⟨A, c, e, h1, h2, h3.below hb⟩
theorem FStr.below (h : FStr lo hi w v xs) (hb : Below w.heap.size w w') : FStr lo hi w' v xs := by
  obtain ⟨A, c, e, h1, h2, h3⟩ := h; exact ⟨A, c, e, h1, h2, h3.below hb⟩
theorem StrV.top (h : StrV hi w v xs) : StrV w.heap.size w v xs := by
  obtain ⟨A, c, e, h1, h2, h3⟩ := h; exact ⟨A, c, e, h1, h2, h3.top⟩
theorem StrV.chg {lo' hi' : Nat} (h : StrV hi w v xs) (hc : Chg lo' hi' w w') (hl : hi ≤ lo') : StrV hi w' v xs := by
  obtain ⟨A, c, e, h1, h2, h3⟩ := h; exact ⟨A, c, e, h1, h2, h3.chg hc hl⟩
theorem FStr.chg {lo' hi' : Nat} (h : FStr lo hi w v xs) (hc : Chg lo' hi' w w') (hl : hi ≤ lo' ∨ hi' ≤ lo) : FStr lo hi w' v xs := by
  obtain ⟨A, c, e, h1, h2, h3⟩ := h; exact ⟨A, c, e, h1, h2, h3.chg hc hl⟩
theorem FStr.nil (lo hi : Nat) (w : World) : FStr lo hi w (.slice none 0 0) [] := ⟨none, 0, rfl, Nat.le_refl _, by simp [maxLen], Own.nil _ _ _ _⟩
theorem Row.str {A : Option Addr} {k : Nat} (h : Row hi w A (sc xs)) (hk : k < xs.length) :
    ∃ b off x, A = some ⟨b, off, none⟩ ∧ xs.drop k = x :: xs.drop (k + 1) ∧ w.cell? ⟨b, off + k, none⟩ = some (.string x) := by
  obtain ⟨b, off, e, hc⟩ := h.at_ (k := k) (by simpa using hk)
  exact ⟨b, off, xs[k], e, List.drop_eq_getElem_cons hk, by rw [hc]; simp⟩
end
theorem OwnS.fstr {base : Nat} {w : World} {v : Value} {xs : List ByteArray} (h : OwnS base w v xs) : FStr base w.heap.size w v xs := by
  obtain ⟨A, c, e, h1, h2, h3⟩ := h.own
  exact ⟨A, c, e, h1, h2, h3⟩
theorem chg_of_below {lo hi : Nat} {w w' : World} (h : Below w.heap.size w w') : Chg lo hi w w' := ⟨h.os, h.tape, h.output, h.size, fun k hk _ => h.block k hk⟩

set_option maxHeartbeats 400000 in
/-- two slices that read alike are equal -/
theorem eqStringS_yes {hi hi' : Nat} (v v' : Value) (zs : List ByteArray) (w : World) (h : StrV hi w v zs) (h' : StrV hi' w v' zs) (hn : zs.length ≤ 1048576) :
    Calls Tryd.prog 18 #[v, v'] w fun e w' => e = .returned (.bool true) ∧ Quiet w w' := by
  obtain ⟨A, c, rfl, hc, hm, hrow⟩ := h
  obtain ⟨A', c', rfl, hc', hm', hrow'⟩ := h'
  unfold maxLen at hm hm'
  go_enter Tryd.func18, Tryd.ntmps18
  go_wp2
  go_loopw [5] (fun i wr => ∃ k : Nat, k ≤ zs.length ∧ i = .int .i64 k ∧ Quiet w wr) (fun i _ => zs.length - (intOf i).toNat)
  case atStart => exact ⟨0, Nat.zero_le _, rfl, Quiet.refl _⟩
  case round =>
    obtain ⟨k, hk, rfl, hq⟩ := hrel
    by_cases hlt : k < zs.length
    · obtain ⟨b, off, x, rfl, hx, hcw⟩ := hrow.str hlt
      obtain ⟨b', off', x', rfl, hx', hcw'⟩ := hrow'.str hlt
      obtain rfl : x = x' := by rw [hx] at hx'; injection hx'
      rw [← hq.cell] at hcw hcw'
      clear hx hx'
      go_wp2
      go_quiet (fail)
      go_wp2
      go_roundw
      case rel => exact ⟨k + 1, by omega, by go_num, hq.drewN _⟩
      case measure => simp [intOf]; omega
    · go_wp2
      go_ret
      exact ⟨rfl, hq⟩

/-- the mark with number k -/
def mkL (k : Nat) : List UInt8 := 109 :: Lib.decDigits k
def dig (m : Nat) : List UInt8 := if m = 0 then [] else Lib.decDigits m
theorem dig_pos (m : Nat) (h : 0 < m) : dig m = dig (m / 10) ++ [UInt8.ofNat (48 + m % 10)] := by
  unfold dig
  rw [if_neg (by omega)]
  by_cases h1 : m < 10
  · rw [if_pos (by omega), Lib.decDigits, dif_pos h1, show m % 10 = m by omega]; rfl
  · rw [if_neg (by omega)]
    conv => lhs; rw [Lib.decDigits, dif_neg h1]
set_option maxHeartbeats 1600000 in
theorem l_markText (k : Nat) (w : World) (h0 : 1 ≤ k) (h1 : k ≤ 1099511627776) :
    Calls Tryd.prog 50 #[.int .i64 k] w fun e w' => e = .returned (.string (bs (mkL k))) ∧ Below w.heap.size w w' := by
  have c1 : ¬ ((k : Int) ≤ 0) := by omega
  have H0 := hide h0
  clear h0
  go_enter Tryd.func50, Tryd.ntmps50
  go_wp2_with fail
  go_loopw [0, 3] (fun q o wr => ∃ (m : Nat) (l : List UInt8), m ≤ k ∧ q = .int .i64 m ∧ o = .string (bs l) ∧ Hid (Lib.decDigits k = dig m ++ l) ∧ Below w.heap.size w wr) (fun q _ _ => (intOf q).toNat)
  case atStart => exact ⟨k, [], Nat.le_refl _, rfl, rfl, hide (by unfold dig; rw [if_neg (by have := H0.out; omega)]; simp), Below.refl _ _⟩
  case round =>
    obtain ⟨m, l, hm, rfl, rfl, hr, hbel⟩ := hrel
    by_cases hlt : 0 < m
    · have c2 : (0 : Int) < (m : Int) := by omega
      have hd := dig_pos m hlt
      have hll : l.length ≤ k + 1 := by
        have h9 := decDigits_le k
        have h8 := congrArg List.length hr.out
        rw [List.length_append] at h8
        omega
      obtain ⟨q, hq⟩ : ∃ q : Nat, (m : Int) / 10 = (q : Int) := ⟨m / 10, by omega⟩
      obtain ⟨d, hdd⟩ : ∃ d : Nat, (m : Int) % 10 = (d : Int) := ⟨m % 10, by omega⟩
      have hqn : m / 10 = q := by omega
      have hdn : m % 10 = d := by omega
      rw [hqn, hdn] at hd
      have hd9 : d < 10 := by omega
      have hql : q < m := by omega
      have hdt : Int.tmod (m : Int) 10 = (d : Int) := by rw [Int.tmod_eq_emod_of_nonneg (by omega)]; exact hdd
      have hwq : IntKind.i64.wrap (q : Int) = (q : Int) := by rw [IntKind.wrap_i64]; omega
      have hwd : IntKind.i64.wrap (d : Int) = (d : Int) := by rw [IntKind.wrap_i64]; omega
      obtain ⟨u, hu⟩ : ∃ u : Nat, 48 + d = u := ⟨_, rfl⟩
      have hw1 : IntKind.i64.wrap (48 + (d : Int)) = (u : Int) := by rw [IntKind.wrap_i64]; omega
      have hw2 : IntKind.u8.wrap (u : Int) = (u : Int) := by rw [IntKind.wrap_u8]; omega
      have hcv : ∀ W : World, W.cell? ⟨wr.heap.size, 0, none⟩ = some (.int .u8 (u : Int)) → (convert 77 9 (.slice (some ⟨wr.heap.size, 0, none⟩) 1 1)).run Tryd.prog W = .ok (.string (bs [UInt8.ofNat (u)])) W := fun W hc =>
        run_convert_bytes_back W 77 9 5 ⟨wr.heap.size, 0, none⟩ 1 [UInt8.ofNat (u)] Tryd.underlying77 Tryd.underlying5 Tryd.underlying9 (fun j hj => by
          have : j = 0 := by simp at hj; omega
          subst this
          simp [Addr.add, hc]
          omega)
      have hcv2 := hcv (wr.alloc (.cells #[.int .u8 (u : Int)] 5)) (by simp)
      have hsz1 : ¬ (9223372036854775807 < (bs [UInt8.ofNat (u)]).size + (bs l).size) := by rw [bs_size, bs_size]; simp; omega
      have HF := hide (show Lib.decDigits k = dig q ++ (UInt8.ofNat (u) :: l) by rw [hr.out, hd, hu]; simp)
      have hal : Below wr.heap.size wr (wr.alloc (.cells #[.int .u8 (u : Int)] 5)) := (Below.refl _ _).alloc (Nat.le_refl _) _
      have HB := hide (hbel.trans (hal.mono hbel.size))
      obtain ⟨y, hy⟩ : ∃ y, UInt8.ofNat (u) = y := ⟨_, rfl⟩
      rw [hy] at hcv2 hsz1 HF
      have HU := hide hu
      clear hcv hd hr hdn hqn hal hu
      go_wp2_with fail
      go_roundw
      case rel => exact ⟨q, y :: l, by omega, by go_num, by rw [bs_append]; rfl, HF.out, HB.out⟩
      case measure => simp [intOf]; omega
    · obtain rfl : m = 0 := by omega
      have HF := hide (show Lib.decDigits k = l by rw [hr.out]; rfl)
      have hll : l.length ≤ k + 1 := by rw [← HF.out]; exact decDigits_le k
      have hsz1 : ¬ (9223372036854775807 < (ByteArray.mk #[109]).size + (bs l).size) := by rw [bs_size, show (ByteArray.mk #[109]).size = 1 from rfl]; omega
      clear hr
      go_wp2_with fail
      go_ret
      exact ⟨by rw [show ByteArray.mk #[109] = bs [109] from rfl, bs_append]; unfold mkL; rw [HF.out]; rfl, hbel⟩

/-- n marks from k on. -/
def mkS (k : Nat) (n : Nat) : List ByteArray := (List.range n).map fun (i : Nat) => bs (mkL (k + i))
theorem mkS_length (k n : Nat) : (mkS k n).length = n := by simp [mkS]
/-- the first k texts are marked -/
def mkP (k0 : Nat) (zs : List ByteArray) (k : Nat) : List ByteArray := mkS k0 k ++ zs.drop k
theorem mkP_len (k0 : Nat) (zs : List ByteArray) (k : Nat) (h : k ≤ zs.length) : (mkP k0 zs k).length = zs.length := by simp [mkP, mkS_length]; omega
theorem mkP_set (k0 : Nat) (zs : List ByteArray) (k : Nat) (h : k < zs.length) : (sc (mkP k0 zs k)).set k (.string (bs (mkL (k0 + k)))) = sc (mkP k0 zs (k + 1)) := by
  have h1 : (mkP k0 zs k) = mkS k0 k ++ zs[k] :: zs.drop (k + 1) := by unfold mkP; rw [List.drop_eq_getElem_cons h]
  have h2 : mkP k0 zs (k + 1) = mkS k0 k ++ bs (mkL (k0 + k)) :: zs.drop (k + 1) := by
    unfold mkP mkS
    rw [List.range_succ]
    simp
  rw [h1, h2]
  unfold sc
  rw [List.map_append, List.map_append, List.set_append_right _ _ (by rw [List.length_map, mkS_length]; exact Nat.le_refl _), List.length_map, mkS_length, Nat.sub_self, List.map_cons, List.map_cons, List.set_cons_zero]

set_option maxHeartbeats 1600000 in
theorem markStringS_any {lo hi : Nat} (v : Value) (zs : List ByteArray) (k0 : Nat) (w : World) (h : FStr lo hi w v zs) (hn : zs.length ≤ 16777216) (h0 : 1 ≤ k0) (h1 : k0 ≤ 16777216) :
    Calls Tryd.prog 19 #[v, .int .i64 k0] w fun e w' => e = .returned (.int .i64 (k0 + zs.length)) ∧ FStr lo hi w' v (mkS k0 zs.length) ∧ Chg lo hi w w' := by
  obtain ⟨A, c, rfl, hc, hm, hrow⟩ := h
  unfold maxLen at hm
  rcases Nat.eq_zero_or_pos zs.length with hz | hz
  · obtain rfl : zs = [] := List.eq_nil_of_length_eq_zero hz
    go_enter Tryd.func19, Tryd.ntmps19
    go_wp2_with fail
    refine wp_loop_rounds 1 ?_
    rw [rounds_succ]
    go_wp2_with fail
    go_ret
    exact ⟨by simp, ⟨A, c, rfl, hc, by unfold maxLen; omega, Own.nil _ _ _ _⟩, chg_refl _ _ _⟩
  · obtain ⟨b, off, rfl, hl, hh, hcell⟩ := hrow.cel (by simpa using hz)
    obtain ⟨n, hnn⟩ : ∃ n, zs.length = n := ⟨_, rfl⟩
    have HN := hide hnn
    have HC := hide (show Cel w b off (sc (mkP k0 zs 0)) from hcell)
    rw [hnn] at hc hn hz ⊢
    clear hcell hrow hnn
    go_enter Tryd.func19, Tryd.ntmps19
    go_wp2_with fail
    go_loopw [1, 5] (fun q i wr => ∃ k : Nat, k ≤ n ∧ i = .int .i64 k ∧ q = .int .i64 ((k0 + k : Nat) : Int) ∧ Hid (Cel wr b off (sc (mkP k0 zs k))) ∧ Chg lo hi w wr) (fun _ i _ => n - (intOf i).toNat)
    case atStart => exact ⟨0, Nat.zero_le _, rfl, by simp, HC.out, chg_refl _ _ _⟩
    case round =>
      obtain ⟨k, hk, rfl, rfl, hcel, hchg⟩ := hrel
      by_cases hlt : k < n
      · have hkl : k < (sc (mkP k0 zs k)).length := by rw [List.length_map, mkP_len _ _ _ (by rw [HN.out]; omega), HN.out]; exact hlt
        obtain ⟨ov, hov⟩ : ∃ ov, (sc (mkP k0 zs k))[k]? = some ov := ⟨_, List.getElem?_eq_getElem hkl⟩
        have hold := hcel.out k ov hov
        have HT := hide (l_markText (k0 + k) wr (by omega) (by omega))
        have HST := hide (fun w3 (hb : Below wr.heap.size wr w3) => (show w3.cell? ⟨b, off + k, none⟩ = some ov ∧ w3.frozen? ⟨b, off + k, none⟩ = false ∧ Cel (w3.setCell ⟨b, off + k, none⟩ (.string (bs (mkL (k0 + k))))) b off (sc (mkP k0 zs (k + 1))) ∧ Chg lo hi w (w3.setCell ⟨b, off + k, none⟩ (.string (bs (mkL (k0 + k))))) from by
          have h9 := hcel.out.below hb
          refine ⟨below_old hb _ _ hold.1, (hb.frozen (World.block_lt_of_cell? _ _ hold.1)).trans hold.2, ?_, (hchg.trans (chg_of_below hb)).setCell hl hh _⟩
          have h10 := h9.set_ hkl (.string (bs (mkL (k0 + k))))
          rw [← mkP_set k0 zs k (by rw [HN.out]; exact hlt)]
          exact h10))
        have e1 : ((k0 + k : Nat) : Int) + 1 = ((k0 + (k + 1) : Nat) : Int) := by omega
        have e2 : IntKind.i64.wrap (((k0 + k : Nat) : Int) + 1) = ((k0 + k : Nat) : Int) + 1 := by rw [IntKind.wrap_i64]; omega
        clear hcel hold hov hkl
        obtain ⟨K, hK⟩ : ∃ K, k0 + k = K := ⟨_, rfl⟩
        rw [hK] at HT HST e1 e2 ⊢
        have HK := hide hK
        clear hK
        go_wp2_with fail
        refine HT.out.mono ?_
        rintro e w3 ⟨rfl, hb3⟩
        obtain ⟨z1, z2, z3, z4⟩ := HST.out w3 hb3
        have HZ3 := hide z3
        have HZ4 := hide z4
        clear z3 z4 hchg
        go_wp2_with fail
        go_roundw
        case rel => exact ⟨k + 1, by omega, by go_num, by first | rfl | (rw [← e1]; go_num), HZ3.out, HZ4.out⟩
        case measure => simp [intOf]; omega
      · obtain rfl : k = n := by omega
        have HF := hide (show Cel wr b off (sc (mkS k0 k)) by
          have h9 := hcel.out
          unfold mkP at h9
          rw [List.drop_eq_nil_of_le (by rw [HN.out]; exact Nat.le_refl _), List.append_nil] at h9
          exact h9)
        clear hcel
        go_wp2_with fail
        go_ret
        refine ⟨by go_num, ⟨some ⟨b, off, none⟩, c, by rw [mkS_length], by rw [mkS_length]; exact hc, by unfold maxLen; omega, HF.out.own hl hh⟩, hchg⟩

theorem mkS_get {k n i : Nat} {x : ByteArray} (h : (mkS k n).drop i = x :: (mkS k n).drop (i + 1)) : x = bs (mkL (k + i)) := by
  have hi : i < (mkS k n).length := by
    rcases Nat.lt_or_ge i (mkS k n).length with h1 | h1
    · exact h1
    · rw [List.drop_eq_nil_of_le h1] at h; cases h
  rw [List.drop_eq_getElem_cons hi] at h
  injection h with h1 h2
  rw [← h1]; simp [mkS]
set_option maxHeartbeats 1600000 in
theorem heldStringS_yes {hi : Nat} (v : Value) (n : Nat) (k0 : Nat) (w : World) (h : StrV hi w v (mkS k0 n)) (hn : n ≤ 16777216) (h0 : 1 ≤ k0) (h1 : k0 ≤ 16777216) :
    Calls Tryd.prog 20 #[v, .int .i64 k0] w fun e w' => e = .returned (.int .i64 (k0 + n)) ∧ Below w.heap.size w w' := by
  obtain ⟨A, c, rfl, hc, hm, hrow⟩ := h
  have hl := mkS_length k0 n
  rw [hl] at hc ⊢
  unfold maxLen at hm
  have HL := hide hl
  clear hl
  go_enter Tryd.func20, Tryd.ntmps20
  go_wp2_with fail
  go_loopw [1, 5] (fun q i wr => ∃ k : Nat, k ≤ n ∧ i = .int .i64 k ∧ q = .int .i64 ((k0 + k : Nat) : Int) ∧ Below w.heap.size w wr) (fun _ i _ => n - (intOf i).toNat)
  case atStart => exact ⟨0, Nat.zero_le _, rfl, by simp, Below.refl _ _⟩
  case round =>
    obtain ⟨k, hk, rfl, rfl, hbel⟩ := hrel
    by_cases hlt : k < n
    · obtain ⟨b, off, x, rfl, hx, hcw⟩ := hrow.str (k := k) (by rw [HL.out]; exact hlt)
      have hxx := mkS_get hx
      rw [hxx] at hcw
      replace hcw := below_old hbel _ _ hcw
      have hcg : ∀ d os, (Go.Sort.grow (redrawn wr d) os).cell? ⟨b, off + k, none⟩ = some (.string (bs (mkL (k0 + k)))) := fun d os => below_old (below_regrown wr d os) _ _ hcw
      have HT := hide (fun W => l_markText (k0 + k) W (by omega) (by omega))
      have e1 : ((k0 + k : Nat) : Int) + 1 = ((k0 + (k + 1) : Nat) : Int) := by omega
      have e2 : IntKind.i64.wrap (((k0 + k : Nat) : Int) + 1) = ((k0 + k : Nat) : Int) + 1 := by rw [IntKind.wrap_i64]; omega
      have hsr := hbel.size
      clear hx hxx
      obtain ⟨K, hK⟩ : ∃ K, k0 + k = K := ⟨_, rfl⟩
      rw [hK] at HT e1 e2 hcw hcg ⊢
      have HK := hide hK
      clear hK
      go_wp2_with fail
      refine wp_region_quiet_below (by kernel_rfl) (by kernel_rfl) ?_
      repeat (go_big_quiet_step (((go_at_call 50; exact belowC fun W hW => HT.out W))))
      refine wpQuiet_nil ?_
      intro wq hw'
      have hbwq := below_of_regrown hw'
      clear hw'
      go_wp2_with fail
      go_roundw
      case rel => exact ⟨k + 1, by omega, by go_num, by first | rfl | (rw [← e1]; go_num), hbel.trans (hbwq.mono hsr)⟩
      case measure => simp [intOf]; omega
    · obtain rfl : k = n := by omega
      go_wp2_with fail
      go_ret
      exact ⟨by go_num, hbel⟩

end Go.Proofs.YtmepficbmgjpoaaDoor
