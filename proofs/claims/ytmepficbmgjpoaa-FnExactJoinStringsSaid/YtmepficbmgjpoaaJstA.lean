/- What came in, opened; texts and slices of texts; the law's own small helpers on []string: copy, equality, size. -/
import Derived.Test.YtmepficbmgjpoaaRows
import Derived.Test.YtmepficbmgjpoaaLib
import Derived.Test.YtmepficbmgjpoaaShelf
import Derived.SliceStrings
import Derived.ProofKit
import Derived.ShutString
import Derived.Below
import Derived.Laws.Concat
import Derived.Deep.RegionHeld3
namespace Go.Proofs.Ytmepficbmgjpoaa
open Go.ChangeShapes Go.WideShapes Go.ChangeAt Go.RowKit
open Go.ChangeMaps (open_string shut_string)
set_option linter.unusedVariables false

theorem own : ownKnob Try.prog.godebug = none := by kernel_rfl
theorem laidOut : laidOutB Try.prog = true := by kernel_rfl
def bs (l : List UInt8) : ByteArray := ⟨l.toArray⟩

theorem bs_append (a b : List UInt8) : bs a ++ bs b = bs (a ++ b) := by
  apply ByteArray.ext
  simp [bs, ByteArray.data_append]

theorem bs_size (l : List UInt8) : (bs l).size = l.length := by simp [bs, ByteArray.size]

theorem byte_drop (s : ByteArray) (k : Nat) (h : k < s.size) : s.data.toList.drop k = s[k] :: s.data.toList.drop (k + 1) := by
  rw [List.drop_eq_getElem_cons (by simpa using h)]; rfl

def hasB (l : List UInt8) (c : UInt8) : Bool := l.contains c

theorem indexByte_has (c : UInt8) : ∀ l : List UInt8, decide (0 ≤ Lib.indexByte l c) = hasB l c
  | [] => rfl
  | b :: r => by
    have ih := indexByte_has c r
    unfold hasB at ih ⊢
    rw [Lib.indexByte, List.contains_cons]
    by_cases h : b = c
    · subst h; simp
    · have h1 : (b == c) = false := by simpa using h
      have h2 : (c == b) = false := by simpa using fun e => h e.symm
      rw [h1, h2, ← ih]
      simp only [Bool.false_or, Bool.false_eq_true, if_false]
      by_cases h3 : Lib.indexByte r c = -1
      · simp [h3]
      · have h4 : (Lib.indexByte r c == -1) = false := by simpa using h3
        rw [h4]
        simp only [Bool.false_eq_true, if_false]
        have h5 : -1 ≤ Lib.indexByte r c := by
          have : ∀ l : List UInt8, -1 ≤ Lib.indexByte l c := by
            intro l
            induction l with
            | nil => simp [Lib.indexByte]
            | cons x l ih =>
              rw [Lib.indexByte]
              split
              · omega
              · split
                · omega
                · omega
          exact this r
        by_cases h6 : 0 ≤ Lib.indexByte r c
        · rw [decide_eq_true h6, decide_eq_true (by omega)]
        · omega

set_option maxHeartbeats 400000 in
theorem s_l1Stands (s : ByteArray) (c : UInt8) (w : World) (hs : s.size ≤ 1048576) :
    Calls Try.prog 9 #[.string s, .int .u8 c.toNat] w fun e w' => e = .returned (.bool (hasB s.data.toList c)) ∧ w = w' := by
  go_enter Try.func9, Try.ntmps9
  go_wp2_with fail
  go_loop [5] (fun i => ∃ k : Nat, k ≤ s.size ∧ i = .int .i64 k ∧ Hid (hasB s.data.toList c = hasB (s.data.toList.drop k) c)) (fun i => s.size - (intOf i).toNat)
  case atStart => exact ⟨0, Nat.zero_le _, rfl, rfl⟩
  case round =>
    obtain ⟨k, hk, rfl, hr⟩ := hrel
    by_cases hlt : k < s.size
    · have hst : hasB s.data.toList c = (c == s[k] || hasB (s.data.toList.drop (k + 1)) c) := by rw [hr.out, byte_drop s k hlt]; unfold hasB; rw [List.contains_cons]
      by_cases he : s[k] = c
      · have he' : (((s[k]).toNat : Int) == (c.toNat : Int)) = true := by simp [he]
        have HF := hide (show hasB s.data.toList c = true by rw [hst]; simp [he])
        clear hst
        go_wp2_with fail
        go_ret
        exact ⟨ret_bool HF.out.symm, rfl⟩
      · have hne : (s[k]).toNat ≠ c.toNat := fun e => he (UInt8.toNat_inj.1 e)
        have he' : (((s[k]).toNat : Int) == (c.toNat : Int)) = false := by simp; omega
        have HF := hide (show hasB s.data.toList c = hasB (s.data.toList.drop (k + 1)) c by
          rw [hst]
          have : (c == s[k]) = false := by simpa using fun e => he e.symm
          rw [this]; rfl)
        clear hst
        go_wp2_with fail
        go_round
        case rel => exact ⟨k + 1, by omega, by go_num, HF.out⟩
        case measure => simp [intOf]; omega
    · obtain rfl : k = s.size := by omega
      have HF := hide (show hasB s.data.toList c = false by rw [hr.out, List.drop_of_length_le (by simp)]; rfl)
      go_wp2_with fail
      go_ret
      exact ⟨ret_bool HF.out.symm, rfl⟩

def leftB (left : Int) (n : Nat) : Int := if (n : Int) ≤ left then left - n else -1

/-- the texts as cells -/
abbrev sc (xs : List ByteArray) : List Value := xs.map Value.string

theorem str_info : (Try.prog.info? 9).map (fun i => (i.zero, i.size, i.bytes)) = some (some (.string (ByteArray.mk #[])), 1, 16) := by kernel_rfl

theorem bs_list (s : ByteArray) : bs s.data.toList = s := by
  apply ByteArray.ext
  simp [bs]

/-- The slice value v reads as the texts xs. -/
def StrV (hi : Nat) (w : World) (v : Value) (xs : List ByteArray) : Prop :=
  ∃ A c, v = .slice A xs.length c ∧ xs.length ≤ c ∧ c ≤ maxLen ∧ Row hi w A (sc xs)

/-- .. in memory from block lo on, which may be written. -/
def FStr (lo hi : Nat) (w : World) (v : Value) (xs : List ByteArray) : Prop :=
  ∃ A c, v = .slice A xs.length c ∧ xs.length ≤ c ∧ c ≤ maxLen ∧ Own lo hi w A (sc xs)

section
variable {hi lo : Nat} {w w' : World} {v : Value} {xs : List ByteArray}
theorem FStr.strs (h : FStr lo hi w v xs) : StrV hi w v xs := by
  obtain ⟨A, c, e, h1, h2, h3⟩ := h; exact ⟨A, c, e, h1, h2, h3.row⟩
theorem FStr.mono {lo' hi' : Nat} (h : FStr lo hi w v xs) (hl : lo' ≤ lo) (hh : hi ≤ hi') : FStr lo' hi' w v xs := by
  obtain ⟨A, c, e, h1, h2, h3⟩ := h; exact ⟨A, c, e, h1, h2, h3.mono hl hh⟩
theorem StrV.below (h : StrV hi w v xs) (hb : Below w.heap.size w w') : StrV hi w' v xs := by
  obtain ⟨A, c, e, h1, h2, h3⟩ := h; exact ⟨A, c, e, h1, h2, h3.below hb⟩
theorem FStr.below (h : FStr lo hi w v xs) (hb : Below w.heap.size w w') : FStr lo hi w' v xs := by
  obtain ⟨A, c, e, h1, h2, h3⟩ := h; exact ⟨A, c, e, h1, h2, h3.below hb⟩
theorem StrV.top (h : StrV hi w v xs) : StrV w.heap.size w v xs := by
  obtain ⟨A, c, e, h1, h2, h3⟩ := h; exact ⟨A, c, e, h1, h2, h3.top⟩
theorem StrV.chg {lo' hi' : Nat} (h : StrV hi w v xs) (hc : Chg lo' hi' w w') (hl : hi ≤ lo') : StrV hi w' v xs := by
  obtain ⟨A, c, e, h1, h2, h3⟩ := h; exact ⟨A, c, e, h1, h2, h3.chg hc hl⟩
theorem FStr.chg {lo' hi' : Nat} (h : FStr lo hi w v xs) (hc : Chg lo' hi' w w') (hl : hi ≤ lo' ∨ hi' ≤ lo) : FStr lo hi w' v xs := by
  obtain ⟨A, c, e, h1, h2, h3⟩ := h; exact ⟨A, c, e, h1, h2, h3.chg hc hl⟩
theorem FStr.nil (lo hi : Nat) (w : World) : FStr lo hi w (.slice none 0 0) [] := ⟨none, 0, rfl, Nat.le_refl _, by simp [maxLen], Own.nil _ _ _ _⟩
theorem Row.str {A : Option Addr} {k : Nat} (h : Row hi w A (sc xs)) (hk : k < xs.length) :
    ∃ b off x, A = some ⟨b, off, none⟩ ∧ xs.drop k = x :: xs.drop (k + 1) ∧ w.cell? ⟨b, off + k, none⟩ = some (.string x) := by
  obtain ⟨b, off, e, hc⟩ := h.at_ (k := k) (by simpa using hk)
  exact ⟨b, off, xs[k], e, List.drop_eq_getElem_cons hk, by rw [hc]; simp⟩
end

set_option maxHeartbeats 400000 in
/-- two slices that read alike are equal -/
theorem eqStringS_yes {hi hi' : Nat} (v v' : Value) (zs : List ByteArray) (w : World) (h : StrV hi w v zs) (h' : StrV hi' w v' zs) (hn : zs.length ≤ 1048576) :
    Calls Try.prog 8 #[v, v'] w fun e w' => e = .returned (.bool true) ∧ Quiet w w' := by
  obtain ⟨A, c, rfl, hc, hm, hrow⟩ := h
  obtain ⟨A', c', rfl, hc', hm', hrow'⟩ := h'
  unfold maxLen at hm hm'
  go_enter Try.func8, Try.ntmps8
  go_wp2
  go_loopw [5] (fun i wr => ∃ k : Nat, k ≤ zs.length ∧ i = .int .i64 k ∧ Quiet w wr) (fun i _ => zs.length - (intOf i).toNat)
  case atStart => exact ⟨0, Nat.zero_le _, rfl, Quiet.refl _⟩
  case round =>
    obtain ⟨k, hk, rfl, hq⟩ := hrel
    by_cases hlt : k < zs.length
    · obtain ⟨b, off, x, rfl, hx, hcw⟩ := hrow.str hlt
      obtain ⟨b', off', x', rfl, hx', hcw'⟩ := hrow'.str hlt
      obtain rfl : x = x' := by rw [hx] at hx'; injection hx'
      rw [← hq.cell] at hcw hcw'
      clear hx hx'
      go_wp2
      go_quiet (fail)
      go_wp2
      go_roundw
      case rel => exact ⟨k + 1, by omega, by go_num, hq.drewN _⟩
      case measure => simp [intOf]; omega
    · go_wp2
      go_ret
      exact ⟨rfl, hq⟩

theorem FStr.read {lo hi : Nat} {w : World} {v : Value} {xs : List ByteArray} (h : FStr lo hi w v xs) : StrV hi w v xs := h.strs
/-- how many bytes -/
def totS : List ByteArray → Nat
  | [] => 0
  | x :: r => x.size + totS r
theorem totS_append : ∀ a b : List ByteArray, totS (a ++ b) = totS a + totS b
  | [], b => by simp [totS]
  | x :: r, b => by rw [List.cons_append, totS, totS, totS_append r b]; omega
def szS (xs : List ByteArray) : Nat := xs.length + totS xs
theorem cntS_le (xs : List ByteArray) : xs.length ≤ szS xs := by unfold szS; omega
theorem mem_totS {x : ByteArray} : ∀ {xs : List ByteArray}, x ∈ xs → x.size ≤ totS xs
  | y :: r, h => by
    rw [totS]
    rcases List.mem_cons.1 h with rfl | h
    · omega
    · have := mem_totS h; omega
theorem get_of_dropB {xs : List ByteArray} {k : Nat} {x : ByteArray} (h : xs.drop k = x :: xs.drop (k + 1)) : xs[k]? = some x := by
  have := congrArg List.head? h
  simpa [List.head?_drop] using this
theorem tot_split {xs : List ByteArray} {k : Nat} {x : ByteArray} (h : xs.drop k = x :: xs.drop (k + 1)) : totS xs = totS (xs.take k) + x.size + totS (xs.drop (k + 1)) ∧ totS (xs.take (k + 1)) = totS (xs.take k) + x.size := by
  constructor
  · conv => lhs; rw [← List.take_append_drop k xs, h, totS_append, totS]
    omega
  · rw [take_snoc_l h, totS_append]; simp [totS]

/-- .. each text of a length that Go knows -/
structure StrW (hi : Nat) (w : World) (v : Value) (xs : List ByteArray) : Prop where
  strs : StrV hi w v xs
  wf : ∀ x ∈ xs, x.size ≤ 9223372036854775807
theorem StrW.below {hi : Nat} {w w' : World} {v : Value} {xs : List ByteArray} (h : StrW hi w v xs) (hb : Below w.heap.size w w') : StrW hi w' v xs := ⟨h.strs.below hb, h.wf⟩
/-- An argument that is a slice of texts. -/
structure InStrs (w : World) (v : Value) (xs : List ByteArray) : Prop where
  strs : StrW w.heap.size w v xs
  triv : True

set_option maxRecDepth 100000 in
theorem in_strs {H : Type} {enc : TypeId × Value → H} {W : World} {base : Nat} {v : Value} {d : DataW H} {p : List MemPlace}
    (hv : Value.okWide Try.prog W .any base 22 v) (h : DataW.Trod enc Try.prog W 0 (fun _ => true) true 22 v d p) (_lt : ∀ x ∈ p, x.block < W.heap.size) :
    ∃ xs, InStrs W v xs := by
  obtain ⟨a0, len0, cap0, rfl⟩ := okWide_slice Try.underlying22 hv
  obtain ⟨fuel, hf⟩ := h
  rcases open_strings Try.underlying22 Try.underlying9 (by kernel_rfl) hf with ⟨hcs, _⟩ | ⟨x, l, c, zs, hcs, _, hl, hm, hz, _, hcell, hwz⟩
  · simp [Value.cells] at hcs
    obtain ⟨rfl, rfl, rfl⟩ := hcs
    exact ⟨[], ⟨⟨none, 0, rfl, Nat.le_refl _, by simp [maxLen], Row.nil _ _ _⟩, by simp⟩, trivial⟩
  · simp [Value.cells] at hcs
    obtain ⟨rfl, rfl, rfl⟩ := hcs
    have hz' : zs.length = cap0 := by simpa using hz
    refine ⟨zs.take len0, ⟨⟨some x, cap0, by rw [List.length_take, hz', Nat.min_eq_left hl], by rw [List.length_take, hz']; omega, hm, ?_⟩, fun z hzm => by have := hwz z (List.mem_of_mem_take hzm); unfold maxLen at this; omega⟩, trivial⟩
    intro h0
    have h0' : 0 < zs.length := by simp [List.length_take] at h0; omega
    have hc0 := hcell 0 h0'
    have hsp : x.spot = none := by simpa [Addr.add] using World.cell?_spot hc0
    obtain ⟨b, off, sp⟩ := x
    dsimp only at hsp
    subst hsp
    refine ⟨b, off, rfl, World.block_lt_of_cell? _ _ hc0, fun j u hu => ?_⟩
    rw [List.getElem?_map] at hu
    obtain ⟨z, hz1, rfl⟩ := Option.map_eq_some_iff.1 hu
    have hj : j < zs.length := by
      have := (List.getElem?_eq_some_iff.1 hz1).1
      simp [List.length_take] at this
      omega
    have hzj : zs[j]? = some z := by
      rw [List.getElem?_take] at hz1
      split at hz1
      · exact hz1
      · cases hz1
    have := hcell j hj
    rw [List.getD_eq_getElem?_getD, hzj] at this
    rcases Nat.eq_zero_or_pos j with rfl | hjp
    · simpa [Addr.add] using this
    · simpa [Addr.add, Nat.ne_of_gt hjp] using this

theorem set_strs (xs : List ByteArray) (n k : Nat) (x : ByteArray) (hk : k < n) (hx : xs.length = k) :
    (((sc xs) ++ List.replicate (n - k) (Value.string (ByteArray.mk #[]))).toArray.setIfInBounds k (.string x)) = ((sc (xs ++ [x])) ++ List.replicate (n - (k + 1)) (Value.string (ByteArray.mk #[]))).toArray := by
  apply Array.ext'
  simp only [Array.toList_setIfInBounds, List.map_append, List.map_cons, List.map_nil, sc]
  rw [show n - k = (n - (k + 1)) + 1 from by omega, List.replicate_succ, List.set_append_right _ _ (by simp [hx])]
  simp [hx]

set_option maxHeartbeats 800000 in
/-- a copy in new memory -/
theorem toStringS_any {hi : Nat} (v : Value) (zs : List ByteArray) (w : World) (h : StrW hi w v zs) (hn : szS zs ≤ 1048576) :
    Calls Try.prog 6 #[v] w fun e w' => ∃ v', e = .returned v' ∧ FStr w.heap.size w'.heap.size w' v' zs ∧ Below w.heap.size w w' := by
  obtain ⟨A, c, rfl, hc, hm, hrow⟩ := h.strs
  have hn := Nat.le_trans (cntS_le zs) hn
  obtain ⟨cs, hcs⟩ : ∃ cs, madeCells #[Value.string (ByteArray.mk #[])] zs.length = cs := ⟨_, rfl⟩
  have hmk := fun W => run_make_row' (P := Try.prog) 22 9 (.string (ByteArray.mk #[])) 16 Try.underlying22 str_info rfl .i64 .i64 zs.length (by omega) (by omega) W
  rw [hcs] at hmk
  have hb0 : Blk (w.alloc (.cells cs 9)) w.heap.size 9 ((sc (zs.take 0)) ++ List.replicate (zs.length - 0) (Value.string (ByteArray.mk #[]))).toArray := by
    have := Blk.new w 9 cs
    rw [← hcs, madeCells_one] at this
    rw [← hcs, madeCells_one]
    simpa using this
  have HB0 := hide hb0
  have HAL := hide ((Below.refl _ _).alloc (Nat.le_refl _) (.cells cs 9) : Below w.heap.size w (w.alloc (.cells cs 9)))
  clear hb0 hcs
  unfold maxLen at hm
  go_enter Try.func6, Try.ntmps6
  go_wp2
  clear hmk
  go_loopw [4] (fun i wr => ∃ k : Nat, k ≤ zs.length ∧ i = .int .i64 k ∧ Blk wr w.heap.size 9 ((sc (zs.take k)) ++ List.replicate (zs.length - k) (Value.string (ByteArray.mk #[]))).toArray ∧ Below w.heap.size w wr) (fun i _ => zs.length - (intOf i).toNat)
  case atStart => exact ⟨0, Nat.zero_le _, rfl, HB0.out, HAL.out⟩
  case round =>
    obtain ⟨k, hk, rfl, hblk, hbel⟩ := hrel
    by_cases hlt : k < zs.length
    · obtain ⟨b, off, x, rfl, hx, hcw⟩ := hrow.str hlt
      have hcr := below_old hbel _ _ hcw
      have hs : ∃ u, wr.cell? ⟨w.heap.size, k, none⟩ = some u := by
        rw [hblk.cell k]
        exact ⟨_, Array.getElem?_eq_getElem (by simp; omega)⟩
      obtain ⟨u, hs⟩ := hs
      have hf := hblk.frozen k
      have hnew := hblk.set_ k (.string x)
      rw [set_strs _ _ _ _ hlt (by simp; omega), ← take_snoc_l hx] at hnew
      have HN := hide hnew
      have HB := hide hbel
      clear hnew hx hbel hcw hblk
      go_wp2
      go_roundw
      case rel => exact ⟨k + 1, by omega, by go_num, HN.out, HB.out.setCell (Nat.le_refl _) _⟩
      case measure => simp [intOf]; omega
    · obtain rfl : k = zs.length := by omega
      have HN := hide hblk
      have HB := hide hbel
      clear hblk hbel
      go_wp2
      go_ret
      refine ⟨_, rfl, ⟨_, _, rfl, Nat.le_refl _, by unfold maxLen; omega, HN.out.own (Nat.le_refl _) ?_⟩, HB.out⟩
      intro j u hu
      simpa using hu

set_option maxHeartbeats 800000 in
theorem szStringS_any {hi : Nat} (v : Value) (zs : List ByteArray) (left : Int) (w : World) (h : StrW hi w v zs) (h0 : 0 ≤ left) (h1 : left ≤ 1048576) :
    Calls Try.prog 4 #[v, .int .i64 left] w fun e w' => e = .returned (.int .i64 (leftB left (szS zs))) ∧ Below w.heap.size w w' := by
  obtain ⟨⟨A, c, rfl, hc, hm, hrow⟩, hwf⟩ := h
  have HWF := hide hwf
  clear hwf
  unfold maxLen at hm
  by_cases hle : (zs.length : Int) ≤ left
  · have c0 : ¬ (left - (zs.length : Int) < 0) := by omega
    have w0 : IntKind.i64.wrap (left - (zs.length : Int)) = left - (zs.length : Int) := by rw [IntKind.wrap_i64]; omega
    obtain ⟨n, hn⟩ : ∃ n, zs.length = n := ⟨_, rfl⟩
    have HN := hide hn
    rw [hn] at hc hle c0 w0 ⊢
    clear hn
    go_enter Try.func4, Try.ntmps4
    go_wp2_with fail
    go_loopw [1, 5] (fun q i wr => ∃ k : Nat, k ≤ n ∧ i = .int .i64 k ∧ q = .int .i64 (left - n - (totS (zs.take k) : Nat)) ∧ 0 ≤ left - n - (totS (zs.take k) : Nat) ∧ wr = w) (fun _ i _ => n - (intOf i).toNat)
    case atStart => exact ⟨0, Nat.zero_le _, rfl, by simp [totS], by simp [totS]; omega, by first | rfl | trivial⟩
    case round =>
      obtain ⟨k, hk, rfl, rfl, hnn, rfl⟩ := hrel
      by_cases hlt : k < n
      · obtain ⟨b, off, x, rfl, hx, hcw⟩ := hrow.str (by rw [HN.out]; exact hlt)
        obtain ⟨ht1, ht2⟩ := tot_split hx
        obtain ⟨T, hT⟩ : ∃ T, totS (zs.take k) = T := ⟨_, rfl⟩
        rw [hT] at hnn ht1 ht2 ⊢
        have hxs := HWF.out x (List.mem_of_getElem? (get_of_dropB hx))
        have HT2 := hide ht2
        have HT1 := hide ht1
        clear hx hT ht1 ht2
        by_cases hbig : left - n - (T : Int) - (x.size : Int) < 0
        · have w1 : IntKind.i64.wrap (left - n - (T : Int) - (x.size : Int)) = left - n - (T : Int) - (x.size : Int) := by
            rw [IntKind.wrap_i64]; omega
          have HF := hide (show leftB left (szS zs) = -1 by have h1 := HT1.out; have h2 := HN.out; unfold leftB szS; rw [if_neg (by omega)])
          go_wp2_with fail
          go_ret
          exact ⟨by rw [HF.out]; rfl, Below.refl _ _⟩
        · have w1 : IntKind.i64.wrap (left - n - (T : Int) - (x.size : Int)) = left - n - (T : Int) - (x.size : Int) := by rw [IntKind.wrap_i64]; omega
          go_wp2_with fail
          go_roundw
          case rel => exact ⟨k + 1, by omega, by go_num, by have := HT2.out; rw [this]; go_num, by have := HT2.out; rw [this]; omega, by first | rfl | trivial⟩
          case measure => simp [intOf]; omega
      · obtain rfl : k = n := by omega
        have HF := hide (show leftB left (szS zs) = left - k - (totS (zs.take k) : Nat) by
          have h9 : zs.take k = zs := List.take_of_length_le (by rw [HN.out]; exact Nat.le_refl _)
          rw [h9] at hnn ⊢
          unfold leftB szS
          rw [HN.out, if_pos (by omega)]
          omega)
        go_wp2_with fail
        go_ret
        exact ⟨by rw [HF.out]; rfl, Below.refl _ _⟩
  · have c0 : left - (zs.length : Int) < 0 := by omega
    have w0 : IntKind.i64.wrap (left - (zs.length : Int)) = left - (zs.length : Int) := by rw [IntKind.wrap_i64]; omega
    have HF := hide (show leftB left (szS zs) = -1 by unfold leftB szS; rw [if_neg (by omega)])
    go_enter Try.func4, Try.ntmps4
    go_wp2_with fail
    go_ret
    exact ⟨by rw [HF.out]; rfl, Below.refl _ _⟩


end Go.Proofs.Ytmepficbmgjpoaa
