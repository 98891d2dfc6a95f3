/- Tables of texts that the call itself grows; the reference's l1Split. -/
import Derived.Test.YtmepficbmgjpoaaDoorSplPl
import Derived.Test.YtmepficbmgjpoaaDoorApp
namespace Go.Proofs.YtmepficbmgjpoaaDoor
open Go.RowKit
set_option linter.unusedVariables false

/-- the texts as cells -/
abbrev sc (xs : List ByteArray) : List Value := xs.map Value.string
theorem str_info : (Tryd.prog.info? 9).map (fun i => (i.zero, i.size, i.bytes)) = some (some (.string (ByteArray.mk #[])), 1, 16) := by kernel_rfl
/-- a slice of texts that the call itself grows -/
def OwnS (base : Nat) (w : World) (v : Value) (xs : List ByteArray) : Prop := w.ownsRow base 9 1 v xs.length (sc xs)
theorem OwnS.made (base : Nat) (w : World) (hb : base ≤ w.heap.size) : OwnS base (w.alloc (.cells #[] 9)) (.slice (some ⟨w.heap.size, 0, none⟩) 0 0) [] := World.ownsRow_made w #[] 0 hb (by simp [maxLen]) rfl
theorem OwnS.below {base : Nat} {w w' : World} {v : Value} {xs : List ByteArray} (h : OwnS base w v xs) (hb : Below w.heap.size w w') : OwnS base w' v xs := ownsRow_below h hb
theorem OwnS.own {base : Nat} {w : World} {v : Value} {xs : List ByteArray} (h : OwnS base w v xs) : ∃ A c, v = .slice A xs.length c ∧ xs.length ≤ c ∧ c ≤ maxLen ∧ Own base w.heap.size w A (sc xs) := ownsRow_own h
theorem append_str {ops : Array Oper} {rest : List Oper} {o : Oper} {a : Act} {Q : Exit → Act → World → Prop} {w : World} {y : ByteArray} (hgd : o.guard = none) (s x : Operand)
    (ho : o.op = .call { callee := .builtin .append, args := #[s, x], argTypes := #[28, 28] })
    (base : Nat) {v : Value} {xs : List ByteArray} (hs : a.eval s = v) (hown : OwnS base w v xs)
    {H : Nat} (hx : a.eval x = .slice (some ⟨H, 0, none⟩) 1 1) (hH : w.heap.size = H) (hn : xs.length ≤ 1073741824) (hb : base ≤ w.heap.size)
    (h : ∀ v' w', OwnS base w' v' (xs ++ [y]) → Below base w w' → wpList Tryd.prog ops Q rest (a.put o.dst v') w') : wpList Tryd.prog ops Q (o :: rest) a (w.alloc (.cells #[.string y] 9)) := by
  subst hH
  exact wpList_append_1 hgd s x _ ho 9 (.string (ByteArray.mk #[])) 16 Tryd.underlying28 str_info rfl (by decide) w base v xs.length (sc xs) hs hown (.string y) rfl hx hn hb fun v' w' h1 h2 =>
    h v' w' (by unfold OwnS; simpa [sc] using h1) h2
theorem extract_bs (s : ByteArray) (f k : Nat) : s.extract f k = bs ((s.data.toList.drop f).take (k - f)) := by
  apply ByteArray.ext
  apply Array.toList_inj.1
  simp [bs, ByteArray.data_extract]
theorem bs_list (s : ByteArray) : bs s.data.toList = s := by
  apply ByteArray.ext
  simp [bs]

set_option maxHeartbeats 1600000 in
theorem s_l1Split (s : ByteArray) (c : UInt8) (w : World) (hs : s.size ≤ 1048576) :
    Calls Tryd.prog 48 #[.string s, .int .u8 c.toNat] w fun e w' => ∃ v', e = .returned v' ∧ OwnS w.heap.size w' v' ((spl c [] s.data.toList).map bs) ∧ Below w.heap.size w w' := by
  obtain ⟨l, hl⟩ : ∃ l, s.data.toList = l := ⟨_, rfl⟩
  have hll : l.length = s.size := by rw [← hl]; simp
  have HL := hide hl
  have HLL := hide hll
  have hal : Below w.heap.size w (w.alloc (.cells #[] 9)) := (Below.refl _ _).alloc (Nat.le_refl _) _
  have hmade := OwnS.made w.heap.size w (Nat.le_refl _)
  have HM := hide hmade
  have HAL := hide hal
  rw [hl]
  clear hmade hal hl hll
  go_enter Tryd.func48, Tryd.ntmps48
  go_wp2_with fail
  go_loopw [5, 6, 7] (fun q i j wr => ∃ (k f : Nat) (pre : List ByteArray), f ≤ k ∧ k ≤ s.size ∧ pre.length ≤ k ∧ i = .int .i64 f ∧ j = .int .i64 k ∧ Hid ((spl c [] l).map bs = pre ++ (spl c ((l.drop f).take (k - f)) (l.drop k)).map bs) ∧ OwnS w.heap.size wr q pre ∧ Below w.heap.size w wr) (fun _ _ j _ => s.size - (intOf j).toNat)
  case atStart => exact ⟨0, 0, [], Nat.le_refl _, Nat.zero_le _, Nat.le_refl _, rfl, rfl, rfl, HM.out, HAL.out⟩
  case round =>
    obtain ⟨k, f, pre, hfk, hk, hpl, rfl, rfl, hr, hown, hbel⟩ := hrel
    have hsr := hbel.size
    have b1 : (0 : Int) ≤ (f : Int) := by omega
    have b2 : (f : Int) ≤ (k : Int) := by omega
    have b3 : (k : Int) ≤ (s.size : Int) := by omega
    have b4 : (0 : Int) ≤ (k : Int) := by omega
    have b5 : (f : Int) ≤ (s.size : Int) := by omega
    have HPL := hide (show pre.length ≤ 1073741824 by omega)
    by_cases hlt : k < s.size
    · have hd : l.drop k = s[k] :: l.drop (k + 1) := by rw [← HL.out]; exact byte_drop s k hlt
      by_cases he : s[k] = c
      · have he' : (((s[k]).toNat : Int) == (c.toNat : Int)) = true := by simp [he]
        have HF := hide (show (spl c [] l).map bs = (pre ++ [s.extract f k]) ++ (spl c ((l.drop (k + 1)).take (k + 1 - (k + 1))) (l.drop (k + 1))).map bs by
          rw [hr.out, hd, spl, if_pos he, extract_bs, HL.out]; simp)
        clear hr hd
        go_wp2_with (at_builtin; refine append_str rfl _ _ rfl w.heap.size rfl hown rfl rfl HPL.out hsr ?_; intro v1 w2 hown1 hb1)
        go_roundw
        case rel => exact ⟨k + 1, k + 1, _, Nat.le_refl _, by omega, by simp; omega, by go_num, by go_num, HF.out, hown1, hbel.trans hb1⟩
        case measure => simp [intOf]; omega
      · have hne : (s[k]).toNat ≠ c.toNat := fun e => he (UInt8.toNat_inj.1 e)
        have he' : (((s[k]).toNat : Int) == (c.toNat : Int)) = false := by simp; omega
        have HF := hide (show (spl c [] l).map bs = pre ++ (spl c ((l.drop f).take (k + 1 - f)) (l.drop (k + 1))).map bs by
          rw [hr.out, hd, spl, if_neg he]
          have h9 : (l.drop f).take (k - f) ++ [s[k]] = (l.drop f).take (k + 1 - f) := by
            rw [show k + 1 - f = (k - f) + 1 by omega, List.take_add_one, List.getElem?_drop, show f + (k - f) = k by omega]
            have : l[k]? = some s[k] := by
              have := congrArg List.head? hd
              simpa [List.head?_drop] using this
            rw [this]; rfl
          rw [h9])
        clear hr hd
        go_wp2_with fail
        go_roundw
        case rel => exact ⟨k + 1, f, pre, by omega, by omega, by omega, rfl, by go_num, HF.out, hown, hbel⟩
        case measure => simp [intOf]; omega
    · obtain rfl : k = s.size := by omega
      have HF := hide (show (spl c [] l).map bs = pre ++ [s.extract f s.size] by
        rw [hr.out, show l.drop s.size = [] from List.drop_eq_nil_of_le (by rw [HLL.out]; exact Nat.le_refl _), spl, extract_bs, HL.out]; rfl)
      clear hr
      go_wp2_with (at_builtin; refine append_str rfl _ _ rfl w.heap.size rfl hown rfl rfl HPL.out hsr ?_; intro v1 w2 hown1 hb1)
      go_ret
      exact ⟨_, rfl, by rw [HF.out]; exact hown1, hbel.trans hb1⟩

end Go.Proofs.YtmepficbmgjpoaaDoor
