/- The contracts of JoinStrings. -/
import Derived.Test.YtmepficbmgjpoaaJstA
namespace Go.Proofs.Ytmepficbmgjpoaa
open Go.RowKit
set_option linter.unusedVariables false

/-- does one of the texts hold the byte? -/
def anyHas (c : UInt8) (xs : List ByteArray) : Bool := xs.any fun x => hasB x.data.toList c
/-- what both return -/
def fJoinStrings (xs : List ByteArray) (sep : ByteArray) : ByteArray × Bool :=
  if xs.length ≠ 0 ∧ sep.size = 1 then
    if anyHas (sep.data.toList.headD 0) xs = false ∧ xs.length - 1 + totS xs ≤ 4000 then (bs (Lib.join (xs.map (·.data.toList)) sep.data.toList), true) else (ByteArray.mk #[], false)
  else (ByteArray.mk #[], false)
section
variable {xs : List ByteArray} {sep r0 : ByteArray} {r1 : Bool}
theorem js_empty (h : ¬ (xs.length ≠ 0 ∧ sep.size = 1)) (hR : fJoinStrings xs sep = (r0, r1)) : r0 = ByteArray.mk #[] ∧ r1 = false := by
  unfold fJoinStrings at hR; rw [if_neg h] at hR; injection hR with e1 e2; exact ⟨e1.symm, e2.symm⟩
theorem js_bad (h : xs.length ≠ 0 ∧ sep.size = 1) (h2 : ¬ (anyHas (sep.data.toList.headD 0) xs = false ∧ xs.length - 1 + totS xs ≤ 4000)) (hR : fJoinStrings xs sep = (r0, r1)) : r0 = ByteArray.mk #[] ∧ r1 = false := by
  unfold fJoinStrings at hR; rw [if_pos h, if_neg h2] at hR; injection hR with e1 e2; exact ⟨e1.symm, e2.symm⟩
theorem js_ok (h : xs.length ≠ 0 ∧ sep.size = 1) (h2 : anyHas (sep.data.toList.headD 0) xs = false ∧ xs.length - 1 + totS xs ≤ 4000) (hR : fJoinStrings xs sep = (r0, r1)) : r0 = bs (Lib.join (xs.map (·.data.toList)) sep.data.toList) ∧ r1 = true := by
  unfold fJoinStrings at hR; rw [if_pos h, if_pos h2] at hR; injection hR with e1 e2; exact ⟨e1.symm, e2.symm⟩
end
theorem one_of (sep : ByteArray) (h : sep.size = 1) : ∃ c : UInt8, sep = ByteArray.mk #[c] := by
  obtain ⟨⟨l⟩⟩ := sep
  match l, h with
  | [c], _ => exact ⟨c, rfl⟩
theorem anyHas_step {c : UInt8} {xs : List ByteArray} {k : Nat} {x : ByteArray} (h : xs.drop k = x :: xs.drop (k + 1)) : anyHas c (xs.drop k) = (hasB x.data.toList c || anyHas c (xs.drop (k + 1))) := by
  rw [h]; simp [anyHas]
theorem anyHas_mem {c : UInt8} {xs : List ByteArray} {x : ByteArray} (h : x ∈ xs) (h2 : hasB x.data.toList c = true) : anyHas c xs = true := by
  unfold anyHas; rw [List.any_eq_true]; exact ⟨x, h, h2⟩
theorem join_len (sep : List UInt8) (h1 : sep.length = 1) : ∀ xs : List ByteArray, xs.length ≠ 0 → (Lib.join (xs.map (·.data.toList)) sep).length = xs.length - 1 + totS xs
  | [], h => absurd rfl h
  | [x], _ => by simp [Lib.join, List.intercalate, totS]
  | x :: y :: r, _ => by
    have ih := join_len sep h1 (y :: r) (by simp)
    have e : Lib.join ((x :: y :: r).map (·.data.toList)) sep = x.data.toList ++ sep ++ Lib.join ((y :: r).map (·.data.toList)) sep := by simp [Lib.join, List.intercalate]
    rw [e, List.length_append, List.length_append, ih, h1]
    simp only [totS, List.length_cons]
    have : x.data.toList.length = x.size := by simp
    omega

/-- the rest of the texts, each behind the sign -/
def tailS (c : UInt8) (xs : List ByteArray) : List UInt8 := xs.flatMap fun x => c :: x.data.toList
theorem join_tail (c : UInt8) : ∀ (x : ByteArray) (r : List ByteArray), Lib.join ((x :: r).map (·.data.toList)) [c] = x.data.toList ++ tailS c r
  | x, [] => by simp [Lib.join, List.intercalate, tailS]
  | x, y :: r => by
    have e : Lib.join ((x :: y :: r).map (·.data.toList)) [c] = x.data.toList ++ [c] ++ Lib.join ((y :: r).map (·.data.toList)) [c] := by simp [Lib.join, List.intercalate]
    rw [e, join_tail c y r]
    simp [tailS]

theorem jn_snoc (c : UInt8) (l : List ByteArray) (x : ByteArray) (h : l ≠ []) : Lib.join ((l ++ [x]).map (·.data.toList)) [c] = Lib.join (l.map (·.data.toList)) [c] ++ [c] ++ x.data.toList := by
  match l, h with
  | a :: r, _ =>
    rw [List.cons_append, join_tail, join_tail]
    simp [tailS]
theorem jn_one (c : UInt8) (x : ByteArray) : Lib.join (([] ++ [x] : List ByteArray).map (·.data.toList)) [c] = x.data.toList := by simp [Lib.join, List.intercalate]
theorem bs_app (a : List UInt8) (x : ByteArray) : bs a ++ x = bs (a ++ x.data.toList) := by rw [← bs_append, bs_list]
theorem anyHas_no {c : UInt8} {xs : List ByteArray} (h : anyHas c xs = false) (P : Prop) : ¬ (anyHas c xs = false ∧ P) → ¬ P := fun h2 h3 => h2 ⟨h, h3⟩

theorem g_ContainsC (s : ByteArray) (c : UInt8) (w : World) :
    Calls Try.prog 10 #[.string s, .string (ByteArray.mk #[c])] w fun e w' => e = .returned (.bool (hasB s.data.toList c)) ∧ w' = w := by
  rw [← indexByte_has]
  exact Any.strings_Contains_one Try.lays144 s c w

set_option maxHeartbeats 3200000 in
theorem I_JoinStrings {hi : Nat} (v : Value) (xs : List ByteArray) (sep : ByteArray) (r0 : ByteArray) (r1 : Bool) (w : World) (h : StrV hi w v xs) (hn : szS xs ≤ 1048576) (hp : sep.size ≤ 1048576) (hR : fJoinStrings xs sep = (r0, r1)) :
    Calls Try.prog 7 #[v, .string sep] w fun e w' => e = .returned (.tuple #[.string r0, .bool r1]) ∧ Below w.heap.size w w' := by
  obtain ⟨A, cp, rfl, hc, hm, hrow⟩ := h.top
  unfold maxLen at hm
  have hnl := cntS_le xs
  obtain ⟨n, hnn⟩ : ∃ n, xs.length = n := ⟨_, rfl⟩
  have HN := hide hnn
  have HR := hide hR
  have HSZ := hide hn
  rw [hnn] at hc hnl ⊢
  by_cases h0 : n = 0
  · have HF := hide (js_empty (fun h => h.1 (by omega)) HR.out)
    subst h0
    clear hR h hnn
    go_enter Try.func7, Try.ntmps7
    go_wp2_with fail
    go_ret2
    obtain ⟨rfl, rfl⟩ := HF.out
    exact ⟨rfl, Below.refl _ _⟩
  have c0 : ((n : Int) == 0) = false := by rw [beq_eq_false_iff_ne]; omega
  by_cases h1 : sep.size = 1
  case neg =>
    have c1 : ((sep.size : Int) == 1) = false := by rw [beq_eq_false_iff_ne]; omega
    have HF := hide (js_empty (fun h => h1 h.2) HR.out)
    clear hR h hnn
    go_enter Try.func7, Try.ntmps7
    go_wp2_with fail
    go_ret2
    obtain ⟨rfl, rfl⟩ := HF.out
    exact ⟨rfl, Below.refl _ _⟩
  obtain ⟨c, rfl⟩ := one_of sep h1
  have HOK := hide (show xs.length ≠ 0 ∧ (ByteArray.mk #[c]).size = 1 from ⟨by omega, rfl⟩)
  have c1 : (((ByteArray.mk #[c]).size : Int) == 1) = true := rfl
  have w0 : IntKind.i64.wrap ((n : Int) - 1) = (n : Int) - 1 := by rw [IntKind.wrap_i64]; omega
  have HROW := hide hrow
  have hn2 : n ≤ 1048576 := by omega
  have HTZ := hide (show totS xs ≤ 1048576 by unfold szS at hn; omega)
  clear hR h hnn hn
  obtain ⟨b, off, hA, hbw, hcell⟩ := hrow (by rw [List.length_map, HN.out]; omega)
  subst hA
  have HCE := hide hcell
  have HBW := hide hbw
  clear hrow hcell hbw
  go_enter Try.func7, Try.ntmps7
  go_wp2_with fail
  go_loopw [6, 22] (fun q i wr => ∃ (k m : Nat), k ≤ n ∧ i = .int .i64 k ∧ q = .int .i64 m ∧ Hid (m + 1 = n + totS (xs.take k)) ∧ m ≤ 2097152 ∧ Hid (anyHas c xs = anyHas c (xs.drop k)) ∧ wr = w) (fun _ i _ => n - (intOf i).toNat)
  case atStart => exact ⟨0, n - 1, Nat.zero_le _, rfl, by go_num, hide (by simp [totS]; omega), by omega, hide rfl, by first | rfl | trivial⟩
  case round =>
    obtain ⟨k, m, hk, rfl, rfl, hmm, hmb, hany, rfl⟩ := hrel
    by_cases hlt : k < n
    · obtain ⟨b', off', x, e', hx, hcw⟩ := HROW.out.str (by rw [HN.out]; exact hlt)
      injection e' with e'; injection e' with e1 e2
      subst e1 e2
      obtain ⟨ht1, ht2⟩ := tot_split hx
      have hxm := List.mem_of_getElem? (get_of_dropB hx)
      have hxz : x.size ≤ 1048576 := by have := mem_totS hxm; have := HTZ.out; omega
      have w1 : IntKind.i64.wrap ((m : Int) + (x.size : Int)) = ((m + x.size : Nat) : Int) := by rw [IntKind.wrap_i64]; omega
      have hst := anyHas_step (c := c) hx
      obtain ⟨m2, hm2⟩ : ∃ m2, m + x.size = m2 := ⟨_, rfl⟩
      rw [hm2] at w1
      cases hb : hasB x.data.toList c with
      | true =>
        have HF := hide (js_bad HOK.out (fun h => by
          have h9 : anyHas c xs = false := h.1
          rw [anyHas_mem hxm hb] at h9; cases h9) HR.out)
        have HG := hide (g_ContainsC x c wr)
        rw [hb] at HG
        clear hx hst ht1 ht2 hany
        go_wp2_with fail
        refine HG.out.mono ?_
        rintro e w1 ⟨rfl, rfl⟩
        go_wp2_with fail
        go_ret2
        obtain ⟨rfl, rfl⟩ := HF.out
        exact ⟨rfl, Below.refl _ _⟩
      | false =>
        have HG := hide (g_ContainsC x c wr)
        rw [hb] at HG
        have HM2 := hide (show m2 + 1 = n + totS (xs.take (k + 1)) by have := hmm.out; rw [ht2]; omega)
        by_cases hbig : 4000 < m2
        · have c2 : (4000 : Int) < (m2 : Int) := by omega
          have HF := hide (js_bad HOK.out (fun h => by have h2 := h.2; rw [HN.out] at h2; have h3 := hmm.out; omega) HR.out)
          clear hx hst ht1 ht2 hany
          go_wp2_with fail
          refine HG.out.mono ?_
          rintro e w1 ⟨rfl, rfl⟩
          go_wp2_with fail
          go_ret2
          obtain ⟨rfl, rfl⟩ := HF.out
          exact ⟨rfl, Below.refl _ _⟩
        · have c2 : ¬ ((4000 : Int) < (m2 : Int)) := by omega
          have HAN := hide (show anyHas c xs = anyHas c (xs.drop (k + 1)) by rw [hany.out, hst, hb]; rfl)
          clear hx hst ht1 ht2 hany hmm hm2
          go_wp2_with fail
          refine HG.out.mono ?_
          rintro e w1 ⟨rfl, rfl⟩
          go_wp2_with fail
          go_roundw
          case rel => exact ⟨k + 1, m2, by omega, by go_num, rfl, HM2.out, by omega, HAN.out, by first | rfl | trivial⟩
          case measure => simp [intOf]; omega
    · obtain rfl : k = n := by omega
      have htk : xs.take k = xs := List.take_of_length_le (by rw [HN.out]; exact Nat.le_refl _)
      have hno : anyHas c xs = false := by rw [hany.out, List.drop_of_length_le (by rw [HN.out]; exact Nat.le_refl _)]; rfl
      have hm1 : m + 1 = k + totS xs := by have := hmm.out; rw [htk] at this; exact this
      by_cases hbig : 4000 < m
      · have c2 : (4000 : Int) < (m : Int) := by omega
        have HF := hide (js_bad HOK.out (fun h => by have h2 := h.2; rw [HN.out] at h2; omega) HR.out)
        clear hany hmm htk hno hm1
        go_wp2_with fail
        go_ret2
        obtain ⟨rfl, rfl⟩ := HF.out
        exact ⟨rfl, Below.refl _ _⟩
      · have c2 : ¬ ((4000 : Int) < (m : Int)) := by omega
        have HF := hide (js_ok HOK.out ⟨hno, by rw [HN.out]; omega⟩ HR.out)
        have hjl := join_len [c] rfl xs (by rw [HN.out]; omega)
        have HJ := hide (Try.strings_Join b off cp xs (ByteArray.mk #[c]) wr (fun j x hj => HCE.out j (.string x) (by rw [List.getElem?_map, hj]; rfl)) HBW.out (by rw [HN.out]; omega) (by rw [HN.out]; exact hc) (by show (Lib.join (xs.map (·.data.toList)) [c]).length ≤ _; rw [hjl, HN.out]; omega))
        rw [HN.out] at HJ
        clear hany hmm htk hno hm1 hjl
        go_wp2_with fail
        refine HJ.out.mono ?_
        rintro e w5 ⟨rfl, hb5⟩
        go_wp2_with fail
        go_ret2
        obtain ⟨rfl, rfl⟩ := HF.out
        exact ⟨rfl, hb5⟩

set_option maxHeartbeats 3200000 in
theorem S_JoinStrings {hi : Nat} (v : Value) (xs : List ByteArray) (sep : ByteArray) (r0 : ByteArray) (r1 : Bool) (w : World) (h : StrV hi w v xs) (hn : szS xs ≤ 1048576) (hp : sep.size ≤ 1048576) (hR : fJoinStrings xs sep = (r0, r1)) :
    Calls Try.prog 5 #[v, .string sep] w fun e w' => e = .returned (.tuple #[.string r0, .bool r1]) ∧ Below w.heap.size w w' := by
  obtain ⟨A, cp, rfl, hc, hm, hrow⟩ := h.top
  unfold maxLen at hm
  have hnl := cntS_le xs
  obtain ⟨n, hnn⟩ : ∃ n, xs.length = n := ⟨_, rfl⟩
  have HN := hide hnn
  have HR := hide hR
  rw [hnn] at hc hnl ⊢
  by_cases h1 : sep.size = 1
  case neg =>
    have c1 : ((sep.size : Int) == 1) = false := by rw [beq_eq_false_iff_ne]; omega
    have HF := hide (js_empty (fun h => h1 h.2) HR.out)
    clear hR h hnn
    go_enter Try.func5, Try.ntmps5
    go_wp2_with fail
    go_ret2
    obtain ⟨rfl, rfl⟩ := HF.out
    exact ⟨rfl, Below.refl _ _⟩
  obtain ⟨c, rfl⟩ := one_of sep h1
  have c1 : (((ByteArray.mk #[c]).size : Int) == 1) = true := rfl
  by_cases h0 : n = 0
  · have HF := hide (js_empty (fun h => h.1 (by omega)) HR.out)
    subst h0
    clear hR h hnn
    go_enter Try.func5, Try.ntmps5
    go_wp2_with fail
    go_ret2
    obtain ⟨rfl, rfl⟩ := HF.out
    exact ⟨rfl, Below.refl _ _⟩
  have c0 : ((n : Int) == 0) = false := by rw [beq_eq_false_iff_ne]; omega
  have HOK := hide (show xs.length ≠ 0 ∧ (ByteArray.mk #[c]).size = 1 from ⟨by omega, rfl⟩)
  have HROW := hide hrow
  have hn2 : n ≤ 1048576 := by omega
  have HTZ := hide (show totS xs ≤ 1048576 by unfold szS at hn; omega)
  have c9 : (ByteArray.mk #[c])[0]'(show 0 < 1 from Nat.one_pos) = c := rfl
  have c8 : (ByteArray.mk #[c]).size = 1 := rfl
  clear hR h hnn hn
  go_enter Try.func5, Try.ntmps5
  go_wp2_with fail
  go_loopw [6, 7] (fun q i wr => ∃ (k : Nat) (pre : List UInt8), k ≤ n ∧ i = .int .i64 k ∧ q = .string (bs pre) ∧ Hid (pre = Lib.join ((xs.take k).map (·.data.toList)) [c]) ∧ Hid (anyHas c xs = anyHas c (xs.drop k)) ∧ pre.length ≤ 4000 ∧ Hid (k = 0 ∨ k - 1 + totS (xs.take k) = pre.length) ∧ Quiet w wr) (fun _ i _ => n - (intOf i).toNat)
  case atStart => exact ⟨0, [], Nat.zero_le _, rfl, rfl, hide rfl, hide rfl, by simp, hide (.inl rfl), Quiet.refl _⟩
  case round =>
    obtain ⟨k, pre, hk, rfl, rfl, hpre, hany, hpl, hlen, hq⟩ := hrel
    by_cases hlt : k < n
    · obtain ⟨b, off, x, rfl, hx, hcw⟩ := HROW.out.str (by rw [HN.out]; exact hlt)
      obtain ⟨ht1, ht2⟩ := tot_split hx
      have hxm := List.mem_of_getElem? (get_of_dropB hx)
      have hxz : x.size ≤ 1048576 := by have := mem_totS hxm; have := HTZ.out; omega
      have hst := anyHas_step (c := c) hx
      rw [← hq.cell] at hcw
      have hts := take_snoc_l hx
      have HG := hide (fun W => s_l1Stands x c W hxz)
      cases hb : hasB x.data.toList c with
      | true =>
        have HF := hide (js_bad HOK.out (fun h => by
          have h9 : anyHas c xs = false := h.1
          rw [anyHas_mem hxm hb] at h9; cases h9) HR.out)
        rw [hb] at HG
        clear hx hst ht1 ht2 hany hpre hlen hts
        go_wp2_with fail
        go_quiet ((go_at_call 9; exact quietE (HG.out _)))
        go_wp2_with fail
        go_ret2
        obtain ⟨rfl, rfl⟩ := HF.out
        exact ⟨rfl, (hq.drewN _).below _⟩
      | false =>
        rw [hb] at HG
        have HAN := hide (show anyHas c xs = anyHas c (xs.drop (k + 1)) by rw [hany.out, hst, hb]; rfl)
        have hjl := join_len [c] rfl (xs.take (k + 1)) (by rw [List.length_take, HN.out]; omega)
        rw [List.length_take, HN.out, Nat.min_eq_left (by omega), Nat.add_sub_cancel] at hjl
        have HJL := hide hjl
        have HT1 := hide ht1
        have HT2 := hide ht2
        by_cases hk0 : k = 0
        · subst hk0
          have hcw0 : wr.cell? ⟨b, off, none⟩ = some (.string x) := by simpa using hcw
          have hp0 : pre = [] := by rw [hpre.out]; rfl
          subst hp0
          obtain ⟨u, hu⟩ : ∃ u, bs [] ++ x = u := ⟨_, rfl⟩
          have huz : u.size = x.size := by rw [← hu, ByteArray.size_append, bs_size]; simp
          have hsz1 : ¬ (9223372036854775807 < (bs []).size + x.size) := by rw [bs_size]; simp; omega
          have HU := hide (show u = bs (Lib.join ((xs.take (0 + 1)).map (·.data.toList)) [c]) by rw [← hu, hts, bs_app]; congr 1; exact (jn_one c x).symm)
          have huc : ({ data := #[] } : ByteArray) ++ x = u := hu
          have hsz2 : ¬ (9223372036854775807 < ({ data := #[] } : ByteArray).size + x.size) := hsz1
          by_cases hbig : 4000 < u.size
          · have c2 : (4000 : Int) < (u.size : Int) := by omega
            have HF := hide (js_bad HOK.out (fun h => by have h2 := h.2; rw [HN.out] at h2; have h3 := HT1.out; omega) HR.out)
            clear hx hst ht1 ht2 hany hpre hlen hts hjl
            go_wp2_with fail
            go_quiet ((go_at_call 9; exact quietE (HG.out _)))
            go_wp2_with fail
            go_ret2
            obtain ⟨rfl, rfl⟩ := HF.out
            exact ⟨rfl, (hq.drewN _).below _⟩
          · have c2 : ¬ ((4000 : Int) < (u.size : Int)) := by omega
            clear hx hst ht1 ht2 hany hpre hlen hts hjl
            go_wp2_with fail
            go_quiet ((go_at_call 9; exact quietE (HG.out _)))
            go_wp2_with fail
            go_roundw
            case rel => exact ⟨1, _, by omega, by go_num, by rw [HU.out], hide rfl, HAN.out, by have h9 : u.size = (Lib.join ((xs.take (0 + 1)).map (·.data.toList)) [c]).length := by { rw [HU.out, bs_size] }; exact h9 ▸ (by omega : u.size ≤ 4000), hide (.inr (by have := HJL.out; simpa using this.symm)), hq.drewN _⟩
            case measure => simp [intOf]; omega
        · have ck : (0 : Int) < (k : Int) := by omega
          have hln : k - 1 + totS (xs.take k) = pre.length := hlen.out.resolve_left hk0
          obtain ⟨t, ht⟩ : ∃ t, bs pre ++ ByteArray.mk #[c] = t := ⟨_, rfl⟩
          obtain ⟨u, hu⟩ : ∃ u, t ++ x = u := ⟨_, rfl⟩
          have htz : t.size = pre.length + 1 := by rw [← ht, ByteArray.size_append, bs_size]; rfl
          have huz : u.size = pre.length + 1 + x.size := by rw [← hu, ByteArray.size_append, htz]
          have hsz1 : ¬ (9223372036854775807 < (bs pre).size + (ByteArray.mk #[c]).size) := by rw [bs_size, show (ByteArray.mk #[c]).size = 1 from rfl]; omega
          have hsz2 : ¬ (9223372036854775807 < t.size + x.size) := by omega
          have HU := hide (show u = bs (Lib.join ((xs.take (k + 1)).map (·.data.toList)) [c]) by
            rw [← hu, ← ht, hts, jn_snoc c _ x (by intro e; have := congrArg List.length e; rw [List.length_take, HN.out] at this; simp at this; omega), ← hpre.out, show ByteArray.mk #[c] = bs [c] from rfl, bs_append, bs_app])
          by_cases hbig : 4000 < u.size
          · have c2 : (4000 : Int) < (u.size : Int) := by omega
            have HF := hide (js_bad HOK.out (fun h => by have h2 := h.2; rw [HN.out] at h2; have h3 := HT1.out; omega) HR.out)
            clear hx hst ht1 ht2 hany hpre hlen hts hjl hln
            go_wp2_with fail
            go_quiet ((go_at_call 9; exact quietE (HG.out _)))
            go_wp2_with fail
            go_ret2
            obtain ⟨rfl, rfl⟩ := HF.out
            exact ⟨rfl, (hq.drewN _).below _⟩
          · have c2 : ¬ ((4000 : Int) < (u.size : Int)) := by omega
            clear hx hst ht1 ht2 hany hpre hlen hts hjl hln
            go_wp2_with fail
            go_quiet ((go_at_call 9; exact quietE (HG.out _)))
            go_wp2_with fail
            go_roundw
            case rel => exact ⟨k + 1, _, by omega, by go_num, by rw [HU.out], hide rfl, HAN.out, by have h9 := congrArg ByteArray.size HU.out; rw [bs_size] at h9; omega, hide (.inr (by have := HJL.out; simpa using this.symm)), hq.drewN _⟩
            case measure => simp [intOf]; omega
    · obtain rfl : k = n := by omega
      have htk : xs.take k = xs := List.take_of_length_le (by rw [HN.out]; exact Nat.le_refl _)
      have hno : anyHas c xs = false := by rw [hany.out, List.drop_of_length_le (by rw [HN.out]; exact Nat.le_refl _)]; rfl
      have hln := hlen.out.resolve_left h0
      rw [htk] at hln
      have HF := hide (js_ok HOK.out ⟨hno, by rw [HN.out]; omega⟩ HR.out)
      have HP := hide (show pre = Lib.join (xs.map (·.data.toList)) [c] by have := hpre.out; rw [htk] at this; exact this)
      clear hany hpre hlen htk hno hln
      go_wp2_with fail
      go_ret2
      obtain ⟨rfl, rfl⟩ := HF.out
      exact ⟨by rw [HP.out]; rfl, hq.below _⟩

end Go.Proofs.Ytmepficbmgjpoaa
