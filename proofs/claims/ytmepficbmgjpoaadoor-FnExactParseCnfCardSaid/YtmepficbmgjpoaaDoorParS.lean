/- The walks of the parsers of clauses. -/
import Derived.Test.YtmepficbmgjpoaaDoorParPl
import Derived.Test.YtmepficbmgjpoaaDoorRd
import Derived.Test.YtmepficbmgjpoaaDoorTxtI
namespace Go.Proofs.YtmepficbmgjpoaaDoor
open Go.RowKit
set_option linter.unusedVariables false

theorem ownS_I {base base' : Nat} {w : World} {v u : Value} {xs : List ByteArray} {zs : List Int} (h : OwnS base w v xs) (h' : OwnI base' w u zs) : v.ownBlock = none ∨ v.ownBlock ≠ u.ownBlock := by
  rcases h.2 with ⟨rfl, _⟩ | ⟨g, cap, cur, rfl, _, hh, _⟩
  · exact .inl rfl
  · right
    rcases h'.2 with ⟨rfl, _⟩ | ⟨g', cap', cur', rfl, _, hh', _⟩
    · simp [Value.ownBlock]
    · intro e
      have e' : g = g' := by simpa [Value.ownBlock] using e
      subst e'
      rw [hh] at hh'
      have hne : (9 : TypeId) ≠ 3 := by decide
      injection hh' with e1
      injection e1 with e2 e3
      exact hne e3
theorem OwnS.grown {base : Nat} {w w' : World} {v : Value} {xs : List ByteArray} {o : Option Nat} (h : OwnS base w v xs) (hg : w.grownBy w' o) (hne : v.ownBlock = none ∨ v.ownBlock ≠ o) : OwnS base w' v xs := World.ownsRow.kept h hg hne
theorem append_intG {ops : Array Oper} {rest : List Oper} {o : Oper} {a : Act} {Q : Exit → Act → World → Prop} {w : World} {y : Int} (hgd : o.guard = none) (s x : Operand)
    (ho : o.op = .call { callee := .builtin .append, args := #[s, x], argTypes := #[35, 35] })
    (base : Nat) {v : Value} {zs : List Int} (hs : a.eval s = v) (hown : OwnI base w v zs)
    (hx : a.eval x = .slice (some ⟨w.heap.size, 0, none⟩) 1 1) (hn : zs.length ≤ 1073741824) (hb : base ≤ w.heap.size)
    (h : ∀ v' w', OwnI base w' v' (zs ++ [y]) → Below base w w' → w.grownBy w' v.ownBlock → wpList Tryd.prog ops Q rest (a.put o.dst v') w') : wpList Tryd.prog ops Q (o :: rest) a (w.alloc (.cells #[.int .i64 y] 3)) := by
  obtain ⟨i0, hi, hz0, hz1, hz2⟩ := info_parts int_info
  have hal : Below w.heap.size w (w.alloc (.cells #[.int .i64 y] 3)) := (Below.refl _ _).alloc (Nat.le_refl _) _
  have hown1 := hown.below hal
  refine wpList_append_own _ hgd s x _ ho base 3 i0 (.int .i64 0) 1 8 Tryd.underlying35 hi hz0 hz1 hz2 rfl (by decide) v zs.length (ic zs) hs hown1 ⟨w.heap.size, 0, none⟩ 1 1 [.int .i64 y] hx rfl ?_ ?_ ?_ ?_ ?_ ?_
  · intro j u hj
    match j, hj with
    | 0, hj => simp at hj; subst hj; simp [Addr.add]
  · intro u hu; simp at hu; subst hu; rfl
  · unfold maxLen; omega
  · omega
  · simp; omega
  · intro v' w' hown' hg _
    refine h v' w' (by unfold OwnI; simpa [ic] using hown') (((Below.refl base w).alloc hb _).grown hg (by simp; omega) ?_) ⟨hg.os, hg.tape, hg.output, Nat.le_trans hal.size hg.size, fun k hk hne => (hg.block k (Nat.lt_of_lt_of_le hk hal.size) hne).trans (hal.block k hk)⟩
    intro k hk
    exact (World.ownsRow.lt hown1 k hk).1

theorem noneB_list : noneB.toList = [110, 111, 110, 101] := by rw [Lib.toList_data]; rfl
theorem take_snocB {xs : List ByteArray} {k : Nat} {x : ByteArray} (h : xs.drop k = x :: xs.drop (k + 1)) : xs = xs.take k ++ x :: xs.drop (k + 1) ∧ xs.take (k + 1) = xs.take k ++ [x] :=
  ⟨by conv => lhs; rw [← List.take_append_drop k xs, h], take_snoc_l h⟩

set_option maxHeartbeats 3200000 in
theorem s_l2Parse (vars : Int) (s : ByteArray) (r0 : List Int) (r1 : Bool) (w : World) (hs : s.size ≤ 1048576) (hR : fParseClause vars s = (r0, r1)) :
    Calls Tryd.prog 60 #[.int .i64 vars, .string s] w fun e w' => ∃ v', e = .returned (.tuple #[v', .bool r1]) ∧ FInts w.heap.size w'.heap.size w' v' r0 ∧ Below w.heap.size w w' := by
  have hal : Below w.heap.size w (w.alloc (.cells #[] 3)) := (Below.refl _ _).alloc (Nat.le_refl _) _
  have hmade := OwnI.made w.heap.size w (Nat.le_refl _)
  obtain ⟨wb, hwb⟩ : ∃ wb, wb = w.alloc (.cells #[] 3) := ⟨_, rfl⟩
  rw [← hwb] at hal hmade
  have HWB := hide hwb
  have hszb : wb.heap.size = w.heap.size + 1 := by rw [hwb]; simp
  have HSZ := hide hszb
  clear hwb hszb
  by_cases h0 : s = noneB
  · have hne : (s.toList == [110, 111, 110, 101]) = true := by rw [← noneB_list, beq_bytes]; exact decide_eq_true h0
    have HF := hide (pc_none h0 hR)
    clear hR h0
    have HM := hide hmade
    have HAL := hide hal
    clear hmade hal
    go_enter Tryd.func60, Tryd.ntmps60
    go_wp2_with fail
    rw [← HWB.out]
    go_wp2_with fail
    refine (s_l2Vars _ _).mono ?_
    rintro e w1 ⟨rfl, rfl⟩
    go_wp2_with fail
    go_ret2
    obtain ⟨rfl, rfl⟩ := HF.out
    exact ⟨_, rfl, HM.out.fints, HAL.out⟩
  · have hne : (s.toList == [110, 111, 110, 101]) = false := by rw [← noneB_list, beq_bytes]; exact decide_eq_false h0
    have HR := hide hR
    have HS := hide (s_l1Split s 32 wb hs)
    have H0 := hide h0
    have HM := hide hmade
    have HAL := hide hal
    clear hR hmade hal h0
    go_enter Tryd.func60, Tryd.ntmps60
    go_wp2_with fail
    rw [← HWB.out]
    go_wp2_with fail
    refine HS.out.mono ?_
    rintro e w1 ⟨wv, rfl, hwords, hb1⟩
    have hb01 := HAL.out.trans (hb1.mono HAL.out.size)
    have hm1 := HM.out.below hb1
    obtain ⟨ws, hws⟩ : ∃ ws, (spl 32 [] s.data.toList).map bs = ws := ⟨_, rfl⟩
    rw [hws] at hwords
    have hwo : wordsOf s = ws := hws
    have hwl := wordsOf_len s
    rw [hwo] at hwl
    have hsize : ∀ x ∈ ws, x.size ≤ 1048576 := fun x hx => Nat.le_trans (wordsOf_size (by rw [hwo]; exact hx)) hs
    obtain ⟨n, hn⟩ : ∃ n, ws.length = n := ⟨_, rfl⟩
    rw [hn] at hwl
    obtain ⟨Aw, cw, rfl, hcw1, hcw2, -⟩ := id hwords.own
    unfold maxLen at hcw2
    have HW := hide hwords
    have HWO := hide hwo
    have HSI := hide hsize
    have HN := hide hn
    have HM1 := hide hm1
    have HB01 := hide hb01
    rw [hn] at hcw1 ⊢
    clear hwords hwo hsize hn hm1 hws hb1 hb01
    go_wp2_with fail
    go_loopw [6, 8] (fun q i wr => ∃ (k : Nat) (ns : List Int), k ≤ n ∧ k ≤ 13 ∧ ns.length = k ∧ i = .int .i64 k ∧ Hid (readAll (ws.take k) = some ns) ∧ OwnI w.heap.size wr q ns ∧ Hid (OwnS wb.heap.size wr (.slice Aw n cw) ws) ∧ Below w.heap.size w wr) (fun _ i _ => n - (intOf i).toNat)
    case atStart => exact ⟨0, [], Nat.zero_le _, by omega, rfl, rfl, hide rfl, HM1.out, hide (by have := HW.out; rw [HN.out] at this; exact this), HB01.out⟩
    case round =>
      obtain ⟨k, ns, hk, hk13, hnl, rfl, hr, hown, hwd, hbel⟩ := hrel
      by_cases hlt : k < n ∧ k ≤ 12
      · obtain ⟨hlt, hk12⟩ := hlt
        have hsr := hbel.size
        have hk12' : (k : Int) ≤ 12 := by omega
        obtain ⟨A', c', e', _, _, hrow⟩ := hwd.out.own
        have hkl : k < ws.length := by rw [HN.out]; exact hlt
        obtain ⟨b, off, x, hA, hx, hcx⟩ := hrow.row.str hkl
        injection e' with e1 e2 e3
        rw [hA] at e1
        subst e1
        clear e2 e3
        have hxs := HSI.out x (List.mem_of_getElem? (get_of_drop hx))
        obtain ⟨hsp, htk⟩ := take_snocB hx
        obtain ⟨⟨q0, q1⟩, hq⟩ : ∃ q, fParseInt x = q := ⟨_, rfl⟩
        have HRD := hide (s_l1Read x q0 q1 wr hxs hq)
        cases hrs : readS x.data.toList with
        | none =>
          obtain ⟨rfl, rfl⟩ := rd_none hrs hq
          have HF := hide (pc_bad H0.out (by rw [HWO.out, hsp]; exact readAll_bad hr.out hrs) HR.out)
          clear hr hwd hrow hx hsp htk hq hrs
          go_wp2_with fail
          refine HRD.out.mono ?_
          rintro e w3 ⟨rfl, hq3⟩
          have hb3 := hbel.trans (hq3.below _)
          have hmd := (OwnI.made w.heap.size w3 hb3.size).fints
          have hb4 := hb3.trans (((Below.refl _ _).alloc (Nat.le_refl _) (.cells #[] 3)).mono hb3.size)
          have HMD := hide hmd
          have HB4 := hide hb4
          clear hmd hb4
          go_wp2_with fail
          go_ret2
          obtain ⟨rfl, rfl⟩ := HF.out
          exact ⟨_, rfl, HMD.out, HB4.out⟩
        | some m =>
          obtain ⟨rfl, rfl⟩ := rd_some hrs hq
          have HF := hide (show readAll (ws.take (k + 1)) = some (ns ++ [q0]) by rw [htk]; exact readAll_snoc hr.out hrs)
          have HNL := hide hnl
          clear hr hrow hx hsp htk hq hrs hnl
          go_wp2_with fail
          refine HRD.out.mono ?_
          rintro e w3 ⟨rfl, hq3⟩
          have hb3 := hbel.trans (hq3.below _)
          have hown3 := hown.below (hq3.below _)
          have hwd3 := hide (hwd.out.below (hq3.below _))
          have hs3 := hb3.size
          have hnl3 : ns.length ≤ 1073741824 := by have := HNL.out; omega
          have HB3 := hide hb3
          clear hb3 hq3 hwd hown hbel
          go_wp2_with (at_builtin; refine append_intG rfl _ _ rfl w.heap.size rfl hown3 rfl hnl3 hs3 ?_; intro v5 w5 hown5 hb5 hg5)
          have hwd5 := hide (hwd3.out.grown hg5 (ownS_I hwd3.out hown3))
          go_roundw
          case rel => exact ⟨k + 1, _, by omega, by omega, by simp [HNL.out], by go_num, HF.out, hown5, hwd5, HB3.out.trans hb5⟩
          case measure => simp [intOf]; omega
      · by_cases hlong : 12 < n
        · obtain rfl : k = 13 := by omega
          have hl1 : (12 : Int) < (n : Int) := by omega
          have HF := hide (pc_long H0.out (by rw [HWO.out, HN.out]; exact hlong) HR.out)
          have hmd := (OwnI.made w.heap.size wr hbel.size).fints
          have hb4 := hbel.trans (((Below.refl _ _).alloc (Nat.le_refl _) (.cells #[] 3)).mono hbel.size)
          have HMD := hide hmd
          have HB4 := hide hb4
          clear hmd hb4 hr hwd
          go_wp2_with fail
          all_goals go_ret2
          all_goals obtain ⟨rfl, rfl⟩ := HF.out
          all_goals exact ⟨_, rfl, HMD.out, HB4.out⟩
        · obtain rfl : k = n := by omega
          have hl1 : ¬ ((12 : Int) < (k : Int)) := by omega
          have hra : readAll (wordsOf s) = some ns := by
            have h9 := hr.out
            rw [List.take_of_length_le (by rw [HN.out]; exact Nat.le_refl _)] at h9
            rw [HWO.out]; exact h9
          have HCL := hide (s_l2Clause vars _ ns wr hown.fints.ints)
          cases hcb : clauseB vars ns with
          | false =>
            rw [hcb] at HCL
            have HF := hide (pc_no H0.out hra hcb HR.out)
            clear hr hwd hra
            go_wp2_with fail
            refine HCL.out.mono ?_
            rintro e w3 ⟨rfl, hq3⟩
            have hb3 := hbel.trans (hq3.below _)
            have hmd := (OwnI.made w.heap.size w3 hb3.size).fints
            have hb4 := hb3.trans (((Below.refl _ _).alloc (Nat.le_refl _) (.cells #[] 3)).mono hb3.size)
            have HMD := hide hmd
            have HB4 := hide hb4
            clear hmd hb4
            go_wp2_with fail
            go_ret2
            obtain ⟨rfl, rfl⟩ := HF.out
            exact ⟨_, rfl, HMD.out, HB4.out⟩
          | true =>
            rw [hcb] at HCL
            have HF := hide (pc_yes H0.out hra hcb HR.out)
            have HTX := hide (fun W (hb : Quiet wr W) => s_l2Text _ ns W (hown.fints.ints.below (hb.below _)) (fun l hl => ⟨(clauseB_small hcb l hl).2.1, (clauseB_small hcb l hl).2.2⟩) (by omega))
            have htx : ((bs (textL ns)).toList == s.toList) = true := by rw [beq_bytes]; exact decide_eq_true (words_text hra)
            clear hr hwd hra
            go_wp2_with fail
            refine HCL.out.mono ?_
            rintro e w3 ⟨rfl, hq3⟩
            go_wp2_with fail
            refine (HTX.out _ hq3).mono ?_
            rintro e w4 ⟨rfl, hq4⟩
            have HF2 := hide (hown.below ((hq3.trans hq4).below _)).fints
            have HB4 := hide (hbel.trans ((hq3.trans hq4).below _))
            go_wp2_with fail
            go_ret2
            obtain ⟨rfl, rfl⟩ := HF.out
            exact ⟨_, rfl, HF2.out, HB4.out⟩

set_option maxHeartbeats 400000 in
theorem S_ParseClause (vars : Int) (s : ByteArray) (r0 : List Int) (r1 : Bool) (w : World) (hs : s.size ≤ 1048576) (hR : fParseClause vars s = (r0, r1)) :
    Calls Tryd.prog 29 #[.int .i64 vars, .string s] w fun e w' => ∃ v', e = .returned (.tuple #[v', .bool r1]) ∧ FInts w.heap.size w'.heap.size w' v' r0 ∧ Below w.heap.size w w' := by
  have HS := hide (s_l2Parse vars s r0 r1 w hs hR)
  clear hR
  go_enter Tryd.func29, Tryd.ntmps29
  go_wp2_with fail
  refine HS.out.mono ?_
  rintro e w1 ⟨v1, rfl, h1, hb1⟩
  go_wp2_with fail
  go_ret2
  exact ⟨_, rfl, h1, hb1⟩

theorem run_make_cap (n : Nat) (hn : n ≤ 16777216) (W : World) : (Instr.makeSlice 35 (.int .i64 0) (.int .i64 n)).run Tryd.prog W = .ok (.slice (some ⟨W.heap.size, 0, none⟩) 0 n) (W.alloc (.cells (madeCells #[Value.int .i64 0] n) 3)) := by
  obtain ⟨i0, hi, hz0, hz1, hz2⟩ := info_parts int_info
  have h := run_make (P := Tryd.prog) (w := W) 35 3 i0 (.int .i64 0) Tryd.underlying35 hi hz0 .i64 .i64 0 n (Int.le_refl _) (by omega) (by rw [hz2]; omega) (by omega)
  simpa [hz1, Value.cells] using h
theorem OwnI.room (base : Nat) (w : World) (n : Nat) (hn : n ≤ 16777216) (hb : base ≤ w.heap.size) : OwnI base (w.alloc (.cells (madeCells #[Value.int .i64 0] n) 3)) (.slice (some ⟨w.heap.size, 0, none⟩) 0 n) [] := World.ownsRow_made w (madeCells #[Value.int .i64 0] n) n hb (by simp [maxLen]; omega) (by rw [madeCells_one]; simp)

theorem PowE.below0 {w w' : World} (h : PowE w) (hb : Below w.heap.size w w') : PowE w' := h.below hb
set_option maxHeartbeats 1600000 in
theorem i_parseInts {hi : Nat} (v : Value) (ws : List ByteArray) (w : World) (h : StrV hi w v ws) (hn : ws.length ≤ 1048577) (hz : ∀ x ∈ ws, x.size ≤ 1048576) (hP : PowE w) :
    Calls Tryd.prog 62 #[v] w fun e w' => ∃ v', e = .returned (.tuple #[v', .bool (readAll ws).isSome]) ∧ FInts w.heap.size w'.heap.size w' v' ((readAll ws).getD []) ∧ Below w.heap.size w w' := by
  obtain ⟨A, c, rfl, hc, hm, hrow⟩ := h.top
  unfold maxLen at hm
  obtain ⟨n, hnn⟩ : ∃ n, ws.length = n := ⟨_, rfl⟩
  have hmk := fun W => run_make_cap n (by omega) W
  have HN := hide hnn
  have HZ := hide hz
  have HP := hide hP
  have HROW := hide hrow
  obtain ⟨cs, hcs⟩ : ∃ cs, madeCells #[Value.int .i64 0] n = cs := ⟨_, rfl⟩
  have hroom := OwnI.room w.heap.size w n (by omega) (Nat.le_refl _)
  rw [hcs] at hmk hroom
  have hal : Below w.heap.size w (w.alloc (.cells cs 3)) := (Below.refl _ _).alloc (Nat.le_refl _) _
  obtain ⟨wb, hwb⟩ : ∃ wb, wb = w.alloc (.cells cs 3) := ⟨_, rfl⟩
  rw [← hwb] at hroom hal
  have HWB := hide hwb
  have HRM := hide hroom
  have HAL := hide hal
  rw [hnn] at hc hn ⊢
  clear hz hP hnn hrow hcs hroom hal hwb h
  go_enter Tryd.func62, Tryd.ntmps62
  go_wp2_with fail
  rw [← HWB.out]
  go_wp2_with fail
  go_loopw [4, 14] (fun q i wr => ∃ (k : Nat) (ns : List Int), k ≤ n ∧ ns.length = k ∧ i = .int .i64 k ∧ Hid (readAll (ws.take k) = some ns) ∧ OwnI w.heap.size wr q ns ∧ Below w.heap.size w wr) (fun _ i _ => n - (intOf i).toNat)
  case atStart => exact ⟨0, [], Nat.zero_le _, rfl, rfl, hide rfl, HRM.out, HAL.out⟩
  case round =>
    obtain ⟨k, ns, hk, hnl, rfl, hr, hown, hbel⟩ := hrel
    by_cases hlt : k < n
    · have hkl : k < ws.length := by rw [HN.out]; exact hlt
      obtain ⟨b, off, x, rfl, hx, hcx⟩ := HROW.out.str hkl
      replace hcx := below_old hbel _ _ hcx
      have hxs := HZ.out x (List.mem_of_getElem? (get_of_drop hx))
      obtain ⟨hsp, htk⟩ := take_snocB hx
      obtain ⟨⟨q0, q1⟩, hq⟩ : ∃ q, fParseInt x = q := ⟨_, rfl⟩
      have HRD := hide (I_ParseInt x q0 q1 wr (HP.out.below hbel) hxs hq)
      cases hrs : readS x.data.toList with
      | none =>
        obtain ⟨rfl, rfl⟩ := rd_none hrs hq
        have HF := hide (show readAll ws = none by rw [hsp]; exact readAll_bad hr.out hrs)
        clear hr hx hsp htk hq hrs
        go_wp2_with fail
        refine HRD.out.mono ?_
        rintro e w3 ⟨rfl, hb3⟩
        go_wp2_with fail
        go_ret2
        rw [HF.out]
        exact ⟨_, rfl, FInts.nil _ _ _, hbel.trans (hb3.mono hbel.size)⟩
      | some m =>
        obtain ⟨rfl, rfl⟩ := rd_some hrs hq
        have HF := hide (show readAll (ws.take (k + 1)) = some (ns ++ [q0]) by rw [htk]; exact readAll_snoc hr.out hrs)
        have HNL := hide hnl
        clear hr hx hsp htk hq hrs hnl
        go_wp2_with fail
        refine HRD.out.mono ?_
        rintro e w3 ⟨rfl, hb3⟩
        have hb03 := hbel.trans (hb3.mono hbel.size)
        have hown3 := hown.below hb3
        have hs3 := hb03.size
        have hnl3 : ns.length ≤ 1073741824 := by have := HNL.out; omega
        have HB3 := hide hb03
        clear hb03 hb3 hown hbel
        go_wp2_with (at_builtin; refine append_int rfl _ _ rfl w.heap.size rfl hown3 rfl hnl3 hs3 ?_; intro v5 w5 hown5 hb5)
        go_roundw
        case rel => exact ⟨k + 1, _, by omega, by simp [HNL.out], by go_num, HF.out, hown5, HB3.out.trans hb5⟩
        case measure => simp [intOf]; omega
    · obtain rfl : k = n := by omega
      have HF := hide (show readAll ws = some ns by
        have h9 := hr.out
        rw [List.take_of_length_le (by rw [HN.out]; exact Nat.le_refl _)] at h9
        exact h9)
      clear hr
      go_wp2_with fail
      go_ret2
      rw [HF.out]
      exact ⟨_, rfl, hown.fints, hbel⟩

/-- what the program's parsers ask of the library's variables -/
def PowM (w : World) : Prop := PowE w ∧ MaxV w
theorem PowM.below {w w' : World} (h : PowM w) (hb : Below w.heap.size w w') : PowM w' := ⟨h.1.below hb, h.2.below hb⟩

set_option maxHeartbeats 1600000 in
theorem I_ParseClause (vars : Int) (s : ByteArray) (r0 : List Int) (r1 : Bool) (w : World) (hP : PowM w) (hs : s.size ≤ 1048576) (hR : fParseClause vars s = (r0, r1)) :
    Calls Tryd.prog 30 #[.int .i64 vars, .string s] w fun e w' => ∃ v', e = .returned (.tuple #[v', .bool r1]) ∧ FInts w.heap.size w'.heap.size w' v' r0 ∧ Below w.heap.size w w' := by
  by_cases h0 : s = noneB
  · have hne : (s.toList == [110, 111, 110, 101]) = true := by rw [← noneB_list, beq_bytes]; exact decide_eq_true h0
    have HF := hide (pc_none h0 hR)
    clear hR h0 hP
    go_enter Tryd.func30, Tryd.ntmps30
    go_wp2_with fail
    refine (i_varsOk _ _).mono ?_
    rintro e w1 ⟨rfl, rfl⟩
    go_wp2_with fail
    go_ret2
    obtain ⟨rfl, rfl⟩ := HF.out
    exact ⟨_, rfl, FInts.nil _ _ _, Below.refl _ _⟩
  · have hne : (s.toList == [110, 111, 110, 101]) = false := by rw [← noneB_list, beq_bytes]; exact decide_eq_false h0
    have HR := hide hR
    have HP := hide hP
    have H0 := hide h0
    have HSP := hide (g_Split s blankB w hs (by decide) hP.2)
    have HWL := hide (wordsOf_len s)
    have HWZ := hide (fun x hx => Nat.le_trans (wordsOf_size (s := s) (x := x) hx) hs)
    rw [wordsOf_split] at HSP
    clear hR hP h0
    go_enter Tryd.func30, Tryd.ntmps30
    go_wp2_with fail
    refine HSP.out.mono ?_
    rintro e w1 ⟨wv, rfl, hw, hb1⟩
    have HPI := hide (i_parseInts wv (wordsOf s) w1 hw.strs (by have := HWL.out; omega) HWZ.out (HP.out.1.below hb1))
    go_wp2_with fail
    refine HPI.out.mono ?_
    rintro e w2 ⟨iv, rfl, hi2, hb2⟩
    have hb02 := hb1.trans (hb2.mono hb1.size)
    have hs1 := hb1.size
    cases hra : readAll (wordsOf s) with
    | none =>
      have HF := hide (pc_bad H0.out hra HR.out)
      clear hi2 hra
      go_wp2_with fail
      go_ret2
      obtain ⟨rfl, rfl⟩ := HF.out
      exact ⟨_, rfl, FInts.nil _ _ _, hb02⟩
    | some c =>
      rw [hra] at hi2
      have HCL := hide (i_IsClause vars _ c w2 hi2.ints)
      cases hcb : clauseB vars c with
      | false =>
        rw [hcb] at HCL
        have HF := hide (pc_no H0.out hra hcb HR.out)
        clear hi2 hra
        go_wp2_with fail
        refine HCL.out.mono ?_
        rintro e w3 ⟨rfl, hq3⟩
        go_wp2_with fail
        go_ret2
        obtain ⟨rfl, rfl⟩ := HF.out
        exact ⟨_, rfl, FInts.nil _ _ _, hb02.trans (hq3.below _)⟩
      | true =>
        rw [hcb] at HCL
        have HF := hide (pc_yes H0.out hra hcb HR.out)
        have HI2 := hide hi2
        clear hi2 hra
        go_wp2_with fail
        refine HCL.out.mono ?_
        rintro e w3 ⟨rfl, hq3⟩
        go_wp2_with fail
        go_ret2
        obtain ⟨rfl, rfl⟩ := HF.out
        exact ⟨_, rfl, ((HI2.out.below (hq3.below _)).mono hs1 (Nat.le_of_eq hq3.size.symm)), hb02.trans (hq3.below _)⟩

end Go.Proofs.YtmepficbmgjpoaaDoor
