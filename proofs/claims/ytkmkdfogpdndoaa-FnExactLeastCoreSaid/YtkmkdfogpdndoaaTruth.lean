/- The walks: clauses and formulas under bits. -/
import Derived.Test.YtkmkdfogpdndoaaBase
import Derived.Test.YtkmkdfogpdndoaaClause
import Derived.Test.YtkmkdfogpdndoaaHas
import Derived.Test.YtkmkdfogpdndoaaTab
namespace Go.Proofs.Ytkmkdfogpdndoaa
open Go.RowKit
set_option linter.unusedVariables false

set_option maxHeartbeats 400000 in
theorem s_l5True {hi : Nat} (v : Value) (zs : List Int) (bits : Int) (w : World) (h : Ints hi w v zs) (hl : ∀ l ∈ zs, l ≠ 0 ∧ -12 ≤ l ∧ l ≤ 12) (h0 : 0 ≤ bits) :
    Calls Try.prog 121 #[v, .int .i64 bits] w fun e w' => e = .returned (.bool (trueB bits zs)) ∧ Quiet w w' := by
  obtain ⟨A, c, rfl, hc, hm, hrow⟩ := h
  unfold maxLen at hm
  have HL := hide hl
  clear hl
  go_enter Try.func121, Try.ntmps121
  go_wp2_with fail
  go_loopw [5] (fun i wr => ∃ k : Nat, k ≤ zs.length ∧ i = .int .i64 k ∧ Hid (trueB bits zs = trueB bits (zs.drop k)) ∧ Quiet w wr) (fun i _ => zs.length - (intOf i).toNat)
  case atStart => exact ⟨0, Nat.zero_le _, rfl, rfl, Quiet.refl _⟩
  case round =>
    obtain ⟨k, hk, rfl, hr, hq⟩ := hrel
    by_cases hlt : k < zs.length
    · obtain ⟨b, off, x, rfl, hx, hcw⟩ := hrow.int hlt
      rw [← hq.cell] at hcw
      obtain ⟨m, hm11, hv, _⟩ := lit_var (HL.out x (List.mem_of_getElem? (get_of_drop hx)))
      have HV := hide hv
      have HT := hide (trueL_at (bits := bits) hv)
      clear hv
      cases hb : bitB bits m == decide (0 < x) with
      | true =>
        have HF := hide (show trueB bits zs = true by rw [hr.out, hx, trueB_cons, HT.out, hb]; rfl)
        have hb' := hb
        unfold bitB at hb'
        clear hx
        go_wp2_with fail
        go_quiet ((go_at_call 139; exact quietE (HV.out ▸ s_l2Var _ _)))
        go_wp2_with fail
        go_ret
        exact ⟨by rw [HF.out]; rfl, hq.drewN _⟩
      | false =>
        have HF := hide (show trueB bits zs = trueB bits (zs.drop (k + 1)) by rw [hr.out, hx, trueB_cons, HT.out, hb]; rfl)
        have hb' := hb
        unfold bitB at hb'
        clear hx
        go_wp2_with fail
        go_quiet ((go_at_call 139; exact quietE (HV.out ▸ s_l2Var _ _)))
        go_wp2_with fail
        go_roundw
        case rel => exact ⟨k + 1, by omega, by go_num, HF.out, hq.drewN _⟩
        case measure => simp [intOf]; omega
    · obtain rfl : k = zs.length := by omega
      go_wp2_with fail
      go_ret
      exact ⟨by rw [hr.out, List.drop_length]; rfl, hq⟩

theorem i_holds1 (x bits : Int) (B : Nat) (w : World) (hc : w.cell? ⟨B, 0, none⟩ = some (.int .i64 bits)) (hx : x ≠ 0 ∧ -12 ≤ x ∧ x ≤ 12) (h0 : 0 ≤ bits) :
    Calls Try.prog 126 #[.int .i64 x, .pointer (some ⟨B, 0, none⟩)] w fun e w' => e = .returned (.bool (trueL bits x)) ∧ Quiet w w' := by
  obtain ⟨m, hm11, hv, ha⟩ := lit_var hx
  rw [trueL_at hv]
  have HA := hide ha
  clear ha hv
  go_enter Try.func126, Try.ntmps126
  go_wp2_with fail
  go_quiet ((go_at_call 127; exact quietE (HA.out ▸ i_abs _ _)))
  go_wp2_with fail
  go_ret
  exact ⟨rfl, ⟨_, rfl⟩⟩

set_option maxHeartbeats 400000 in
theorem i_holds {hi : Nat} (v : Value) (zs : List Int) (bits : Int) (w : World) (h : Ints hi w v zs) (hl : ∀ l ∈ zs, l ≠ 0 ∧ -12 ≤ l ∧ l ≤ 12) (h0 : 0 ≤ bits) :
    Calls Try.prog 86 #[v, .int .i64 bits] w fun e w' => e = .returned (.bool (trueB bits zs)) ∧ Below w.heap.size w w' := by
  have eg := Go.Proofs.enters_of Try.func126 (by kernel_rfl) rfl
  obtain ⟨A, c, rfl, hc, hm, hrow⟩ := h
  have hal : Below w.heap.size w (w.alloc (.cells #[.int .i64 bits] 3)) := (Below.refl _ _).alloc (Nat.le_refl _) _
  have hbox : (w.alloc (.cells #[.int .i64 bits] 3)).cell? ⟨w.heap.size, 0, none⟩ = some (.int .i64 bits) := by simp
  have hrow' := hrow.below hal
  have hp : Answers Try.prog 126 #[.pointer (some ⟨w.heap.size, 0, none⟩)] (ic zs) (zs.map (trueL bits)) (w.alloc (.cells #[.int .i64 bits] 3)) := by
    intro j u bb hu hb W hW
    rw [List.getElem?_map] at hu hb
    obtain ⟨z, hz, rfl⟩ := Option.map_eq_some_iff.1 hu
    rw [hz] at hb
    obtain rfl : trueL bits z = bb := by simpa using hb
    exact (i_holds1 z bits w.heap.size W (below_old hW _ _ hbox) (hl z (List.mem_of_getElem? hz)) h0).mono fun e w' ⟨he, hq⟩ => ⟨he, hq.below _⟩
  have HP := hide hp
  clear hp hbox hl
  go_enter Try.func86, Try.ntmps86
  go_wp2_with fail
  refine (g_ContainsFunc A c _ _ zs _ _ hc hm hrow' (by simp) eg HP.out).mono ?_
  rintro e w1 ⟨rfl, hb1⟩
  go_wp2_with fail
  go_ret
  exact ⟨ret_bool (by simp [trueB]), hal.trans (hb1.mono (by simp))⟩

set_option maxHeartbeats 400000 in
theorem s_l5All {hi : Nat} (v : Value) (t : List (List Int)) (bits : Int) (w : World) (h : Tab hi w v t) (hl : ∀ c ∈ t, ∀ l ∈ c, l ≠ 0 ∧ -12 ≤ l ∧ l ≤ 12) (h0 : 0 ≤ bits) :
    Calls Try.prog 122 #[v, .int .i64 bits] w fun e w' => e = .returned (.bool (allB bits t)) ∧ Quiet w w' := by
  obtain ⟨A, c, ps, rfl, hc, hm, rfl, hrow, hps⟩ := h.open_
  unfold maxLen at hm
  have HL := hide hl
  have HPS := hide hps
  clear hl hps h
  go_enter Try.func122, Try.ntmps122
  go_wp2_with fail
  go_loopw [5] (fun i wr => ∃ k : Nat, k ≤ ps.length ∧ i = .int .i64 k ∧ Hid (allB bits (ps.map (·.2)) = allB bits ((ps.drop k).map (·.2))) ∧ Quiet w wr) (fun i _ => ps.length - (intOf i).toNat)
  case atStart => exact ⟨0, Nat.zero_le _, rfl, rfl, Quiet.refl _⟩
  case round =>
    obtain ⟨k, hk, rfl, hr, hq⟩ := hrel
    by_cases hlt : k < ps.length
    · obtain ⟨b, off, u, z, rfl, hx, hcw, hz⟩ := hrow.tab HPS.out hlt
      rw [← hq.cell] at hcw
      have hzq := hz.below (hq.below _)
      have HZ := hide (HL.out z (List.mem_map.2 ⟨_, List.mem_of_getElem? (get_of_drop hx), rfl⟩))
      cases hb : trueB bits z with
      | true =>
        have HF := hide (show allB bits (ps.map (·.2)) = allB bits ((ps.drop (k + 1)).map (·.2)) by rw [hr.out, hx]; simp [allB_cons, hb])
        clear hx
        go_wp2_with (go_at_call 121; refine (s_l5True _ _ _ _ hzq HZ.out h0).mono ?_; rintro e w1 ⟨rfl, hq1⟩)
        go_roundw
        case rel => exact ⟨k + 1, by omega, by go_num, HF.out, hq.trans hq1⟩
        case measure => simp [intOf]; omega
      | false =>
        have HF := hide (show allB bits (ps.map (·.2)) = false by rw [hr.out, hx]; simp [allB_cons, hb])
        clear hx
        go_wp2_with (go_at_call 121; refine (s_l5True _ _ _ _ hzq HZ.out h0).mono ?_; rintro e w1 ⟨rfl, hq1⟩)
        go_ret
        exact ⟨by rw [HF.out]; rfl, hq.trans hq1⟩
    · obtain rfl : k = ps.length := by omega
      go_wp2_with fail
      go_ret
      exact ⟨by rw [hr.out, List.drop_length]; rfl, hq⟩

set_option maxHeartbeats 400000 in
theorem g_IndexFuncT {hi : Nat} (A : Option Addr) (c g : Nat) (lb : Array Value) (vs : List Value) (bs : List Bool) (w : World) (hc : vs.length ≤ c) (hm : c ≤ maxLen) (hrow : Row hi w A vs) (hl : bs.length = vs.length)
    (eg : ∀ args W, (callFunc g args).run Try.prog W = .ok (.enter g args) W) (hp : Answers Try.prog g lb vs bs w) :
    Calls Try.prog 130 #[.slice A vs.length c, .func (.func g) #[] lb] w fun e w' => e = .returned (.int .i64 (firstT bs 0)) ∧ Below w.heap.size w w' := by
  unfold maxLen at hm
  have HP := hide hp
  have HL := hide hl
  clear hp hl
  go_enter Try.func130, Try.ntmps130
  go_wp2_with fail
  go_loopw [8] (fun i wr => ∃ k : Nat, k ≤ vs.length ∧ i = .int .i64 k ∧ Hid (firstT bs 0 = firstT (bs.drop k) k) ∧ Below w.heap.size w wr) (fun i _ => vs.length - (intOf i).toNat)
  case atStart => exact ⟨0, Nat.zero_le _, rfl, rfl, Below.refl _ _⟩
  case round =>
    obtain ⟨k, hk, rfl, hr, hbel⟩ := hrel
    by_cases hlt : k < vs.length
    · obtain ⟨b, off, rfl, hcw⟩ := hrow.at_ hlt
      obtain ⟨u, hu⟩ : ∃ u, vs[k] = u := ⟨_, rfl⟩
      rw [hu] at hcw
      have hcr := below_old hbel _ _ hcw
      have hbk : bs.drop k = bs[k]'(by rw [HL.out]; exact hlt) :: bs.drop (k + 1) := List.drop_eq_getElem_cons _
      obtain ⟨t, ht⟩ : ∃ t, bs[k]'(by rw [HL.out]; exact hlt) = t := ⟨_, rfl⟩
      rw [ht] at hbk
      have hpk := HP.out k u t (by rw [List.getElem?_eq_getElem hlt, hu]) (get_of_drop hbk) wr hbel
      have HPK := hide hpk
      have HX := hide hbk
      clear hu hbk hpk ht hcw
      go_wp2_with fail
      refine HPK.out.mono ?_
      rintro e w1 ⟨rfl, hb1⟩
      have hbel1 := hbel.trans (hb1.mono hbel.size)
      cases t with
      | true =>
        go_wp2_with fail
        go_ret
        exact ⟨by rw [hr.out, HX.out]; rfl, hbel1⟩
      | false =>
        go_wp2_with fail
        go_roundw
        case rel => exact ⟨k + 1, by omega, by go_num, by rw [hr.out, HX.out]; rfl, hbel1⟩
        case measure => simp [intOf]; omega
    · obtain rfl : k = vs.length := by omega
      go_wp2_with fail
      go_ret
      exact ⟨by rw [hr.out, ← HL.out, List.drop_length]; rfl, hbel⟩

theorem g_ContainsFuncT {hi : Nat} (A : Option Addr) (c g : Nat) (lb : Array Value) (vs : List Value) (bs : List Bool) (w : World) (hc : vs.length ≤ c) (hm : c ≤ maxLen) (hrow : Row hi w A vs) (hl : bs.length = vs.length)
    (eg : ∀ args W, (callFunc g args).run Try.prog W = .ok (.enter g args) W) (hp : Answers Try.prog g lb vs bs w) :
    Calls Try.prog 97 #[.slice A vs.length c, .func (.func g) #[] lb] w fun e w' => e = .returned (.bool (bs.any id)) ∧ Below w.heap.size w w' := by
  rw [← firstT_any bs 0]
  go_enter Try.func97, Try.ntmps97
  go_wp2_with (go_at_call 130; refine (g_IndexFuncT A c g lb vs bs w hc hm hrow hl eg hp).mono ?_; rintro e w1 ⟨rfl, hb1⟩)
  go_ret
  exact ⟨rfl, hb1⟩

theorem i_isModel1 {hi : Nat} (v : Value) (zs : List Int) (bits : Int) (B : Nat) (w : World) (hc : w.cell? ⟨B, 0, none⟩ = some (.int .i64 bits)) (h : Ints hi w v zs) (hl : ∀ l ∈ zs, l ≠ 0 ∧ -12 ≤ l ∧ l ≤ 12) (h0 : 0 ≤ bits) :
    Calls Try.prog 141 #[v, .pointer (some ⟨B, 0, none⟩)] w fun e w' => e = .returned (.bool (!trueB bits zs)) ∧ Below w.heap.size w w' := by
  have HL := hide hl
  clear hl
  go_enter Try.func141, Try.ntmps141
  go_wp2_with (go_at_call 86; refine (i_holds _ _ _ _ h HL.out h0).mono ?_; rintro e w1 ⟨rfl, hb1⟩)
  go_ret
  exact ⟨rfl, hb1⟩

theorem allB_any (bits : Int) (t : List (List Int)) : (!(t.map fun c => !trueB bits c).any id) = allB bits t := by
  unfold allB
  induction t with
  | nil => rfl
  | cons x r ih =>
    simp only [List.map_cons, List.any_cons, List.all_cons, id, ← ih]
    cases trueB bits x <;> simp

set_option maxHeartbeats 400000 in
theorem i_isModel {hi : Nat} (v : Value) (t : List (List Int)) (bits : Int) (w : World) (h : Tab hi w v t) (hl : ∀ c ∈ t, ∀ l ∈ c, l ≠ 0 ∧ -12 ≤ l ∧ l ≤ 12) (h0 : 0 ≤ bits) :
    Calls Try.prog 124 #[v, .int .i64 bits] w fun e w' => e = .returned (.bool (allB bits t)) ∧ Below w.heap.size w w' := by
  have eg := Go.Proofs.enters_of Try.func141 (by kernel_rfl) rfl
  rw [← allB_any]
  obtain ⟨A, c, ps, rfl, hc, hm, rfl, hrow, hps⟩ := h.open_
  have hal : Below w.heap.size w (w.alloc (.cells #[.int .i64 bits] 3)) := (Below.refl _ _).alloc (Nat.le_refl _) _
  have hbox : (w.alloc (.cells #[.int .i64 bits] 3)).cell? ⟨w.heap.size, 0, none⟩ = some (.int .i64 bits) := by simp
  have hrow' := hrow.below hal
  have hp : Answers Try.prog 141 #[.pointer (some ⟨w.heap.size, 0, none⟩)] (ps.map (·.1)) (ps.map fun p => !trueB bits p.2) (w.alloc (.cells #[.int .i64 bits] 3)) := by
    intro j u bb hu hb W hW
    rw [List.getElem?_map] at hu hb
    obtain ⟨p, hp, rfl⟩ := Option.map_eq_some_iff.1 hu
    rw [hp] at hb
    obtain rfl : (!trueB bits p.2) = bb := by simpa using hb
    have hmem := List.mem_of_getElem? hp
    exact i_isModel1 p.1 p.2 bits w.heap.size W (below_old hW _ _ hbox) (((hps p hmem).below hal).below hW) (hl _ (List.mem_map.2 ⟨p, hmem, rfl⟩)) h0
  have HP := hide hp
  have hlen : ps.length = (ps.map (·.1)).length := by simp
  have HLN := hide hlen
  clear hp hbox hl hlen hps h
  go_enter Try.func124, Try.ntmps124
  go_wp2_with fail
  rw [HLN.out]
  refine (g_ContainsFuncT A c _ _ _ _ _ (by simpa using hc) hm hrow' (by simp) eg HP.out).mono ?_
  rintro e w1 ⟨rfl, hb1⟩
  go_wp2_with fail
  go_ret
  exact ⟨ret_bool (by simp [List.any_map, Function.comp_def]), hal.trans (hb1.mono (by simp))⟩

end Go.Proofs.Ytkmkdfogpdndoaa
