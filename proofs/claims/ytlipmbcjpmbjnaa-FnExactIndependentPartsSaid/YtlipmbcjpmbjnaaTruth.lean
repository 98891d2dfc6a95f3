/- The walks: clauses and formulas under bits. -/
import Derived.Test.YtlipmbcjpmbjnaaBase
import Derived.Test.YtlipmbcjpmbjnaaClause
import Derived.Test.YtlipmbcjpmbjnaaHas
import Derived.Test.YtlipmbcjpmbjnaaTab
namespace Go.Proofs.Ytlipmbcjpmbjnaa
open Go.RowKit
set_option linter.unusedVariables false

set_option maxHeartbeats 400000 in
theorem s_l5True {hi : Nat} (v : Value) (zs : List Int) (bits : Int) (w : World) (h : Ints hi w v zs) (hl : ∀ l ∈ zs, l ≠ 0 ∧ -12 ≤ l ∧ l ≤ 12) (h0 : 0 ≤ bits) :
    Calls Try.prog 95 #[v, .int .i64 bits] w fun e w' => e = .returned (.bool (trueB bits zs)) ∧ Quiet w w' := by
  obtain ⟨A, c, rfl, hc, hm, hrow⟩ := h
  unfold maxLen at hm
  have HL := hide hl
  clear hl
  go_enter Try.func95, Try.ntmps95
  go_wp2_with fail
  go_loopw [5] (fun i wr => ∃ k : Nat, k ≤ zs.length ∧ i = .int .i64 k ∧ Hid (trueB bits zs = trueB bits (zs.drop k)) ∧ Quiet w wr) (fun i _ => zs.length - (intOf i).toNat)
  case atStart => exact ⟨0, Nat.zero_le _, rfl, rfl, Quiet.refl _⟩
  case round =>
    obtain ⟨k, hk, rfl, hr, hq⟩ := hrel
    by_cases hlt : k < zs.length
    · obtain ⟨b, off, x, rfl, hx, hcw⟩ := hrow.int hlt
      rw [← hq.cell] at hcw
      obtain ⟨m, hm11, hv, _⟩ := lit_var (HL.out x (List.mem_of_getElem? (get_of_drop hx)))
      have HV := hide hv
      have HT := hide (trueL_at (bits := bits) hv)
      clear hv
      cases hb : bitB bits m == decide (0 < x) with
      | true =>
        have HF := hide (show trueB bits zs = true by rw [hr.out, hx, trueB_cons, HT.out, hb]; rfl)
        have hb' := hb
        unfold bitB at hb'
        clear hx
        go_wp2_with fail
        go_quiet ((go_at_call 36; exact quietE (HV.out ▸ s_l2Var _ _)))
        go_wp2_with fail
        go_ret
        exact ⟨by rw [HF.out]; rfl, hq.drewN _⟩
      | false =>
        have HF := hide (show trueB bits zs = trueB bits (zs.drop (k + 1)) by rw [hr.out, hx, trueB_cons, HT.out, hb]; rfl)
        have hb' := hb
        unfold bitB at hb'
        clear hx
        go_wp2_with fail
        go_quiet ((go_at_call 36; exact quietE (HV.out ▸ s_l2Var _ _)))
        go_wp2_with fail
        go_roundw
        case rel => exact ⟨k + 1, by omega, by go_num, HF.out, hq.drewN _⟩
        case measure => simp [intOf]; omega
    · obtain rfl : k = zs.length := by omega
      go_wp2_with fail
      go_ret
      exact ⟨by rw [hr.out, List.drop_length]; rfl, hq⟩

theorem i_holds1 (x bits : Int) (B : Nat) (w : World) (hc : w.cell? ⟨B, 0, none⟩ = some (.int .i64 bits)) (hx : x ≠ 0 ∧ -12 ≤ x ∧ x ≤ 12) (h0 : 0 ≤ bits) :
    Calls Try.prog 159 #[.int .i64 x, .pointer (some ⟨B, 0, none⟩)] w fun e w' => e = .returned (.bool (trueL bits x)) ∧ Quiet w w' := by
  obtain ⟨m, hm11, hv, ha⟩ := lit_var hx
  rw [trueL_at hv]
  have HA := hide ha
  clear ha hv
  go_enter Try.func159, Try.ntmps159
  go_wp2_with fail
  go_quiet ((go_at_call 71; exact quietE (HA.out ▸ i_abs _ _)))
  go_wp2_with fail
  go_ret
  exact ⟨rfl, ⟨_, rfl⟩⟩

set_option maxHeartbeats 400000 in
theorem i_holds {hi : Nat} (v : Value) (zs : List Int) (bits : Int) (w : World) (h : Ints hi w v zs) (hl : ∀ l ∈ zs, l ≠ 0 ∧ -12 ≤ l ∧ l ≤ 12) (h0 : 0 ≤ bits) :
    Calls Try.prog 157 #[v, .int .i64 bits] w fun e w' => e = .returned (.bool (trueB bits zs)) ∧ Below w.heap.size w w' := by
  have eg := Go.Proofs.enters_of Try.func159 (by kernel_rfl) rfl
  obtain ⟨A, c, rfl, hc, hm, hrow⟩ := h
  have hal : Below w.heap.size w (w.alloc (.cells #[.int .i64 bits] 3)) := (Below.refl _ _).alloc (Nat.le_refl _) _
  have hbox : (w.alloc (.cells #[.int .i64 bits] 3)).cell? ⟨w.heap.size, 0, none⟩ = some (.int .i64 bits) := by simp
  have hrow' := hrow.below hal
  have hp : Answers Try.prog 159 #[.pointer (some ⟨w.heap.size, 0, none⟩)] (ic zs) (zs.map (trueL bits)) (w.alloc (.cells #[.int .i64 bits] 3)) := by
    intro j u bb hu hb W hW
    rw [List.getElem?_map] at hu hb
    obtain ⟨z, hz, rfl⟩ := Option.map_eq_some_iff.1 hu
    rw [hz] at hb
    obtain rfl : trueL bits z = bb := by simpa using hb
    exact (i_holds1 z bits w.heap.size W (below_old hW _ _ hbox) (hl z (List.mem_of_getElem? hz)) h0).mono fun e w' ⟨he, hq⟩ => ⟨he, hq.below _⟩
  have HP := hide hp
  clear hp hbox hl
  go_enter Try.func157, Try.ntmps157
  go_wp2_with fail
  refine (g_ContainsFunc A c _ _ zs _ _ hc hm hrow' (by simp) eg HP.out).mono ?_
  rintro e w1 ⟨rfl, hb1⟩
  go_wp2_with fail
  go_ret
  exact ⟨ret_bool (by simp [trueB]), hal.trans (hb1.mono (by simp))⟩

set_option maxHeartbeats 400000 in
theorem s_l5All {hi : Nat} (v : Value) (t : List (List Int)) (bits : Int) (w : World) (h : Tab hi w v t) (hl : ∀ c ∈ t, ∀ l ∈ c, l ≠ 0 ∧ -12 ≤ l ∧ l ≤ 12) (h0 : 0 ≤ bits) :
    Calls Try.prog 96 #[v, .int .i64 bits] w fun e w' => e = .returned (.bool (allB bits t)) ∧ Quiet w w' := by
  obtain ⟨A, c, ps, rfl, hc, hm, rfl, hrow, hps⟩ := h.open_
  unfold maxLen at hm
  have HL := hide hl
  have HPS := hide hps
  clear hl hps h
  go_enter Try.func96, Try.ntmps96
  go_wp2_with fail
  go_loopw [5] (fun i wr => ∃ k : Nat, k ≤ ps.length ∧ i = .int .i64 k ∧ Hid (allB bits (ps.map (·.2)) = allB bits ((ps.drop k).map (·.2))) ∧ Quiet w wr) (fun i _ => ps.length - (intOf i).toNat)
  case atStart => exact ⟨0, Nat.zero_le _, rfl, rfl, Quiet.refl _⟩
  case round =>
    obtain ⟨k, hk, rfl, hr, hq⟩ := hrel
    by_cases hlt : k < ps.length
    · obtain ⟨b, off, u, z, rfl, hx, hcw, hz⟩ := hrow.tab HPS.out hlt
      rw [← hq.cell] at hcw
      have hzq := hz.below (hq.below _)
      have HZ := hide (HL.out z (List.mem_map.2 ⟨_, List.mem_of_getElem? (get_of_drop hx), rfl⟩))
      cases hb : trueB bits z with
      | true =>
        have HF := hide (show allB bits (ps.map (·.2)) = allB bits ((ps.drop (k + 1)).map (·.2)) by rw [hr.out, hx]; simp [allB_cons, hb])
        clear hx
        go_wp2_with (go_at_call 95; refine (s_l5True _ _ _ _ hzq HZ.out h0).mono ?_; rintro e w1 ⟨rfl, hq1⟩)
        go_roundw
        case rel => exact ⟨k + 1, by omega, by go_num, HF.out, hq.trans hq1⟩
        case measure => simp [intOf]; omega
      | false =>
        have HF := hide (show allB bits (ps.map (·.2)) = false by rw [hr.out, hx]; simp [allB_cons, hb])
        clear hx
        go_wp2_with (go_at_call 95; refine (s_l5True _ _ _ _ hzq HZ.out h0).mono ?_; rintro e w1 ⟨rfl, hq1⟩)
        go_ret
        exact ⟨by rw [HF.out]; rfl, hq.trans hq1⟩
    · obtain rfl : k = ps.length := by omega
      go_wp2_with fail
      go_ret
      exact ⟨by rw [hr.out, List.drop_length]; rfl, hq⟩

set_option maxHeartbeats 400000 in
theorem g_IndexFuncT {hi : Nat} (A : Option Addr) (c g : Nat) (lb : Array Value) (vs : List Value) (bs : List Bool) (w : World) (hc : vs.length ≤ c) (hm : c ≤ maxLen) (hrow : Row hi w A vs) (hl : bs.length = vs.length)
    (eg : ∀ args W, (callFunc g args).run Try.prog W = .ok (.enter g args) W) (hp : Answers Try.prog g lb vs bs w) :
    Calls Try.prog 105 #[.slice A vs.length c, .func (.func g) #[] lb] w fun e w' => e = .returned (.int .i64 (firstT bs 0)) ∧ Below w.heap.size w w' := by
  unfold maxLen at hm
  have HP := hide hp
  have HL := hide hl
  clear hp hl
  go_enter Try.func105, Try.ntmps105
  go_wp2_with fail
  go_loopw [8] (fun i wr => ∃ k : Nat, k ≤ vs.length ∧ i = .int .i64 k ∧ Hid (firstT bs 0 = firstT (bs.drop k) k) ∧ Below w.heap.size w wr) (fun i _ => vs.length - (intOf i).toNat)
  case atStart => exact ⟨0, Nat.zero_le _, rfl, rfl, Below.refl _ _⟩
  case round =>
    obtain ⟨k, hk, rfl, hr, hbel⟩ := hrel
    by_cases hlt : k < vs.length
    · obtain ⟨b, off, rfl, hcw⟩ := hrow.at_ hlt
      obtain ⟨u, hu⟩ : ∃ u, vs[k] = u := ⟨_, rfl⟩
      rw [hu] at hcw
      have hcr := below_old hbel _ _ hcw
      have hbk : bs.drop k = bs[k]'(by rw [HL.out]; exact hlt) :: bs.drop (k + 1) := List.drop_eq_getElem_cons _
      obtain ⟨t, ht⟩ : ∃ t, bs[k]'(by rw [HL.out]; exact hlt) = t := ⟨_, rfl⟩
      rw [ht] at hbk
      have hpk := HP.out k u t (by rw [List.getElem?_eq_getElem hlt, hu]) (get_of_drop hbk) wr hbel
      have HPK := hide hpk
      have HX := hide hbk
      clear hu hbk hpk ht hcw
      go_wp2_with fail
      refine HPK.out.mono ?_
      rintro e w1 ⟨rfl, hb1⟩
      have hbel1 := hbel.trans (hb1.mono hbel.size)
      cases t with
      | true =>
        go_wp2_with fail
        go_ret
        exact ⟨by rw [hr.out, HX.out]; rfl, hbel1⟩
      | false =>
        go_wp2_with fail
        go_roundw
        case rel => exact ⟨k + 1, by omega, by go_num, by rw [hr.out, HX.out]; rfl, hbel1⟩
        case measure => simp [intOf]; omega
    · obtain rfl : k = vs.length := by omega
      go_wp2_with fail
      go_ret
      exact ⟨by rw [hr.out, ← HL.out, List.drop_length]; rfl, hbel⟩

theorem g_ContainsFuncT {hi : Nat} (A : Option Addr) (c g : Nat) (lb : Array Value) (vs : List Value) (bs : List Bool) (w : World) (hc : vs.length ≤ c) (hm : c ≤ maxLen) (hrow : Row hi w A vs) (hl : bs.length = vs.length)
    (eg : ∀ args W, (callFunc g args).run Try.prog W = .ok (.enter g args) W) (hp : Answers Try.prog g lb vs bs w) :
    Calls Try.prog 74 #[.slice A vs.length c, .func (.func g) #[] lb] w fun e w' => e = .returned (.bool (bs.any id)) ∧ Below w.heap.size w w' := by
  rw [← firstT_any bs 0]
  go_enter Try.func74, Try.ntmps74
  go_wp2_with (go_at_call 105; refine (g_IndexFuncT A c g lb vs bs w hc hm hrow hl eg hp).mono ?_; rintro e w1 ⟨rfl, hb1⟩)
  go_ret
  exact ⟨rfl, hb1⟩

theorem i_isModel1 {hi : Nat} (v : Value) (zs : List Int) (bits : Int) (B : Nat) (w : World) (hc : w.cell? ⟨B, 0, none⟩ = some (.int .i64 bits)) (h : Ints hi w v zs) (hl : ∀ l ∈ zs, l ≠ 0 ∧ -12 ≤ l ∧ l ≤ 12) (h0 : 0 ≤ bits) :
    Calls Try.prog 156 #[v, .pointer (some ⟨B, 0, none⟩)] w fun e w' => e = .returned (.bool (!trueB bits zs)) ∧ Below w.heap.size w w' := by
  have HL := hide hl
  clear hl
  go_enter Try.func156, Try.ntmps156
  go_wp2_with (go_at_call 157; refine (i_holds _ _ _ _ h HL.out h0).mono ?_; rintro e w1 ⟨rfl, hb1⟩)
  go_ret
  exact ⟨rfl, hb1⟩

theorem allB_any (bits : Int) (t : List (List Int)) : (!(t.map fun c => !trueB bits c).any id) = allB bits t := by
  unfold allB
  induction t with
  | nil => rfl
  | cons x r ih =>
    simp only [List.map_cons, List.any_cons, List.all_cons, id, ← ih]
    cases trueB bits x <;> simp

set_option maxHeartbeats 400000 in
theorem i_isModel {hi : Nat} (v : Value) (t : List (List Int)) (bits : Int) (w : World) (h : Tab hi w v t) (hl : ∀ c ∈ t, ∀ l ∈ c, l ≠ 0 ∧ -12 ≤ l ∧ l ≤ 12) (h0 : 0 ≤ bits) :
    Calls Try.prog 150 #[v, .int .i64 bits] w fun e w' => e = .returned (.bool (allB bits t)) ∧ Below w.heap.size w w' := by
  have eg := Go.Proofs.enters_of Try.func156 (by kernel_rfl) rfl
  rw [← allB_any]
  obtain ⟨A, c, ps, rfl, hc, hm, rfl, hrow, hps⟩ := h.open_
  have hal : Below w.heap.size w (w.alloc (.cells #[.int .i64 bits] 3)) := (Below.refl _ _).alloc (Nat.le_refl _) _
  have hbox : (w.alloc (.cells #[.int .i64 bits] 3)).cell? ⟨w.heap.size, 0, none⟩ = some (.int .i64 bits) := by simp
  have hrow' := hrow.below hal
  have hp : Answers Try.prog 156 #[.pointer (some ⟨w.heap.size, 0, none⟩)] (ps.map (·.1)) (ps.map fun p => !trueB bits p.2) (w.alloc (.cells #[.int .i64 bits] 3)) := by
    intro j u bb hu hb W hW
    rw [List.getElem?_map] at hu hb
    obtain ⟨p, hp, rfl⟩ := Option.map_eq_some_iff.1 hu
    rw [hp] at hb
    obtain rfl : (!trueB bits p.2) = bb := by simpa using hb
    have hmem := List.mem_of_getElem? hp
    exact i_isModel1 p.1 p.2 bits w.heap.size W (below_old hW _ _ hbox) (((hps p hmem).below hal).below hW) (hl _ (List.mem_map.2 ⟨p, hmem, rfl⟩)) h0
  have HP := hide hp
  have hlen : ps.length = (ps.map (·.1)).length := by simp
  have HLN := hide hlen
  clear hp hbox hl hlen hps h
  go_enter Try.func150, Try.ntmps150
  go_wp2_with fail
  rw [HLN.out]
  refine (g_ContainsFuncT A c _ _ _ _ _ (by simpa using hc) hm hrow' (by simp) eg HP.out).mono ?_
  rintro e w1 ⟨rfl, hb1⟩
  go_wp2_with fail
  go_ret
  exact ⟨ret_bool (by simp [List.any_map, Function.comp_def]), hal.trans (hb1.mono (by simp))⟩

end Go.Proofs.Ytlipmbcjpmbjnaa
