/- The walks: whether an assignment is an autarky of a formula. -/
import Derived.Test.YtnkdkdojmloohaaValC
namespace Go.Proofs.Ytnkdkdojmloohaa
open Go.RowKit
set_option linter.unusedVariables false

def meetI (b a : List Int) : Bool := a.any fun x => hasI b x || hasI b (wrap64 (-x))

def autB (a c : List Int) : Bool := meetI a c && decide (valueI a (-1) c < 1)

def fIsAutarky (f : CnfL) (a : List Int) : Bool × Bool := if goodB f && clauseB f.1 a then (!(f.2.any (autB a)), true) else (false, false)

set_option maxHeartbeats 400000 in
theorem s_l2Meet {hi hi' : Nat} (va vb : Value) (a b : List Int) (w : World) (h : Ints hi w va a) (h2 : Ints hi' w vb b) :
    Calls Try.prog 75 #[va, vb] w fun e w' => e = .returned (.bool (meetI b a)) ∧ w = w' := by
  obtain ⟨A, c, rfl, hc, hm, hrow⟩ := h
  unfold maxLen at hm
  go_enter Try.func75, Try.ntmps75
  go_wp2_with fail
  go_loop [5] (fun i => ∃ k : Nat, k ≤ a.length ∧ i = .int .i64 k ∧ Hid (meetI b a = meetI b (a.drop k))) (fun i => a.length - (intOf i).toNat)
  case atStart => exact ⟨0, Nat.zero_le _, rfl, rfl⟩
  case round =>
    obtain ⟨k, hk, rfl, hr⟩ := hrel
    by_cases hlt : k < a.length
    · obtain ⟨bk, off, y, rfl, hx, hcw⟩ := hrow.int hlt
      cases hb : hasI b y with
      | true =>
        have HF := hide (show meetI b a = true by rw [hr.out, hx]; simp [meetI, hb])
        clear hx
        go_wp2_with (go_at_call 103; refine (s_l2Has _ _ _ _ h2).mono ?_; rintro e w1 ⟨rfl, rfl⟩)
        go_ret
        exact ⟨by rw [HF.out]; rfl, rfl⟩
      | false =>
        cases hb2 : hasI b (wrap64 (-y)) with
        | true =>
          have HF := hide (show meetI b a = true by rw [hr.out, hx]; simp [meetI, hb, hb2])
          clear hx
          go_wp2_with (go_at_call 103; refine (s_l2Has _ _ _ _ h2).mono ?_; rintro e w1 ⟨rfl, rfl⟩)
          go_ret
          exact ⟨by rw [HF.out]; rfl, rfl⟩
        | false =>
          have HF := hide (show meetI b a = meetI b (a.drop (k + 1)) by rw [hr.out, hx]; simp [meetI, hb, hb2])
          clear hx
          go_wp2_with (go_at_call 103; refine (s_l2Has _ _ _ _ h2).mono ?_; rintro e w1 ⟨rfl, rfl⟩)
          go_round
          case rel => exact ⟨k + 1, by omega, by go_num, HF.out⟩
          case measure => simp [intOf]; omega
    · obtain rfl : k = a.length := by omega
      go_wp2_with fail
      go_ret
      exact ⟨by rw [hr.out, List.drop_length]; rfl, rfl⟩

theorem i_touches1 {hi : Nat} (x : Int) (vb : Value) (b : List Int) (B : Nat) (w : World) (hc : w.cell? ⟨B, 0, none⟩ = some vb) (h2 : Ints hi w vb b) :
    Calls Try.prog 106 #[.int .i64 x, .pointer (some ⟨B, 0, none⟩)] w fun e w' => e = .returned (.bool (hasI b x || hasI b (wrap64 (-x)))) ∧ w = w' := by
  cases hb : hasI b x with
  | true =>
    go_enter Try.func106, Try.ntmps106
    go_wp2_with (go_at_call 107; refine (g_Contains _ _ _ _ h2).mono ?_; rintro e w1 ⟨rfl, rfl⟩)
    go_ret
    exact ⟨rfl, rfl⟩
  | false =>
    go_enter Try.func106, Try.ntmps106
    go_wp2_with (go_at_call 107; refine (g_Contains _ _ _ _ h2).mono ?_; rintro e w1 ⟨rfl, rfl⟩)
    go_ret
    exact ⟨ret_bool (by simp), rfl⟩

set_option maxHeartbeats 400000 in
theorem i_touches {hi hi' : Nat} (va vb : Value) (a b : List Int) (w : World) (h : Ints hi w va a) (h2 : Ints hi' w vb b) :
    Calls Try.prog 79 #[va, vb] w fun e w' => e = .returned (.bool (meetI b a)) ∧ Below w.heap.size w w' := by
  have eg := Go.Proofs.enters_of Try.func106 (by kernel_rfl) rfl
  obtain ⟨A, c, rfl, hc, hm, hrow⟩ := h
  obtain ⟨A2, c2, rfl, hc2, hm2, hrow2⟩ := id h2
  clear hrow2
  have hal : Below w.heap.size w (w.alloc (.cells #[.slice A2 b.length c2] 31)) := (Below.refl _ _).alloc (Nat.le_refl _) _
  have hbox : (w.alloc (.cells #[.slice A2 b.length c2] 31)).cell? ⟨w.heap.size, 0, none⟩ = some (.slice A2 b.length c2) := by simp
  have hrow' := hrow.below hal
  have h2' := h2.below hal
  have hp : Answers Try.prog 106 #[.pointer (some ⟨w.heap.size, 0, none⟩)] (ic a) (a.map fun l => hasI b l || hasI b (wrap64 (-l))) (w.alloc (.cells #[.slice A2 b.length c2] 31)) := by
    intro j u bb hu hb W hW
    rw [List.getElem?_map] at hu hb
    obtain ⟨z, hz, rfl⟩ := Option.map_eq_some_iff.1 hu
    rw [hz] at hb
    obtain rfl : (hasI b z || hasI b (wrap64 (-z))) = bb := by simpa using hb
    refine (i_touches1 z _ b w.heap.size W (below_old hW _ _ hbox) (h2'.below hW)).mono fun e w' ⟨he, hq⟩ => ⟨he, by rw [← hq]; exact Below.refl _ _⟩
  have HP := hide hp
  have HBX := hide hbox
  clear hp hbox
  go_enter Try.func79, Try.ntmps79
  go_wp2_with fail
  refine (g_ContainsFunc A c _ _ a _ _ hc hm hrow' (by simp) eg HP.out).mono ?_
  rintro e w1 ⟨rfl, hb1⟩
  go_wp2_with fail
  go_ret
  exact ⟨ret_bool (by simp [meetI]), hal.trans (hb1.mono (by simp))⟩

set_option maxHeartbeats 400000 in
theorem i_IsAutarky1 {hi hi' : Nat} (v : Value) (c : List Int) (vb : Value) (a : List Int) (B : Nat) (w : World) (hc : w.cell? ⟨B, 0, none⟩ = some vb) (h : Ints hi w v c) (h2 : Ints hi' w vb a) :
    Calls Try.prog 78 #[v, .pointer (some ⟨B, 0, none⟩)] w fun e w' => e = .returned (.bool (autB a c)) ∧ Below w.heap.size w w' := by
  cases hmt : meetI a c with
  | false =>
    go_enter Try.func78, Try.ntmps78
    go_wp2_with (go_at_call 79; refine (i_touches _ _ c a _ h h2).mono ?_; rintro e w1 ⟨rfl, hb1⟩)
    go_ret
    exact ⟨ret_bool (by simp [autB, hmt]), hb1⟩
  | true =>
    go_enter Try.func78, Try.ntmps78
    go_wp2_with (first | (go_at_call 79; refine (i_touches _ _ c a _ h h2).mono ?_; rintro e w1 ⟨rfl, hb1⟩; have hc' := below_old hb1 _ _ hc) | (go_at_call 80; refine (i_clauseValue _ _ c a _ (h.below hb1) (h2.below hb1)).mono ?_; rintro e w2 ⟨rfl, rfl⟩))
    go_ret
    exact ⟨ret_bool (by simp [autB, hmt]), hb1⟩

set_option maxHeartbeats 800000 in
theorem S_IsAutarky {hi hi' : Nat} (v : Value) (f : CnfL) (va : Value) (a : List Int) (r0 : Bool) (r1 : Bool) (w : World) (h : RCnf hi w v f) (h2 : Ints hi' w va a) (hn0 : szC f ≤ 1048576) (hn1 : a.length ≤ 1048576) (hR : fIsAutarky f a = (r0, r1)) :
    Calls Try.prog 40 #[v, va] w fun e w' => e = .returned (.tuple #[.bool r0, .bool r1]) ∧ Below w.heap.size w w' := by
  obtain ⟨cv, rfl, ht⟩ := h
  obtain ⟨vars, t⟩ := f
  dsimp only at ht ⊢
  obtain ⟨A, c, ps, rfl, hc, hm, rfl, hrow, hps⟩ := id ht.open_
  unfold maxLen at hm
  obtain ⟨wb, hwb⟩ : ∃ wb, wb = w.alloc (.cells #[.int .i64 vars, .slice A ps.length c] 27) := ⟨_, rfl⟩
  have hal : Below w.heap.size w wb := by rw [hwb]; exact (Below.refl _ _).alloc (Nat.le_refl _) _
  have x01 : wb.cell? ⟨w.heap.size, 1, none⟩ = some (.slice A ps.length c) := by rw [hwb]; simp
  have htb := ht.below hal
  have h2b := h2.below hal
  have hrowb := hrow.below hal
  have hps' : ∀ p ∈ ps, Ints hi wb p.1 p.2 := fun p hp => (hps p hp).below hal
  have HWB := hide hwb
  clear hwb hps hrow ht
  cases hg : (goodB (vars, ps.map (·.2)) && clauseB vars a) with
  | false =>
    obtain ⟨rfl, rfl⟩ : r0 = false ∧ r1 = false := by
      simp only [fIsAutarky, hg] at hR
      injection hR with h1 h2
      exact ⟨h1.symm, h2.symm⟩
    clear hR
    go_enter Try.func40, Try.ntmps40
    go_wp2_with fail
    rw [← HWB.out]
    refine (s_l3Asked _ (vars, ps.map (·.2)) _ a _ ⟨_, rfl, htb⟩ h2b).mono ?_
    rintro e w1 ⟨rfl, hb1⟩
    rw [hg]
    go_wp2_with fail
    go_ret2
    exact ⟨rfl, hal.trans (hb1.mono hal.size)⟩
  | true =>
    obtain ⟨hr0, rfl⟩ : r0 = !((ps.map (·.2)).any (autB a)) ∧ r1 = true := by
      simp only [fIsAutarky, hg, if_true] at hR
      injection hR with h1 h2
      exact ⟨h1.symm, h2.symm⟩
    have HR := hide hr0
    clear hR hr0
    go_enter Try.func40, Try.ntmps40
    go_wp2_with fail
    rw [← HWB.out]
    refine (s_l3Asked _ (vars, ps.map (·.2)) _ a _ ⟨_, rfl, htb⟩ h2b).mono ?_
    rintro e w1 ⟨rfl, hb1⟩
    rw [hg]
    replace x01 := below_old hb1 _ _ x01
    replace h2b := h2b.below hb1
    replace hrowb := hrowb.below hb1
    replace hps' : ∀ p ∈ ps, Ints hi w1 p.1 p.2 := fun p hp => (hps' p hp).below hb1
    have HPS := hide hps'
    replace hal := hal.trans (hb1.mono hal.size)
    clear hb1 hps' htb hg
    go_wp2_with fail
    go_loopw [6] (fun i wr => ∃ k : Nat, k ≤ ps.length ∧ i = .int .i64 k ∧ Hid ((ps.map (·.2)).any (autB a) = ((ps.drop k).map (·.2)).any (autB a)) ∧ Quiet w1 wr) (fun i _ => ps.length - (intOf i).toNat)
    case atStart => exact ⟨0, Nat.zero_le _, rfl, rfl, Quiet.refl _⟩
    case round =>
      obtain ⟨k, hk, rfl, hr, hq⟩ := hrel
      have y01 := (hq.cell _).trans x01
      have har := h2b.below (hq.below _)
      by_cases hlt : k < ps.length
      · obtain ⟨b, off, u, z, rfl, hx, hcw, hz⟩ := hrowb.tab HPS.out hlt
        rw [← hq.cell] at hcw
        have hzq := hz.below (hq.below _)
        cases hmt : meetI a z with
        | false =>
          have HF := hide (show (ps.map (·.2)).any (autB a) = ((ps.drop (k + 1)).map (·.2)).any (autB a) by rw [hr.out, hx]; simp [autB, hmt])
          clear hx
          go_wp2_with (go_at_call 75; refine (s_l2Meet _ _ z a _ hzq har).mono ?_; rintro e w2 ⟨rfl, rfl⟩)
          go_roundw
          case rel => exact ⟨k + 1, by omega, by go_num, HF.out, hq⟩
          case measure => simp [intOf]; omega
        | true =>
          obtain ⟨q, hqv⟩ : ∃ q, valueI a (-1) z = q := ⟨_, rfl⟩
          by_cases hq1 : q < 1
          · have HF := hide (show (ps.map (·.2)).any (autB a) = true by rw [hr.out, hx]; simp [autB, hmt, hqv, hq1])
            clear hx
            go_wp2_with (first | (go_at_call 75; refine (s_l2Meet _ _ z a _ hzq har).mono ?_; rintro e w2 ⟨rfl, rfl⟩) | (go_at_call 76; refine (s_l3Value _ _ z a _ hzq har).mono ?_; rintro e w3 ⟨rfl, rfl⟩; rw [hqv]))
            go_ret2
            exact ⟨by rw [HR.out, HF.out]; rfl, hal.trans (hq.below _)⟩
          · have HF := hide (show (ps.map (·.2)).any (autB a) = ((ps.drop (k + 1)).map (·.2)).any (autB a) by rw [hr.out, hx]; simp [autB, hmt, hqv]; omega)
            have hq1' : 1 ≤ q := by omega
            clear hx
            go_wp2_with (first | (go_at_call 75; refine (s_l2Meet _ _ z a _ hzq har).mono ?_; rintro e w2 ⟨rfl, rfl⟩) | (go_at_call 76; refine (s_l3Value _ _ z a _ hzq har).mono ?_; rintro e w3 ⟨rfl, rfl⟩; rw [hqv]))
            go_roundw
            case rel => exact ⟨k + 1, by omega, by go_num, HF.out, hq⟩
            case measure => simp [intOf]; omega
      · obtain rfl : k = ps.length := by omega
        go_wp2_with fail
        go_ret2
        exact ⟨by rw [HR.out, hr.out, List.drop_length]; rfl, hal.trans (hq.below _)⟩

set_option maxHeartbeats 800000 in
theorem I_IsAutarky {hi hi' : Nat} (v : Value) (f : CnfL) (va : Value) (a : List Int) (r0 : Bool) (r1 : Bool) (w : World) (h : RCnf hi w v f) (h2 : Ints hi' w va a) (hn0 : szC f ≤ 1048576) (hn1 : a.length ≤ 1048576) (hR : fIsAutarky f a = (r0, r1)) :
    Calls Try.prog 41 #[v, va] w fun e w' => e = .returned (.tuple #[.bool r0, .bool r1]) ∧ Below w.heap.size w w' := by
  have eg := Go.Proofs.enters_of Try.func78 (by kernel_rfl) rfl
  obtain ⟨cv, rfl, ht⟩ := h
  obtain ⟨vars, t⟩ := f
  dsimp only at ht ⊢
  obtain ⟨A, c, ps, rfl, hc, hm, rfl, hrow, hps⟩ := id ht.open_
  obtain ⟨A2, c2, rfl, hc2, hm2, -⟩ := id h2
  obtain ⟨wb, hwb⟩ : ∃ wb, wb = (w.alloc (.cells #[.int .i64 vars, .slice A ps.length c] 27)).alloc (.cells #[.slice A2 a.length c2] 31) := ⟨_, rfl⟩
  have hal : Below w.heap.size w wb := by rw [hwb]; exact ((Below.refl _ _).alloc (Nat.le_refl _) _).alloc (by simp) _
  have x00 : wb.cell? ⟨w.heap.size, 0, none⟩ = some (.int .i64 vars) := by rw [hwb]; simp
  have x01 : wb.cell? ⟨w.heap.size, 1, none⟩ = some (.slice A ps.length c) := by rw [hwb]; simp
  have x10 : wb.cell? ⟨w.heap.size + 1, 0, none⟩ = some (.slice A2 a.length c2) := by rw [hwb]; simp
  have htb := ht.below hal
  have h2b := h2.below hal
  have hrowb := hrow.below hal
  have hps' : ∀ p ∈ ps, Ints hi wb p.1 p.2 := fun p hp => (hps p hp).below hal
  have HWB := hide hwb
  clear hwb hps hrow ht h2
  cases hg : goodB (vars, ps.map (·.2)) with
  | false =>
    obtain ⟨rfl, rfl⟩ : r0 = false ∧ r1 = false := by simpa [fIsAutarky, hg, eq_comm] using hR
    clear hR
    go_enter Try.func41, Try.ntmps41
    go_wp2_with fail
    rw [← HWB.out]
    refine (i_IsCnf _ (vars, ps.map (·.2)) _ ⟨_, rfl, htb⟩).mono ?_
    rintro e w1 ⟨rfl, hb1⟩
    rw [hg]
    go_wp2_with fail
    go_ret2
    exact ⟨rfl, hal.trans (hb1.mono hal.size)⟩
  | true =>
    cases hcl : clauseB vars a with
    | false =>
      obtain ⟨rfl, rfl⟩ : r0 = false ∧ r1 = false := by simpa [fIsAutarky, hg, hcl, eq_comm] using hR
      clear hR
      go_enter Try.func41, Try.ntmps41
      go_wp2_with fail
      rw [← HWB.out]
      refine (i_IsCnf _ (vars, ps.map (·.2)) _ ⟨_, rfl, htb⟩).mono ?_
      rintro e w1 ⟨rfl, hb1⟩
      rw [hg]
      replace x00 := below_old hb1 _ _ x00
      replace x10 := below_old hb1 _ _ x10
      go_wp2_with (go_at_call 71; refine (i_IsAssignment _ _ a _ (h2b.below hb1)).mono ?_; rintro e w2 ⟨rfl, hq2⟩)
      go_ret2
      exact ⟨rfl, (hal.trans (hb1.mono hal.size)).trans (hq2.below _)⟩
    | true =>
      obtain ⟨hr0, rfl⟩ : r0 = !((ps.map (·.2)).any (autB a)) ∧ r1 = true := by
        simp only [fIsAutarky, hg, hcl, Bool.and_self, if_true] at hR
        injection hR with h1 h2
        exact ⟨h1.symm, h2.symm⟩
      have HR := hide hr0
      clear hR hr0
      go_enter Try.func41, Try.ntmps41
      go_wp2_with fail
      rw [← HWB.out]
      refine (i_IsCnf _ (vars, ps.map (·.2)) _ ⟨_, rfl, htb⟩).mono ?_
      rintro e w1 ⟨rfl, hb1⟩
      rw [hg]
      replace x00 := below_old hb1 _ _ x00
      replace x01 := below_old hb1 _ _ x01
      replace x10 := below_old hb1 _ _ x10
      replace h2b := h2b.below hb1
      replace hrowb := hrowb.below hb1
      replace hps' : ∀ p ∈ ps, Ints hi w1 p.1 p.2 := fun p hp => (hps' p hp).below hb1
      have HPS := hide hps'
      replace hal := hal.trans (hb1.mono hal.size)
      clear hb1 hps' htb hg
      go_wp2_with (go_at_call 71; refine (i_IsAssignment _ _ a _ h2b).mono ?_; rintro e w2 ⟨rfl, hq2⟩; replace x01 := (hq2.cell _).trans x01; replace x10 := (hq2.cell _).trans x10; replace h2b := h2b.below (hq2.below _); replace hrowb := hrowb.below (hq2.below _); replace hal := hal.trans (hq2.below _))
      have hp : Answers Try.prog 78 #[.pointer (some ⟨w.heap.size + 1, 0, none⟩)] (ps.map (·.1)) (ps.map fun p => autB a p.2) w2 := by
        intro j u bb hu hb W hW
        rw [List.getElem?_map] at hu hb
        obtain ⟨p, hp, rfl⟩ := Option.map_eq_some_iff.1 hu
        rw [hp] at hb
        obtain rfl : autB a p.2 = bb := by simpa using hb
        have hmem := List.mem_of_getElem? hp
        exact i_IsAutarky1 p.1 p.2 _ a (w.heap.size + 1) W (below_old hW _ _ x10) (((HPS.out p hmem).below (hq2.below _)).below hW) (h2b.below hW)
      have hlen : ps.length = (ps.map (·.1)).length := by simp
      rw [hlen]
      refine (g_ContainsFuncT A c _ _ _ _ _ (by simpa using hc) hm hrowb (by simp) eg hp).mono ?_
      rintro e w3 ⟨rfl, hb3⟩
      have HA := hide (show ((ps.map fun p => autB a p.2).any id) = ((ps.map (·.2)).any (autB a)) by simp [List.any_map, Function.comp_def])
      rw [HA.out]
      have hr0 := HR.out
      obtain ⟨q, hq⟩ : ∃ q, (ps.map (·.2)).any (autB a) = q := ⟨_, rfl⟩
      rw [hq] at hr0 ⊢
      have HR0 := hide hr0
      clear hr0 hq HA HR hp hlen
      cases q
      · go_wp2_with fail
        go_ret2
        exact ⟨by rw [HR0.out]; rfl, hal.trans (hb3.mono hal.size)⟩
      · go_wp2_with fail
        go_ret2
        exact ⟨by rw [HR0.out]; rfl, hal.trans (hb3.mono hal.size)⟩

end Go.Proofs.Ytnkdkdojmloohaa
