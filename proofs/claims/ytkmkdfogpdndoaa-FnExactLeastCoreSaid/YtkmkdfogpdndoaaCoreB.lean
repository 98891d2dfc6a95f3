/- The walks: minimal cores. -/
import Derived.Test.YtkmkdfogpdndoaaDel
namespace Go.Proofs.Ytkmkdfogpdndoaa
open Go.RowKit
set_option linter.unusedVariables false

def minL (vars : Int) (t : List (List Int)) (a : List Int) (l : List Nat) : Bool := l.all fun k => !coreB vars t (skipL a k)
def fIsMinimalCore (f : CnfL) (a : List Int) : Bool × Bool :=
  if goodB f then (if idxB 0 ((f.2.length : Int) - 1) none a then (if coreB f.1 f.2 a then (minL f.1 f.2 a (rangeFrom 0 a.length), true) else (false, true)) else (false, false)) else (false, false)
theorem fmin_takes {f : CnfL} {a : List Int} (h : takesB f a = false) : fIsMinimalCore f a = (false, false) := by
  unfold takesB at h
  cases hg : goodB f with
  | false => simp [fIsMinimalCore, hg]
  | true => rw [hg] at h; simp at h; simp [fIsMinimalCore, hg, h]
theorem fmin_on {f : CnfL} {a : List Int} (h : takesB f a = true) : fIsMinimalCore f a = if coreB f.1 f.2 a then (minL f.1 f.2 a (rangeFrom 0 a.length), true) else (false, true) := by
  unfold takesB at h
  simp only [Bool.and_eq_true] at h
  unfold fIsMinimalCore
  rw [if_pos h.1, if_pos h.2]
theorem takesB_parts {f : CnfL} {a : List Int} (h : takesB f a = true) : goodB f = true ∧ idxB 0 ((f.2.length : Int) - 1) none a = true := by
  unfold takesB at h
  simpa using h

set_option maxHeartbeats 1600000 in
theorem I_IsMinimalCore {hi hi' : Nat} (v : Value) (f : CnfL) (va : Value) (a : List Int) (r0 : Bool) (r1 : Bool) (w : World) (h : RCnf hi w v f) (h2 : Ints hi' w va a) (hn0 : szC f ≤ 1048576) (hn1 : a.length ≤ 1048576) (hR : fIsMinimalCore f a = (r0, r1)) :
    Calls Try.prog 35 #[v, va] w fun e w' => e = .returned (.tuple #[.bool r0, .bool r1]) ∧ Below w.heap.size w w' := by
  obtain ⟨A, n, c, rfl, ht⟩ := h.open2
  obtain ⟨vars, t⟩ := f
  dsimp only at ht ⊢
  have hlen : t.length = n := by obtain ⟨A', c', ps', e, _⟩ := ht; injection e with _ e2; exact e2.symm
  obtain ⟨wb, hwb⟩ : ∃ wb, wb = w.alloc (.cells #[.int .i64 vars, .slice A n c] 29) := ⟨_, rfl⟩
  have hal : Below w.heap.size w wb := by rw [hwb]; exact (Below.refl _ _).alloc (Nat.le_refl _) _
  have x00 : wb.cell? ⟨w.heap.size, 0, none⟩ = some (.int .i64 vars) := by rw [hwb]; simp
  have x01 : wb.cell? ⟨w.heap.size, 1, none⟩ = some (.slice A n c) := by rw [hwb]; simp
  have htb := ht.top.below hal
  have h2b := h2.top.below hal
  have HWB := hide hwb
  clear hwb
  cases hg : takesB (vars, t) a with
  | false =>
    rw [fmin_takes hg] at hR
    obtain ⟨rfl, rfl⟩ : r0 = false ∧ r1 = false := by injection hR with h1 h2; exact ⟨h1.symm, h2.symm⟩
    clear hR
    cases hg1 : goodB (vars, t) with
    | false =>
      go_enter Try.func35, Try.ntmps35
      go_wp2_with fail
      rw [← HWB.out]
      refine (i_IsCnf _ (vars, t) _ ⟨_, rfl, htb⟩).mono ?_
      rintro e w1 ⟨rfl, hb1⟩
      rw [hg1]
      go_wp2_with fail
      go_ret2
      exact ⟨rfl, hal.trans (hb1.mono hal.size)⟩
    | true =>
      have HG2 := hide (show idxB 0 ((n : Int) - 1) none a = false by unfold takesB at hg; rw [hg1] at hg; simpa [hlen] using hg)
      have HN60 := hide (show n ≤ 60 by have := goodB_len hg1; dsimp only at this; omega)
      have HLE := hide hlen
      clear hlen
      go_enter Try.func35, Try.ntmps35
      go_wp2_with fail
      rw [← HWB.out]
      refine (i_IsCnf _ (vars, t) _ ⟨_, rfl, htb⟩).mono ?_
      rintro e w0 ⟨rfl, hb0⟩
      rw [hg1]
      have y00 := below_old hb0 _ _ x00
      have y01 := below_old hb0 _ _ x01
      go_wp2_with fail
      refine (i_indicesOk vars A n c _ a _ (h2b.below hb0) HN60.out).mono ?_
      rintro e w1 ⟨rfl, hb01⟩
      rw [HG2.out]
      go_wp2_with fail
      go_ret2
      have h01 := hal.trans (hb0.mono hal.size)
      exact ⟨rfl, h01.trans (hb01.mono h01.size)⟩
  | true =>
    rw [fmin_on hg] at hR
    obtain ⟨hg1, hg2⟩ := takesB_parts hg
    have HS := hide (goodB_small hg1)
    have HIN := hide (takes_in hg2)
    have HG1 := hide hg1
    have HG2 := hide (show idxB 0 ((n : Int) - 1) none a = true by rw [← hlen]; exact hg2)
    have HN60 := hide (show n ≤ 60 by have := goodB_len hg1; dsimp only at this; omega)
    obtain ⟨nv, hv, hn⟩ := varsB_nat (goodB_parts hg1).1
    dsimp only at HS HIN hv hR
    have HLE := hide hlen
    clear hg1 hg2 hlen
    cases hc : coreB vars t a with
    | false =>
      rw [hc] at hR
      obtain ⟨rfl, rfl⟩ : r0 = false ∧ r1 = true := by injection hR with h1 h2; exact ⟨h1.symm, h2.symm⟩
      clear hR
      subst hv
      go_enter Try.func35, Try.ntmps35
      go_wp2_with fail
      rw [← HWB.out]
      refine (i_IsCnf _ ((nv : Int), t) _ ⟨_, rfl, htb⟩).mono ?_
      rintro e w0 ⟨rfl, hb0⟩
      rw [HG1.out]
      have y00 := below_old hb0 _ _ x00
      have y01 := below_old hb0 _ _ x01
      go_wp2_with fail
      refine (i_indicesOk (nv : Int) A n c _ a _ (h2b.below hb0) HN60.out).mono ?_
      rintro e w1 ⟨rfl, hb01⟩
      rw [HG2.out]
      have hb := hb0.trans (hb01.mono hb0.size)
      clear y00 y01
      have z00 := below_old hb _ _ x00
      have z01 := below_old hb _ _ x01
      have t1 := htb.below hb
      have a1 := h2b.below hb
      have hal1 := hal.trans (hb.mono hal.size)
      clear x00 x01 hb
      go_wp2_with fail
      refine (i_isCore nv A n c t _ a _ t1 a1 hn HS.out HIN.out hn1).mono ?_
      rintro e w2 ⟨rfl, hb2⟩
      rw [hc]
      replace z00 := below_old hb2 _ _ z00
      replace z01 := below_old hb2 _ _ z01
      replace t1 := t1.below hb2
      replace a1 := a1.below hb2
      have hal2 := hal1.trans (hb2.mono hal1.size)
      clear hb2 hal1
      go_wp2_with fail
      go_ret2
      exact ⟨rfl, hal2⟩
    | true =>
      rw [hc] at hR
      obtain ⟨hr0, rfl⟩ : r0 = minL vars t a (rangeFrom 0 a.length) ∧ r1 = true := by injection hR with h1 h2; exact ⟨h1.symm, h2.symm⟩
      have HR := hide hr0
      clear hR hr0
      subst hv
      obtain ⟨A9, c9, rfl, hc9, hm9, hrow9⟩ := id h2b
      unfold maxLen at hm9
      go_enter Try.func35, Try.ntmps35
      go_wp2_with fail
      rw [← HWB.out]
      refine (i_IsCnf _ ((nv : Int), t) _ ⟨_, rfl, htb⟩).mono ?_
      rintro e w0 ⟨rfl, hb0⟩
      rw [HG1.out]
      have y00 := below_old hb0 _ _ x00
      have y01 := below_old hb0 _ _ x01
      go_wp2_with fail
      refine (i_indicesOk (nv : Int) A n c _ a _ (h2b.below hb0) HN60.out).mono ?_
      rintro e w1 ⟨rfl, hb01⟩
      rw [HG2.out]
      have hb := hb0.trans (hb01.mono hb0.size)
      clear y00 y01
      have z00 := below_old hb _ _ x00
      have z01 := below_old hb _ _ x01
      have t1 := htb.below hb
      have a1 := h2b.below hb
      have hal1 := hal.trans (hb.mono hal.size)
      clear x00 x01 hb
      go_wp2_with fail
      refine (i_isCore nv A n c t _ a _ t1 a1 hn HS.out HIN.out hn1).mono ?_
      rintro e w2 ⟨rfl, hb2⟩
      rw [hc]
      replace z00 := below_old hb2 _ _ z00
      replace z01 := below_old hb2 _ _ z01
      replace t1 := t1.below hb2
      replace a1 := a1.below hb2
      have hal2 := hal1.trans (hb2.mono hal1.size)
      clear hb2 hal1
      go_wp2_with fail
      go_loopw [22] (fun i wr => ∃ k : Nat, k ≤ a.length ∧ i = .int .i64 k ∧ Hid (minL nv t a (rangeFrom 0 a.length) = minL nv t a (rangeFrom k a.length)) ∧ Below w2.heap.size w2 wr) (fun i _ => a.length - (intOf i).toNat)
      case atStart => exact ⟨0, Nat.zero_le _, rfl, rfl, Below.refl _ _⟩
      case round =>
        obtain ⟨k, hk, rfl, hr, hbel⟩ := hrel
        have q00 := below_old hbel _ _ z00
        have q01 := below_old hbel _ _ z01
        have tr := (t1.below hbel).below (below_drew wr)
        have ar := (a1.below hbel).below (below_drew wr)
        have hdr : Below w2.heap.size w2 wr.drew := hbel.trans ((below_drew wr).mono hbel.size)
        by_cases hlt : k < a.length
        · have HIN2 : Hid (∀ x ∈ skipL a k, 0 ≤ x ∧ x < (t.length : Int)) := fun x hx => HIN.out x (skipL_mem hx)
          have HSL := hide (show (skipL a k).length ≤ 1048576 by rw [skipL_length hlt]; omega)
          cases hck : coreB nv t (skipL a k) with
          | false =>
            have HF := hide (show minL nv t a (rangeFrom 0 a.length) = minL nv t a (rangeFrom (k + 1) a.length) by rw [hr.out, rangeFrom_lt hlt]; simp [minL, hck])
            go_wp2_with fail
            go_region_held3 (fun w' => w'.cell? ⟨w.heap.size, 0, none⟩ = some (.int .i64 (nv : Int)) ∧ w'.cell? ⟨w.heap.size, 1, none⟩ = some (.slice A n c)) (first | exact ⟨q00, q01⟩ | go_keep)
              ((first | (go_at_call 77; refine (i_without _ a k _ ar hlt hn1).mono ?_; rintro e w3 ⟨v3, rfl, hown3, hb3⟩; replace q00 := below_old hb3 _ _ q00; replace q01 := below_old hb3 _ _ q01; replace tr := tr.below hb3; replace hdr := hdr.trans (hb3.mono hdr.size)) | (go_at_call 60; refine (i_isCore nv A n c t _ _ _ tr hown3.fints.ints hn HS.out HIN2.out HSL.out).mono ?_; rintro e w4 ⟨rfl, hb4⟩; rw [hck]; replace q00 := below_old hb4 _ _ q00; replace q01 := below_old hb4 _ _ q01; replace hdr := hdr.trans (hb4.mono hdr.size))))
            go_wp2_with fail
            go_roundw
            case rel => exact ⟨k + 1, by omega, by go_num, HF.out, hdr⟩
            case measure => simp [intOf]; omega
          | true =>
            have HF := hide (show minL nv t a (rangeFrom 0 a.length) = false by rw [hr.out, rangeFrom_lt hlt]; simp [minL, hck])
            go_wp2_with fail
            go_region_held3 (fun w' => w'.cell? ⟨w.heap.size, 0, none⟩ = some (.int .i64 (nv : Int)) ∧ w'.cell? ⟨w.heap.size, 1, none⟩ = some (.slice A n c)) (first | exact ⟨q00, q01⟩ | go_keep)
              ((first | (go_at_call 77; refine (i_without _ a k _ ar hlt hn1).mono ?_; rintro e w3 ⟨v3, rfl, hown3, hb3⟩; replace q00 := below_old hb3 _ _ q00; replace q01 := below_old hb3 _ _ q01; replace tr := tr.below hb3; replace hdr := hdr.trans (hb3.mono hdr.size)) | (go_at_call 60; refine (i_isCore nv A n c t _ _ _ tr hown3.fints.ints hn HS.out HIN2.out HSL.out).mono ?_; rintro e w4 ⟨rfl, hb4⟩; rw [hck]; replace q00 := below_old hb4 _ _ q00; replace q01 := below_old hb4 _ _ q01; replace hdr := hdr.trans (hb4.mono hdr.size))))
            go_wp2_with fail
            go_ret2
            exact ⟨by rw [HR.out, HF.out]; rfl, hal2.trans (hdr.mono hal2.size)⟩
        · obtain rfl : k = a.length := by omega
          have HF := hide (show minL nv t a (rangeFrom 0 a.length) = true by rw [hr.out, rangeFrom_end]; rfl)
          go_wp2_with fail
          go_ret2
          exact ⟨by rw [HR.out, HF.out]; rfl, hal2.trans (hbel.mono hal2.size)⟩

set_option maxHeartbeats 1600000 in
theorem S_IsMinimalCore {hi hi' : Nat} (v : Value) (f : CnfL) (va : Value) (a : List Int) (r0 : Bool) (r1 : Bool) (w : World) (h : RCnf hi w v f) (h2 : Ints hi' w va a) (hn0 : szC f ≤ 1048576) (hn1 : a.length ≤ 1048576) (hR : fIsMinimalCore f a = (r0, r1)) :
    Calls Try.prog 34 #[v, va] w fun e w' => e = .returned (.tuple #[.bool r0, .bool r1]) ∧ Below w.heap.size w w' := by
  obtain ⟨A, n, c, rfl, ht⟩ := h.open2
  obtain ⟨vars, t⟩ := f
  dsimp only at ht ⊢
  have hlen : t.length = n := by obtain ⟨A', c', ps', e, _⟩ := ht; injection e with _ e2; exact e2.symm
  obtain ⟨wb, hwb⟩ : ∃ wb, wb = w.alloc (.cells #[.int .i64 vars, .slice A n c] 29) := ⟨_, rfl⟩
  have hal : Below w.heap.size w wb := by rw [hwb]; exact (Below.refl _ _).alloc (Nat.le_refl _) _
  have x00 : wb.cell? ⟨w.heap.size, 0, none⟩ = some (.int .i64 vars) := by rw [hwb]; simp
  have x01 : wb.cell? ⟨w.heap.size, 1, none⟩ = some (.slice A n c) := by rw [hwb]; simp
  have htb := ht.top.below hal
  have h2b := h2.top.below hal
  have HWB := hide hwb
  clear hwb
  cases hg : takesB (vars, t) a with
  | false =>
    rw [fmin_takes hg] at hR
    obtain ⟨rfl, rfl⟩ : r0 = false ∧ r1 = false := by injection hR with h1 h2; exact ⟨h1.symm, h2.symm⟩
    clear hR
    go_enter Try.func34, Try.ntmps34
    go_wp2_with fail
    rw [← HWB.out]
    refine (s_l5Takes _ (vars, t) _ a _ ⟨_, rfl, htb⟩ h2b).mono ?_
    rintro e w1 ⟨rfl, hb1⟩
    rw [hg]
    go_wp2_with fail
    go_ret2
    exact ⟨rfl, hal.trans (hb1.mono hal.size)⟩
  | true =>
    rw [fmin_on hg] at hR
    obtain ⟨hg1, hg2⟩ := takesB_parts hg
    have HS := hide (goodB_small hg1)
    have HIN := hide (takes_in hg2)
    have HG1 := hide hg1
    have HG2 := hide (show idxB 0 ((n : Int) - 1) none a = true by rw [← hlen]; exact hg2)
    have HN60 := hide (show n ≤ 60 by have := goodB_len hg1; dsimp only at this; omega)
    obtain ⟨nv, hv, hn⟩ := varsB_nat (goodB_parts hg1).1
    dsimp only at HS HIN hv hR
    have HLE := hide hlen
    clear hg1 hg2 hlen
    cases hc : coreB vars t a with
    | false =>
      rw [hc] at hR
      obtain ⟨rfl, rfl⟩ : r0 = false ∧ r1 = true := by injection hR with h1 h2; exact ⟨h1.symm, h2.symm⟩
      clear hR
      subst hv
      go_enter Try.func34, Try.ntmps34
      go_wp2_with fail
      rw [← HWB.out]
      refine (s_l5Takes _ ((nv : Int), t) _ a _ ⟨_, rfl, htb⟩ h2b).mono ?_
      rintro e w1 ⟨rfl, hb1⟩
      have hb := hb1
      rw [hg]
      have z00 := below_old hb _ _ x00
      have z01 := below_old hb _ _ x01
      have t1 := htb.below hb
      have a1 := h2b.below hb
      have hal1 := hal.trans (hb.mono hal.size)
      clear x00 x01 hb
      go_wp2_with fail
      refine (s_l5Core nv A n c t _ a _ t1 a1 hn HS.out HIN.out hn1).mono ?_
      rintro e w2 ⟨rfl, hb2⟩
      rw [hc]
      replace z00 := below_old hb2 _ _ z00
      replace z01 := below_old hb2 _ _ z01
      replace t1 := t1.below hb2
      replace a1 := a1.below hb2
      have hal2 := hal1.trans (hb2.mono hal1.size)
      clear hb2 hal1
      go_wp2_with fail
      go_ret2
      exact ⟨rfl, hal2⟩
    | true =>
      rw [hc] at hR
      obtain ⟨hr0, rfl⟩ : r0 = minL vars t a (rangeFrom 0 a.length) ∧ r1 = true := by injection hR with h1 h2; exact ⟨h1.symm, h2.symm⟩
      have HR := hide hr0
      clear hR hr0
      subst hv
      obtain ⟨A9, c9, rfl, hc9, hm9, hrow9⟩ := id h2b
      unfold maxLen at hm9
      go_enter Try.func34, Try.ntmps34
      go_wp2_with fail
      rw [← HWB.out]
      refine (s_l5Takes _ ((nv : Int), t) _ a _ ⟨_, rfl, htb⟩ h2b).mono ?_
      rintro e w1 ⟨rfl, hb1⟩
      have hb := hb1
      rw [hg]
      have z00 := below_old hb _ _ x00
      have z01 := below_old hb _ _ x01
      have t1 := htb.below hb
      have a1 := h2b.below hb
      have hal1 := hal.trans (hb.mono hal.size)
      clear x00 x01 hb
      go_wp2_with fail
      refine (s_l5Core nv A n c t _ a _ t1 a1 hn HS.out HIN.out hn1).mono ?_
      rintro e w2 ⟨rfl, hb2⟩
      rw [hc]
      replace z00 := below_old hb2 _ _ z00
      replace z01 := below_old hb2 _ _ z01
      replace t1 := t1.below hb2
      replace a1 := a1.below hb2
      have hal2 := hal1.trans (hb2.mono hal1.size)
      clear hb2 hal1
      go_wp2_with fail
      go_loopw [6] (fun i wr => ∃ k : Nat, k ≤ a.length ∧ i = .int .i64 k ∧ Hid (minL nv t a (rangeFrom 0 a.length) = minL nv t a (rangeFrom k a.length)) ∧ Below w2.heap.size w2 wr) (fun i _ => a.length - (intOf i).toNat)
      case atStart => exact ⟨0, Nat.zero_le _, rfl, rfl, Below.refl _ _⟩
      case round =>
        obtain ⟨k, hk, rfl, hr, hbel⟩ := hrel
        have q00 := below_old hbel _ _ z00
        have q01 := below_old hbel _ _ z01
        have tr := (t1.below hbel).below (below_drew wr)
        have ar := (a1.below hbel).below (below_drew wr)
        have hdr : Below w2.heap.size w2 wr.drew := hbel.trans ((below_drew wr).mono hbel.size)
        by_cases hlt : k < a.length
        · have HIN2 : Hid (∀ x ∈ skipL a k, 0 ≤ x ∧ x < (t.length : Int)) := fun x hx => HIN.out x (skipL_mem hx)
          have HSL := hide (show (skipL a k).length ≤ 1048576 by rw [skipL_length hlt]; omega)
          cases hck : coreB nv t (skipL a k) with
          | false =>
            have HF := hide (show minL nv t a (rangeFrom 0 a.length) = minL nv t a (rangeFrom (k + 1) a.length) by rw [hr.out, rangeFrom_lt hlt]; simp [minL, hck])
            go_wp2_with fail
            go_region_held3 (fun w' => w'.cell? ⟨w.heap.size, 0, none⟩ = some (.int .i64 (nv : Int)) ∧ w'.cell? ⟨w.heap.size, 1, none⟩ = some (.slice A n c)) (first | exact ⟨q00, q01⟩ | go_keep)
              ((first | (go_at_call 76; refine (s_l5Skip _ a k _ ar hlt hn1).mono ?_; rintro e w3 ⟨v3, rfl, hown3, hb3⟩; replace q00 := below_old hb3 _ _ q00; replace q01 := below_old hb3 _ _ q01; replace tr := tr.below hb3; replace hdr := hdr.trans (hb3.mono hdr.size)) | (go_at_call 58; refine (s_l5Core nv A n c t _ _ _ tr hown3.fints.ints hn HS.out HIN2.out HSL.out).mono ?_; rintro e w4 ⟨rfl, hb4⟩; rw [hck]; replace q00 := below_old hb4 _ _ q00; replace q01 := below_old hb4 _ _ q01; replace hdr := hdr.trans (hb4.mono hdr.size))))
            go_wp2_with fail
            go_roundw
            case rel => exact ⟨k + 1, by omega, by go_num, HF.out, hdr⟩
            case measure => simp [intOf]; omega
          | true =>
            have HF := hide (show minL nv t a (rangeFrom 0 a.length) = false by rw [hr.out, rangeFrom_lt hlt]; simp [minL, hck])
            go_wp2_with fail
            go_region_held3 (fun w' => w'.cell? ⟨w.heap.size, 0, none⟩ = some (.int .i64 (nv : Int)) ∧ w'.cell? ⟨w.heap.size, 1, none⟩ = some (.slice A n c)) (first | exact ⟨q00, q01⟩ | go_keep)
              ((first | (go_at_call 76; refine (s_l5Skip _ a k _ ar hlt hn1).mono ?_; rintro e w3 ⟨v3, rfl, hown3, hb3⟩; replace q00 := below_old hb3 _ _ q00; replace q01 := below_old hb3 _ _ q01; replace tr := tr.below hb3; replace hdr := hdr.trans (hb3.mono hdr.size)) | (go_at_call 58; refine (s_l5Core nv A n c t _ _ _ tr hown3.fints.ints hn HS.out HIN2.out HSL.out).mono ?_; rintro e w4 ⟨rfl, hb4⟩; rw [hck]; replace q00 := below_old hb4 _ _ q00; replace q01 := below_old hb4 _ _ q01; replace hdr := hdr.trans (hb4.mono hdr.size))))
            go_wp2_with fail
            go_ret2
            exact ⟨by rw [HR.out, HF.out]; rfl, hal2.trans (hdr.mono hal2.size)⟩
        · obtain rfl : k = a.length := by omega
          have HF := hide (show minL nv t a (rangeFrom 0 a.length) = true by rw [hr.out, rangeFrom_end]; rfl)
          go_wp2_with fail
          go_ret2
          exact ⟨by rw [HR.out, HF.out]; rfl, hal2.trans (hbel.mono hal2.size)⟩

end Go.Proofs.Ytkmkdfogpdndoaa
