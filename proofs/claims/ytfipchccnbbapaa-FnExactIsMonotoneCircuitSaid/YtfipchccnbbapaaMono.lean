/- The program's IsMonotoneCircuit: the plain law of the places seen, and the walk. -/
import Derived.Test.YtfipchccnbbapaaMonN
import Derived.Test.YtfipchccnbbapaaHas
namespace Go.Proofs.Ytfipchccnbbapaa
open Go.RowKit
set_option linter.unusedVariables false

/-- is a place's gate a negation? -/
def isNot (gs : List GateL) (x : Int) : Bool := (gateAt gs x.toNat).1 == 4

theorem any_congrM {α : Type} {p q : α → Bool} : ∀ {l : List α}, (∀ x ∈ l, p x = q x) → l.any p = l.any q
  | [], _ => rfl
  | x :: r, h => by rw [List.any_cons, List.any_cons, h x (List.mem_cons_self ..), any_congrM fun y hy => h y (List.mem_cons_of_mem _ hy)]

theorem mkB_getD {m : Nat} (ks : List Int) (bs : List Bool) (h : ∀ k ∈ ks, 0 ≤ k ∧ k < (m : Int)) (j : Nat) (hj : m ≤ j) : (mkB bs ks).getD j false = bs.getD j false := by
  rw [List.getD_eq_getElem?_getD, List.getD_eq_getElem?_getD, mkB_above ks bs h j hj]

theorem stS_law {vars : Int} {gs : List GateL} {n : Nat} (hn : gs.length = n) (hgs : ∀ k g, gs[k]? = some g → GateIs vars k g) : ∀ (k : Nat) (h : k ≤ n), needDown gs n (need0 n) = needDown gs (n - k) (stS gs n (downto n k h)).1 ∧
    (stS gs n (downto n k h)).2.any (isNot gs) = ((List.range' (n - k) k).any fun j => (stS gs n (downto n k h)).1.getD j false && ((gateAt gs j).1 == 4)) ∧ ∀ x ∈ (stS gs n (downto n k h)).2, 0 ≤ x ∧ x < (n : Int)
  | 0, h => ⟨rfl, rfl, by intro x hx; simp [stS, downto] at hx⟩
  | k + 1, h => by
    obtain ⟨h1, h2, h3⟩ := stS_law hn hgs k (by omega)
    rw [downto_succ, stS_snoc]
    obtain ⟨s, hs⟩ : ∃ s, stS gs n (downto n k (by omega)) = s := ⟨_, rfl⟩
    rw [hs] at h1 h2 h3 ⊢
    obtain ⟨m, hm⟩ : ∃ m, n - (k + 1) = m := ⟨_, rfl⟩
    have e1 : n - k = m + 1 := by omega
    have e2 : n - 1 - k = m := by omega
    rw [e1] at h1 h2
    rw [needDown] at h1
    simp only [e2, hm]
    have hin := inputs_in (hgs m (gateAt gs m) (by unfold gateAt; rw [List.getD_eq_getElem?_getD, List.getElem?_eq_getElem (by omega)]; rfl))
    rw [h1, List.range'_succ, List.any_cons]
    unfold needStep stepS
    cases hb : s.1.getD m false with
    | false =>
      simp only [Bool.false_eq_true, if_false, hb, Bool.false_and, Bool.false_or]
      exact ⟨trivial, h2, h3⟩
    | true =>
      simp only [if_true]
      refine ⟨trivial, ?_, fun x hx => ?_⟩
      · rw [List.any_append, h2, mkB_getD _ _ hin m (Nat.le_refl _), hb]
        have : ∀ j ∈ List.range' (m + 1) k, ((mkB s.1 (inputsG (gateAt gs m))).getD j false && ((gateAt gs j).1 == 4)) = (s.1.getD j false && ((gateAt gs j).1 == 4)) := fun j hj => by
          rw [mkB_getD _ _ hin j (by have := List.mem_range'_1.1 hj; omega)]
        rw [any_congrM this]
        simp only [List.any_cons, List.any_nil, Bool.or_false, isNot, Int.toNat_natCast, Bool.true_and]
        exact Bool.or_comm _ _
      · rcases List.mem_append.1 hx with h | h
        · exact h3 x h
        · obtain rfl := List.mem_singleton.1 h
          omega

theorem seen_law {vars : Int} {gs : List GateL} {n : Nat} (hn : gs.length = n) (hgs : ∀ k g, gs[k]? = some g → GateIs vars k g) : (stS gs n (downto n n (Nat.le_refl n))).2.reverse.any (isNot gs) = hasNot gs (needL gs) 0 ∧ ∀ x ∈ (stS gs n (downto n n (Nat.le_refl n))).2.reverse, 0 ≤ x ∧ x < (n : Int) := by
  obtain ⟨h1, h2, h3⟩ := stS_law hn hgs n (Nat.le_refl n)
  rw [Nat.sub_self] at h1 h2
  refine ⟨?_, fun x hx => h3 x (List.mem_reverse.1 hx)⟩
  rw [List.any_reverse, h2]
  unfold hasNot needL
  rw [hn, h1]
  rfl

/-- what is asked of the closure, in every world that is as w below its size -/
def AnswersV' (P : Program) (g : FuncId) (lb : Array Value) (zs : List Int) (p : Int → Bool) (w : World) : Prop :=
  ∀ x ∈ zs, ∀ W : World, Below w.heap.size w W → Calls P g (#[.int .i64 x] ++ lb) W fun e w' => e = .returned (.bool (p x)) ∧ Below W.heap.size W w'
theorem AnswersV'.cells {P : Program} {g : FuncId} {lb : Array Value} {zs : List Int} {p : Int → Bool} {w : World} (h : AnswersV' P g lb zs p w) : Answers P g lb (ic zs) (zs.map p) w := by
  intro j u b hu hb W hW
  rw [List.getElem?_map] at hu hb
  obtain ⟨z, hz, rfl⟩ := Option.map_eq_some_iff.1 hu
  rw [hz] at hb
  obtain rfl : p z = b := by simpa using hb
  exact h z (List.mem_of_getElem? hz) W hW

theorem i_isMonotone1 (x : Int) (b off n cap B : Nat) (gs : List GateL) (w : World) (hn : gs.length = n) (hc : w.cell? ⟨B, 0, none⟩ = some (.slice (some ⟨b, off, none⟩) n cap)) (hG : GatesAt w b off gs) (hx : 0 ≤ x ∧ x < (n : Int)) (hn2 : n ≤ 200) :
    Calls Try.prog 64 #[.int .i64 x, .pointer (some ⟨B, 0, none⟩)] w fun e w' => e = .returned (.bool (isNot gs x)) ∧ Quiet w w' := by
  obtain ⟨k, rfl⟩ : ∃ k : Nat, x = (k : Int) := ⟨x.toNat, by omega⟩
  have hk : k < n := by omega
  have hg := (hG k (by omega)).1
  unfold isNot
  rw [Int.toNat_natCast]
  obtain ⟨g0, hg0⟩ : ∃ g0, (gateAt gs k).1 = g0 := ⟨_, rfl⟩
  rw [hg0] at hg ⊢
  have hx0 := hx.1
  have hx1 := hx.2
  clear hG hg0 hx hn
  go_enter Try.func64, Try.ntmps64
  go_wp2_with fail
  go_ret
  exact ⟨rfl, Quiet.refl _⟩

set_option maxHeartbeats 1600000 in
theorem i_isMonotone {hi : Nat} (vars : Int) (v : Value) (gs : List GateL) (w : World) (h : Gates hi w v gs) (hg : circB vars gs = true) :
    Calls Try.prog 57 #[v] w fun e w' => e = .returned (.bool (!hasNot gs (needL gs) 0)) ∧ Below w.heap.size w w' := by
  have eg := Go.Proofs.enters_of Try.func64 (by kernel_rfl) rfl
  obtain ⟨_, hl1, hl2, hgs⟩ := circ_parts hg
  obtain ⟨A, cap, rfl, hc, hm, hrow⟩ := h.top
  obtain ⟨b, off, rfl, hbs, hcel⟩ := hrow (by rw [gcells_length]; omega)
  obtain ⟨n, hn⟩ : ∃ n, gs.length = n := ⟨_, rfl⟩
  have hG : GatesAt w b off gs := fun j hj => by
    obtain ⟨q0, q1, q2⟩ := gcells_get gs j (gateAt gs j) (by unfold gateAt; rw [List.getD_eq_getElem?_getD, List.getElem?_eq_getElem hj]; rfl)
    exact ⟨hcel _ _ q0, hcel _ _ q1, hcel _ _ q2⟩
  obtain ⟨hlaw, hmem⟩ := seen_law hn hgs
  rw [hn] at hc hl1 hl2 ⊢
  have hal : Below w.heap.size w (w.alloc (.cells #[.slice (some ⟨b, off, none⟩) n cap] 25)) := (Below.refl _ _).alloc (Nat.le_refl _) _
  obtain ⟨w1, hw1⟩ : ∃ w1, w1 = w.alloc (.cells #[.slice (some ⟨b, off, none⟩) n cap] 25) := ⟨_, rfl⟩
  have hbox : Boxed w1 w.heap.size 25 (.slice (some ⟨b, off, none⟩) n cap) := by rw [hw1]; exact Boxed.new _ _ _
  have hc1 := hbox.cell
  rw [← hw1] at hal
  have hG1 := hG.below hal hbs
  have HNE := hide (callsIn_wide.1 (needed_in 8 (Nat.le_refl _) vars gs b off n cap w1 hn hg (by have := hal.size; omega) hG1 ⟨hc, hm⟩))
  have HL := hide hlaw
  have HM := hide hmem
  have HA := hide hal
  have HB := hide hbox
  have HG := hide hG1
  have HN := hide hn
  clear hlaw hmem hal hbox hG hG1 hgs hcel hrow h hc hm hg hn
  go_enter Try.func57, Try.ntmps57
  go_wp2_with fail
  rw [← hw1]
  clear hw1
  refine HNE.out.mono ?_
  rintro e w2 ⟨v2, rfl, hints, hb2⟩
  have hsz := HB.out.lt
  have hp : AnswersV' Try.prog 64 #[.pointer (some ⟨w.heap.size, 0, none⟩)] (stS gs n (downto n n (Nat.le_refl n))).2.reverse (isNot gs) w2 := by
    intro x hx W hW
    have hB2 : Below w1.heap.size w1 W := hb2.trans (hW.mono hb2.size)
    refine (i_isMonotone1 x b off n cap w.heap.size gs W HN.out ((hB2.cell (p := ⟨w.heap.size, 0, none⟩) hsz).trans hc1) (HG.out.below hB2 (by omega)) (HM.out x hx) hl2).mono fun e w' ⟨he, hq⟩ => ⟨he, hq.below _⟩
  have HP := hide hp.cells
  obtain ⟨A2, c2, rfl, hc2, hm2, hrow2⟩ := hints
  have HR := hide hrow2
  have HAL := hide (HA.out.trans (hb2.mono HA.out.size))
  have HSZ := hide (show w.heap.size ≤ w2.heap.size by have := hb2.size; omega)
  have HL2 := hide (show ((stS gs n (downto n n (Nat.le_refl n))).2.reverse.map (isNot gs)).any id = hasNot gs (needL gs) 0 by rw [← HL.out, List.any_map]; rfl)
  obtain ⟨zs, hzs⟩ : ∃ zs, (stS gs n (downto n n (Nat.le_refl n))).2.reverse = zs := ⟨_, rfl⟩
  rw [hzs] at HP HR HL2 hc2 ⊢
  clear hp hb2 hrow2 HNE HL HM hzs
  go_wp2_with fail
  refine (g_ContainsFunc A2 c2 _ _ zs _ _ hc2 hm2 HR.out (by simp) eg HP.out).mono ?_
  rintro e w3 ⟨rfl, hb3⟩
  rw [HL2.out]
  go_wp2_with fail
  go_ret
  exact ⟨rfl, HAL.out.trans (hb3.mono HSZ.out)⟩

set_option maxHeartbeats 1600000 in
theorem I_IsMonotoneCircuit {hi : Nat} (vars : Int) (v : Value) (gs : List GateL) (r0 r1 : Bool) (w : World) (h : Gates hi w v gs) (hn0 : szG gs ≤ 1048576) (hR : fIsMonotoneCircuit vars gs = (r0, r1)) :
    Calls Try.prog 34 #[.int .i64 vars, v] w fun e w' => e = .returned (.tuple #[.bool r0, .bool r1]) ∧ Below w.heap.size w w' := by
  cases hg : circB vars gs with
  | false =>
    obtain ⟨rfl, rfl⟩ : r0 = false ∧ r1 = false := by simpa [fIsMonotoneCircuit, hg, eq_comm] using hR
    clear hR
    go_enter Try.func34, Try.ntmps34
    go_wp2_with fail
    refine (i_IsCircuit vars v gs w h hn0).mono ?_
    rw [hg]
    rintro e w1 ⟨rfl, hb1⟩
    go_wp2_with fail
    go_ret2
    exact ⟨rfl, hb1⟩
  | true =>
    obtain ⟨hr0, rfl⟩ : r0 = !hasNot gs (needL gs) 0 ∧ r1 = true := by
      simp only [fIsMonotoneCircuit, hg, if_true] at hR
      injection hR with h1 h2
      exact ⟨h1.symm, h2.symm⟩
    have HR := hide hr0
    have HG := hide hg
    clear hR hr0
    go_enter Try.func34, Try.ntmps34
    go_wp2_with fail
    refine (i_IsCircuit vars v gs w h hn0).mono ?_
    rw [hg]
    rintro e w1 ⟨rfl, hb1⟩
    clear hg
    go_wp2_with fail
    refine (i_isMonotone vars v gs w1 (h.top.below hb1) HG.out).mono ?_
    rintro e w2 ⟨rfl, hb2⟩
    rw [← HR.out]
    go_wp2_with fail
    go_ret2
    exact ⟨rfl, hb1.trans (hb2.mono hb1.size)⟩

end Go.Proofs.Ytfipchccnbbapaa
