/- The reference's IndependentParts: the search. -/
import Derived.Test.YtlipmbcjpmbjnaaGrpP
import Derived.Test.YtlipmbcjpmbjnaaPutF
import Derived.Test.YtlipmbcjpmbjnaaHas
namespace Go.Proofs.Ytlipmbcjpmbjnaa
open Go.RowKit
set_option linter.unusedVariables false

def meetI (a b : List Int) : Bool := a.any fun x => hasI b x || hasI b (wrap64 (-x))
theorem meet_mtC {t : List (List Int)} (hs : ∀ c ∈ t, ∀ l ∈ c, l ≠ 0 ∧ -12 ≤ l ∧ l ≤ 12) (i k : Nat) : meetI (t.getD i []) (t.getD k []) = mtC t i k := by
  unfold meetI mtC
  have h1 := getD_small hs i
  have h2 := getD_small hs k
  obtain ⟨a, ha⟩ : ∃ a, t.getD i [] = a := ⟨_, rfl⟩
  obtain ⟨b, hb⟩ : ∃ b, t.getD k [] = b := ⟨_, rfl⟩
  rw [ha] at h1 ⊢
  rw [hb] at h2 ⊢
  rw [Bool.eq_iff_iff]
  simp only [List.any_eq_true, beq_iff_eq, hasI, Bool.or_eq_true, List.contains_iff_mem]
  constructor
  · rintro ⟨x, hx, h | h⟩
    · exact ⟨x, hx, x, h, rfl⟩
    · refine ⟨x, hx, _, h, ?_⟩
      have := h1 x hx
      have e : wrap64 (-x) = -x := IntWalk.wrap64_in _ (by omega)
      rw [e, varW_small (by omega), varW_small (by omega)]
      omega
  · rintro ⟨x, hx, y, hy, e⟩
    have a1 := h1 x hx
    have a2 := h2 y hy
    rw [varW_small (by omega), varW_small (by omega)] at e
    have e2 : wrap64 (-x) = -x := IntWalk.wrap64_in _ (by omega)
    refine ⟨x, hx, ?_⟩
    by_cases h : x = y
    · exact .inl (h ▸ hy)
    · right
      rw [e2]
      have : -x = y := by omega
      rw [this]
      exact hy

set_option maxHeartbeats 800000 in
theorem s_l2Meet {hi hi' : Nat} (va vb : Value) (a b : List Int) (w : World) (h : Ints hi w va a) (h2 : Ints hi' w vb b) :
    Calls Try.prog 43 #[va, vb] w fun e w' => e = .returned (.bool (meetI a b)) ∧ w = w' := by
  obtain ⟨A, c, rfl, hc, hm, hrow⟩ := h
  unfold maxLen at hm
  go_enter Try.func43, Try.ntmps43
  go_wp2_with fail
  go_loop [5] (fun i => ∃ k : Nat, k ≤ a.length ∧ i = .int .i64 k ∧ Hid (meetI a b = meetI (a.drop k) b)) (fun i => a.length - (intOf i).toNat)
  case atStart => exact ⟨0, Nat.zero_le _, rfl, rfl⟩
  case round =>
    obtain ⟨k, hk, rfl, hr⟩ := hrel
    by_cases hlt : k < a.length
    · obtain ⟨bz, off, x, rfl, hx, hcw⟩ := hrow.int hlt
      obtain ⟨b1, hb1⟩ : ∃ b1, hasI b x = b1 := ⟨_, rfl⟩
      obtain ⟨b2, hb2⟩ : ∃ b2, hasI b (wrap64 (-x)) = b2 := ⟨_, rfl⟩
      have HF := hide (show meetI a b = ((b1 || b2) || meetI (a.drop (k + 1)) b) by
        rw [hr.out, hx]
        unfold meetI
        rw [List.any_cons, hb1, hb2])
      have HH1 := hide (hb1 ▸ s_l2Has vb b x w h2)
      have HH2 := hide (hb2 ▸ s_l2Has vb b (wrap64 (-x)) w h2)
      clear hx hb1 hb2
      cases b1 with
      | true =>
        go_wp2_with fail
        refine HH1.out.mono ?_
        rintro e w1 ⟨rfl, rfl⟩
        go_wp2_with fail
        go_ret
        exact ⟨ret_bool (by rw [HF.out]; simp), rfl⟩
      | false =>
        go_wp2_with fail
        refine HH1.out.mono ?_
        rintro e w1 ⟨rfl, rfl⟩
        go_wp2_with fail
        refine HH2.out.mono ?_
        rintro e w1 ⟨rfl, rfl⟩
        cases b2 with
        | true =>
          go_wp2_with fail
          go_ret
          exact ⟨ret_bool (by rw [HF.out]; simp), rfl⟩
        | false =>
          go_wp2_with fail
          go_round
          case rel => exact ⟨k + 1, by omega, by go_num, hide (by rw [HF.out]; simp)⟩
          case measure => simp [intOf]; omega
    · obtain rfl : a.length = k := by omega
      go_wp2_with fail
      go_ret
      exact ⟨ret_bool (by rw [hr.out, List.drop_length]; rfl), rfl⟩

theorem GT.keptO {base : Nat} {w w' : World} {v : Value} {ps : List (Value × List Int)} {o : Option Nat} (h : GT base w v ps) (hg : w.grownBy w' o) (h1 : v.ownBlock = none ∨ v.ownBlock ≠ o) (h2 : ∀ p ∈ ps, p.1.ownBlock = none ∨ p.1.ownBlock ≠ o) : GT base w' v ps :=
  ⟨h.hdr.keptG hg h1, fun p hp => (h.rows p hp).keptG hg (h2 p hp), h.apart⟩
theorem GT.snocU {base : Nat} {w w' : World} {v v' u : Value} {z : List Int} {ps : List (Value × List Int)} (h : GT base w v ps) (hu : OwnI base w u z) (hap : ∀ p ∈ ps, p.1.ownBlock = none ∨ p.1.ownBlock ≠ u.ownBlock) (hO : OwnH base w' v' (ps.map (·.1) ++ [u])) (hg : w.grownBy w' v.ownBlock) : GT base w' v' (ps ++ [(u, z)]) := by
  refine ⟨by simpa using hO, fun p hp => ?_, fun i j p q hij hp hq => ?_⟩
  · rcases List.mem_append.1 hp with hp | hp
    · exact (h.rows p hp).keptG hg (own_neG (h.rows p hp) h.hdr)
    · obtain rfl := List.mem_singleton.1 hp
      exact hu.keptG hg (own_neG hu h.hdr)
  · rw [List.getElem?_append] at hp hq
    split at hp
    · split at hq
      · exact h.apart i j p q hij hp hq
      · obtain rfl := List.mem_singleton.1 (List.mem_of_getElem? hq)
        exact hap p (List.mem_of_getElem? hp)
    · obtain rfl := List.mem_singleton.1 (List.mem_of_getElem? hp)
      split at hq
      · rcases hap q (List.mem_of_getElem? hq) with e | e
        · cases hb : u.ownBlock with
          | none => exact .inl rfl
          | some b => exact .inr (by rw [e]; simp)
        · exact .inr (fun e2 => e e2.symm)
      · have h1 := (List.getElem?_eq_some_iff.1 hp).1
        have h2 := (List.getElem?_eq_some_iff.1 hq).1
        simp at h1 h2
        omega

theorem append_intsA {ops : Array Oper} {rest : List Oper} {o : Oper} {a : Act} {Q : Exit → Act → World → Prop} {w : World} (hgd : o.guard = none) (s x : Operand)
    (ho : o.op = .call { callee := .builtin .append, args := #[s, x], argTypes := #[26, 26] })
    (base : Nat) {v : Value} {zs : List Int} (hs : a.eval s = v) (hown : OwnI base w v zs) {b m c : Nat} {ys : List Int} (hx : a.eval x = .slice (some ⟨b, 0, none⟩) m c) (hl : ys.length = m) (hm : 0 < m) (hc : ∀ j u, (ic ys)[j]? = some u → w.cell? ⟨b, j, none⟩ = some u)
    (hn : zs.length + m ≤ 1048576) (hb : base ≤ w.heap.size)
    (h : ∀ g cap w', OwnI base w' (.slice (some ⟨g, 0, none⟩) (zs.length + m) cap) (zs ++ ys) → w.grownBy w' v.ownBlock → (v.ownBlock = some g ∨ w.heap.size ≤ g) → wpList Try.prog ops Q rest (a.put o.dst (.slice (some ⟨g, 0, none⟩) (zs.length + m) cap)) w') : wpList Try.prog ops Q (o :: rest) a w := by
  obtain ⟨i0, hi, hz0, hz1, hz2⟩ := info_parts int_info
  refine wpList_append_lies w hgd s x _ ho base 3 i0 (.int .i64 0) 1 8 Try.underlying26 hi hz0 hz1 hz2 rfl (by decide) v zs.length (ic zs) hs hown ⟨b, 0, none⟩ m c (ic ys) hx (by simp [ic, hl]) ?_ ?_ hm ?_ ?_ hb w.heap.size rfl ?_
  · intro j u hj
    have := hc j u hj
    unfold Addr.add
    split
    · rename_i h0; subst h0; simpa using this
    · simpa using this
  · intro u hu; simp [ic] at hu; obtain ⟨q, _, rfl⟩ := hu; rfl
  · unfold maxLen; omega
  · omega
  · intro g cap w' hown2 hg hat hlt
    refine h g cap w' (by unfold OwnI; rw [show (zs ++ ys).length = zs.length + m by rw [List.length_append, hl]]; simpa [ic] using hown2) hg ?_
    rcases hat with e | e
    · exact .inl e
    · exact .inr (by omega)

end Go.Proofs.Ytlipmbcjpmbjnaa
