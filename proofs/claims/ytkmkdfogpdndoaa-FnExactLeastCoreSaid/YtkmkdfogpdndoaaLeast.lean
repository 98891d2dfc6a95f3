/- The contracts of LeastCore. -/
import Derived.Test.YtkmkdfogpdndoaaLeastPl
import Derived.Test.YtkmkdfogpdndoaaPut
import Derived.Test.YtkmkdfogpdndoaaReg
import Derived.Test.YtkmkdfogpdndoaaFam
namespace Go.Proofs.Ytkmkdfogpdndoaa
open Go.RowKit
set_option linter.unusedVariables false

def nextN : List Nat → Nat
  | [] => 0
  | [x] => x + 1
  | _ :: y :: r => nextN (y :: r)
theorem nextN_snoc : ∀ (l : List Nat) (i : Nat), nextN (l ++ [i]) = i + 1
  | [], _ => rfl
  | [x], i => rfl
  | _ :: y :: r, i => nextN_snoc (y :: r) i
def chooseR (n : Nat) (t : List (List Int)) (m k : Nat) (ls : List Nat) : Option (List Nat) := (chs t.length m k).find? fun l => coreB n t (castL (ls ++ l))
theorem chooseR_zero (n : Nat) (t : List (List Int)) (k : Nat) (ls : List Nat) : chooseR n t 0 k ls = if coreB n t (castL ls) then some [] else none := by
  unfold chooseR chs
  simp only [List.find?_cons, List.append_nil, List.find?_nil]
  cases coreB n t (castL ls) <;> rfl
theorem chooseR_step (n : Nat) (t : List (List Int)) (m k : Nat) (ls : List Nat) (hk : k < t.length) : chooseR n t (m + 1) k ls = match chooseR n t m (k + 1) (ls ++ [k]) with | some l => some (k :: l) | none => chooseR n t (m + 1) (k + 1) ls := by
  unfold chooseR
  rw [chs_step _ _ _ hk, List.find?_append, List.find?_map]
  have : ((fun l => coreB n t (castL (ls ++ l))) ∘ fun x => k :: x) = fun l => coreB n t (castL ((ls ++ [k]) ++ l)) := by
    funext l; simp
  rw [this]
  cases List.find? (fun l => coreB n t (castL ((ls ++ [k]) ++ l))) (chs t.length m (k + 1)) <;> rfl
theorem chooseR_end (n : Nat) (t : List (List Int)) (m k : Nat) (ls : List Nat) (hk : t.length ≤ k) : chooseR n t (m + 1) k ls = none := by
  unfold chooseR; rw [chs_end _ _ _ hk]; rfl

theorem OwnI.monoB {base base' : Nat} {w : World} {v : Value} {vs : List Int} (h : OwnI base w v vs) (hb : base' ≤ base) : OwnI base' w v vs := by
  refine ⟨h.1, ?_⟩
  rcases h.2 with h1 | ⟨g, cap, cur, e, hl, r⟩
  · exact .inl h1
  · exact .inr ⟨g, cap, cur, e, Nat.le_trans hb hl, r⟩

set_option maxHeartbeats 1600000 in
set_option maxRecDepth 20000 in
theorem s_l5Choose0 {hi hi' : Nat} (n : Nat) (A : Option Addr) (c : Nat) (t : List (List Int)) (b off cv : Nat) (ls : List Nat) (w : World) (ht : Tab hi w (.slice A t.length c) t) (h : Ints hi' w (.slice (some ⟨b, off, none⟩) ls.length cv) (castL ls)) (hn : n ≤ 12) (hs : ∀ c ∈ t, ∀ l ∈ c, l ≠ 0 ∧ -12 ≤ l ∧ l ≤ 12)
    (hin : ∀ x ∈ ls, x < t.length) (hl : ls.length ≤ 1000) :
    Calls Try.prog 105 #[.agg #[.int .i64 n, .slice A t.length c], .slice (some ⟨b, off, none⟩) ls.length cv, .int .i64 0] w fun e w' => ∃ v', e = .returned (.tuple #[v', .bool (coreB n t (castL ls))]) ∧ OwnI w.heap.size w' v' (castL ls) ∧ Below w.heap.size w w' := by
  obtain ⟨wb, hwb⟩ : ∃ wb, wb = w.alloc (.cells #[.int .i64 n, .slice A t.length c] 29) := ⟨_, rfl⟩
  have hal : Below w.heap.size w wb := by rw [hwb]; exact (Below.refl _ _).alloc (Nat.le_refl _) _
  have hBb : Blk wb w.heap.size 29 #[.int .i64 n, .slice A t.length c] := by rw [hwb]; exact Blk.new _ _ _
  obtain ⟨x00, x01, -, -⟩ := blkTwo hBb
  have HTB := hide (ht.top.below hal)
  have HZB := hide (h.top.below hal)
  obtain ⟨Ax, cx, ex, hcx, hmx, hrow⟩ := id (h.top.below hal)
  obtain ⟨rfl, rfl⟩ : Ax = some ⟨b, off, none⟩ ∧ cx = cv := by simp at ex; exact ⟨ex.1.symm, ex.2.symm⟩
  clear ex
  have HS := hide hs
  have HIN := hide (show ∀ x ∈ castL ls, 0 ≤ x ∧ x < (t.length : Int) from by intro x hx; obtain ⟨y, hy, rfl⟩ := List.mem_map.1 hx; have := hin y hy; omega)
  have HL := hide (show (castL ls).length ≤ 1048576 by simp [castL]; omega)
  have HCE := hide (show ∀ W, Below wb.heap.size wb W → ∀ (j : Nat) (u : Value), (ic (castL ls))[j]? = some u → W.cell? ⟨b, off + j, none⟩ = some u from fun W hW j u hu => by
    obtain ⟨b', off', e', -, hc'⟩ := hrow (by have := (List.getElem?_eq_some_iff.1 hu).1; omega)
    injection e' with e'
    injection e' with e1 e2
    subst e1 e2
    exact below_old hW _ _ (hc' j u hu))
  have HWB := hide hwb
  have hsb : w.heap.size ≤ wb.heap.size := hal.size
  clear hwb ht h hs hin hrow
  go_enter Try.func105, Try.ntmps105
  go_wp2_with fail
  rw [← HWB.out]
  go_region_held3 (fun w' => w'.cell? ⟨w.heap.size, 0, none⟩ = some (.int .i64 (n : Int)) ∧ w'.cell? ⟨w.heap.size, 1, none⟩ = some (.slice A t.length c)) (refine ⟨below_old (w := wb) ?_ _ _ x00, below_old (w := wb) ?_ _ _ x01⟩ <;> (repeat (first | exact hba | exact hbc2 | exact Below.refl _ _ | apply below_drew_of | apply below_alloc_of)))
    ((first | (go_at_call 58; (refine (s_l5Core n A t.length c t _ (castL ls) _ (HTB.out.below (by (repeat (first | exact hba | exact Below.refl _ _ | apply below_drew_of | apply below_alloc_of)))) (HZB.out.below (by (repeat (first | exact hba | exact Below.refl _ _ | apply below_drew_of | apply below_alloc_of)))) hn HS.out HIN.out HL.out).mono ?_; rintro e w5 ⟨rfl, hbc⟩; have hbc2 := below_stp (w := wb) (by (repeat (first | exact hba | exact Below.refl _ _ | apply below_drew_of | apply below_alloc_of))) hbc)) | (((refine step_ints (b := b) (off := off) (m := ls.length) (c := cx) (ys := castL ls) rfl _ _ rfl wb.heap.size ?_ _ (OwnI.made wb.heap.size w5 hbc2.size) ?_ ?_ ?_ (by simp [castL]) ?_ ?_ ?_); (· rfl); (· (first | exact hbc | exact Below.refl _ _)); (· (first | (simp; done) | (simp; omega) | (have := hbc2.size; simp; omega))); (· rfl); (· exact HCE.out _ (by (repeat (first | exact hbc2 | exact Below.refl _ _ | apply below_drew_of | apply below_alloc_of)))); (· (simp [castL]; omega)); (intro v3 w3 hown3 hb3; have hba := (show Below wb.heap.size wb _ from (by (repeat (first | exact hbc2 | exact Below.refl _ _ | apply below_drew_of | apply below_alloc_of)))).trans hb3))) | (((refine step_ints (b := b) (off := off) (m := ls.length) (c := cx) (ys := castL ls) rfl _ _ rfl wb.heap.size ?_ _ (OwnI.made wb.heap.size wb.drew (Nat.le_refl _)) ?_ ?_ ?_ (by simp [castL]) ?_ ?_ ?_); (· rfl); (· (first | exact hbc | exact Below.refl _ _)); (· (first | (simp; done) | (simp; omega) | (have := hbc2.size; simp; omega))); (· rfl); (· exact HCE.out _ (by (repeat (first | exact hbc2 | exact Below.refl _ _ | apply below_drew_of | apply below_alloc_of)))); (· (simp [castL]; omega)); (intro v3 w3 hown3 hb3; have hba := (show Below wb.heap.size wb _ from (by (repeat (first | exact hbc2 | exact Below.refl _ _ | apply below_drew_of | apply below_alloc_of)))).trans hb3)))))
  go_wp2_with fail
  go_ret2
  exact ⟨_, rfl, (hown3.below hbc).monoB hsb, hal.trans (hbc2.mono hsb)⟩

theorem grown_cell {W w' : World} {o : Option Nat} {p : Addr} {u : Value} (hg : W.grownBy w' o) (h : W.cell? p = some u) (hne : some p.block ≠ o) : w'.cell? p = some u :=
  (World.cell?_of_block (hg.block p.block (World.block_lt_of_cell? _ _ h) hne)).trans h

theorem step_intsG {ops : Array Oper} {o : Oper} {a : Act} {K : Act → World → Prop} {Q : Exit → Act → World → Prop} {E : Prop} {W : World} (hgd : o.guard = none) (s x : Operand)
    (ho : o.op = .call { callee := .builtin .append, args := #[s, x], argTypes := #[25, 25] })
    (base : Nat) {v : Value} {zs : List Int} (hs : a.eval s = v) (wr : World) (hown : OwnI base wr v zs) (hbw : Below wr.heap.size wr W) (hb : base ≤ wr.heap.size)
    {b off m c : Nat} {ys : List Int} (hx : a.eval x = .slice (some ⟨b, off, none⟩) m c) (hl : ys.length = m) (hc : ∀ j u, (ic ys)[j]? = some u → W.cell? ⟨b, off + j, none⟩ = some u) (hn : zs.length + ys.length ≤ 1048576)
    (h : ∀ v' w', OwnI base w' v' (zs ++ ys) → Below base wr w' → W.grownBy w' v.ownBlock → K (a.put o.dst v') w') :
    if Region.wanted o (yielded ops a.tmps) = true then Oper.wp Try.prog o a W K Q else E := by
  have hw : Region.wanted o (yielded ops a.tmps) = true := by simp [Region.wanted, hgd]
  rw [if_pos hw]
  have hown' := hown.below hbw
  have hbW : base ≤ W.heap.size := Nat.le_trans hb hbw.size
  obtain ⟨i0, hi, hz0, hz1, hz2⟩ := info_parts int_info
  refine wp_append_own W s x _ ho base 3 i0 (.int .i64 0) 1 8 Try.underlying25 hi hz0 hz1 hz2 rfl (by decide) v zs.length (ic zs) hs hown' ⟨b, off, none⟩ m c (ic ys) hx (by simp; omega) ?_ ?_ ?_ ?_ hbW ?_
  · intro j u hj
    have := hc j u hj
    unfold Addr.add
    split
    · rename_i h0; subst h0; simpa using this
    · exact this
  · intro y hy; simp [ic] at hy; obtain ⟨q, _, rfl⟩ := hy; rfl
  · unfold maxLen; omega
  · omega
  · intro v' w' hown2 hg _
    refine h v' w' (by unfold OwnI; rw [show (zs ++ ys).length = zs.length + m by simp [hl]]; simpa [ic] using hown2) ⟨hg.os.trans hbw.os, hg.tape.trans hbw.tape, hg.output.trans hbw.output, Nat.le_trans hbw.size hg.size, fun i hi2 => ?_⟩ hg
    rw [hg.block i (by omega) (fun e => by have := World.ownsRow.lt hown' i e.symm; omega)]
    exact hbw.block i (by omega)

theorem OwnI.made1 (base : Nat) (w : World) (o : Obj) (hb : base ≤ w.heap.size) : OwnI base ((w.alloc o).alloc (.cells #[] 3)) (.slice (some ⟨w.heap.size + 1, 0, none⟩) 0 0) [] := by
  have h := OwnI.made base (w.alloc o) (by simp; omega)
  simpa using h
theorem own_snoc {base L : Nat} {w : World} {v : Value} {zs : List Int} {x : Int} (h : OwnI base w v (zs ++ [x])) (hl : zs.length = L) : ∃ g c, v = .slice (some ⟨g, 0, none⟩) (L + 1) c := by
  rcases h.2 with ⟨_, h1⟩ | ⟨g, cap, cur, e, _⟩
  · simp at h1
  · exact ⟨g, cap, by rw [e]; simp [hl]⟩
def chooseP (n : Nat) (t : List (List Int)) (m : Nat) (ls : List Nat) (zs : List Int) (r1 : Bool) : Prop := r1 = (chooseR n t m (nextN ls) ls).isSome ∧ ∀ l, chooseR n t m (nextN ls) ls = some l → zs = castL (ls ++ l)

theorem choose_no {n : Nat} {t : List (List Int)} {m k : Nat} {ls : List Nat} {zs : List Int} (hp : chooseP n t m (ls ++ [k]) zs false) : chooseR n t m (k + 1) (ls ++ [k]) = none := by
  have h := hp.1
  rw [nextN_snoc] at h
  cases hc : chooseR n t m (k + 1) (ls ++ [k]) with
  | none => rfl
  | some l => rw [hc] at h; cases h
theorem choose_yes {n : Nat} {t : List (List Int)} {m k k0 : Nat} {ls : List Nat} {zs : List Int} {rest : Option (List Nat)} (hk : nextN ls = k0) (hcs : chooseR n t (m + 1) k0 ls = match chooseR n t m (k + 1) (ls ++ [k]) with | some l => some (k :: l) | none => rest) (hp : chooseP n t m (ls ++ [k]) zs true) : chooseP n t (m + 1) ls zs true := by
  obtain ⟨h1, h2⟩ := hp
  rw [nextN_snoc] at h1 h2
  cases hc : chooseR n t m (k + 1) (ls ++ [k]) with
  | none => rw [hc] at h1; cases h1
  | some l =>
    rw [hc] at hcs
    unfold chooseP
    rw [hk, hcs]
    refine ⟨rfl, fun l' hl' => ?_⟩
    injection hl' with hl'
    subst hl'
    rw [h2 l hc]
    simp

set_option maxHeartbeats 3200000 in
set_option maxRecDepth 20000 in
theorem s_l5Choose (n : Nat) (A : Option Addr) (c : Nat) (t : List (List Int)) (hn : n ≤ 12) (hs : ∀ c ∈ t, ∀ l ∈ c, l ≠ 0 ∧ -12 ≤ l ∧ l ≤ 12) (ht12 : t.length ≤ 12) : ∀ (m : Nat) (hi hi' b off cv : Nat) (ls : List Nat) (w : World) (ht : Tab hi w (.slice A t.length c) t) (h : Ints hi' w (.slice (some ⟨b, off, none⟩) ls.length cv) (castL ls))
    (hin : ∀ x ∈ ls, x < t.length) (hl : ls.length + m ≤ 100),
    Calls Try.prog 105 #[.agg #[.int .i64 n, .slice A t.length c], .slice (some ⟨b, off, none⟩) ls.length cv, .int .i64 m] w fun e w' => ∃ v' zs r1, e = .returned (.tuple #[v', .bool r1]) ∧ FInts w.heap.size w'.heap.size w' v' zs ∧ chooseP n t m ls zs r1 ∧ Below w.heap.size w w' := by
  intro m
  induction m with
  | zero =>
    intro hi hi' b off cv ls w ht h hin hl
    refine (s_l5Choose0 n A c t b off cv ls w ht h hn hs hin (by omega)).mono ?_
    rintro e w1 ⟨v', rfl, hown, hb⟩
    refine ⟨v', castL ls, _, rfl, hown.fints, ⟨?_, fun l hl => ?_⟩, hb⟩
    · rw [chooseR_zero]; cases coreB (↑n) t (castL ls) <;> rfl
    · rw [chooseR_zero] at hl
      split at hl
      · injection hl with hl; subst hl; simp
      · cases hl
  | succ m ih =>
    intro hi hi' b off cv ls w ht h hin hl
    obtain ⟨q, hq⟩ : ∃ q : Nat, q = m + 1 := ⟨_, rfl⟩
    have hq1 : ((q : Int) - 1) = (m : Int) := by omega
    have hq2 : IntKind.i64.wrap (m : Int) = (m : Int) := by rw [IntKind.wrap_i64]; omega
    have hq0 : ((q : Int) == 0) = false := by simp; omega
    have hq100 : q ≤ 100 := by omega
    have HIH := hide ih
    have HQ := hide hq
    rw [← hq]
    obtain ⟨wb, hwb⟩ : ∃ wb, wb = w.alloc (.cells #[.int .i64 n, .slice A t.length c] 29) := ⟨_, rfl⟩
    have hal : Below w.heap.size w wb := by rw [hwb]; exact (Below.refl _ _).alloc (Nat.le_refl _) _
    have hBb : Blk wb w.heap.size 29 #[.int .i64 n, .slice A t.length c] := by rw [hwb]; exact Blk.new _ _ _
    obtain ⟨x00, x01, -, -⟩ := blkTwo hBb
    have HTB := hide (ht.top.below hal)
    obtain ⟨Ax, cx, ex, hcx, hmx, hrow⟩ := id (h.top.below hal)
    obtain ⟨rfl, rfl⟩ : Ax = some ⟨b, off, none⟩ ∧ cx = cv := by simp at ex; exact ⟨ex.1.symm, ex.2.symm⟩
    clear ex
    unfold maxLen at hmx
    have HCE := hide (show ∀ W, Below wb.heap.size wb W → ∀ (j : Nat) (u : Value), (ic (castL ls))[j]? = some u → W.cell? ⟨b, off + j, none⟩ = some u from fun W hW j u hu => by
      obtain ⟨b', off', e', -, hc'⟩ := hrow (by have := (List.getElem?_eq_some_iff.1 hu).1; omega)
      injection e' with e'
      injection e' with e1 e2
      subst e1 e2
      exact below_old hW _ _ (hc' j u hu))
    have HIN := hide hin
    have HWB := hide hwb
    have hsb : w.heap.size ≤ wb.heap.size := hal.size
    have hk0 : nextN ls ≤ t.length := by
      rcases List.eq_nil_or_concat ls with rfl | ⟨p, x, rfl⟩
      · exact Nat.zero_le _
      · rw [List.concat_eq_append, nextN_snoc]; exact hin x (by simp)
    obtain ⟨k0, hk0e⟩ : ∃ k0, nextN ls = k0 := ⟨_, rfl⟩
    have HK0 := hide hk0e
    rw [hk0e] at hk0
    have hlast : ls.length = 0 ∧ k0 = 0 ∨ 0 < ls.length ∧ ∃ xk : Nat, k0 = xk + 1 ∧ w.cell? ⟨b, off + (ls.length - 1), none⟩ = some (.int .i64 xk) := by
      obtain ⟨A', c', e', -, -, hrw⟩ := id h.top
      injection e' with e1 e2 e3
      subst e1
      rcases List.eq_nil_or_concat ls with rfl | ⟨p, x, rfl⟩
      · exact .inl ⟨rfl, by rw [← HK0.out]; rfl⟩
      · refine .inr ⟨by simp, x, by rw [← HK0.out, List.concat_eq_append, nextN_snoc], ?_⟩
        obtain ⟨b', off', e', -, hc'⟩ := hrw (by simp [castL])
        injection e' with e'
        injection e' with e1 e2
        subst e1 e2
        refine hc' _ _ ?_
        simp [castL, ic]
    have hbn : 0 < ls.length → ¬ (b = w.heap.size) := by
      intro h0 e
      obtain ⟨A', c', e', -, -, hrw⟩ := id h.top
      injection e' with e1 e2 e3
      subst e1
      obtain ⟨b', off', e', hlt, -⟩ := hrw (by simpa [castL] using h0)
      injection e' with e'
      injection e' with e1 e2
      omega
    obtain ⟨L, hL⟩ : ∃ L, ls.length = L := ⟨_, rfl⟩
    have HL := hide hL
    have hL99 : L + 1 + m ≤ 100 := by omega
    have hcx' : L ≤ cx := by simpa [castL, hL] using hcx
    rw [hL] at hlast hbn ⊢
    clear hwb ht h hrow ih hq hin hk0e hL hcx hl
    rcases hlast with ⟨rfl, rfl⟩ | ⟨hLp, xk, rfl, hcl⟩
    · go_enter Try.func105, Try.ntmps105
      go_wp2_with fail
      rw [← HWB.out]
      go_loopw [9] (fun i wr => ∃ k : Nat, k ≤ t.length ∧ i = .int .i64 k ∧ Hid (chooseR n t (m + 1) (0) ls = chooseR n t (m + 1) k ls) ∧ Below wb.heap.size wb wr) (fun i _ => t.length - (intOf i).toNat)
      case atStart => exact ⟨0, hk0, rfl, rfl, Below.refl _ _⟩
      case round =>
        obtain ⟨k, hk, rfl, hch, hbel⟩ := hrel
        have y00 := below_old hbel _ _ x00
        have y01 := below_old hbel _ _ x01
        have HTR := hide (HTB.out.below hbel)
        have HCR := hide (show ∀ W, Below wr.heap.size wr W → ∀ (j : Nat) (u : Value), (ic (castL ls))[j]? = some u → W.cell? ⟨b, off + j, none⟩ = some u from fun W hW => HCE.out W (below_stp hbel hW))
        have hsr := hbel.size
        by_cases hlt : k < t.length
        · have HINK := hide (show ∀ x ∈ ls ++ [k], x < t.length from fun x hx => by
            rcases List.mem_append.1 hx with hx | hx
            · exact HIN.out x hx
            · rw [List.mem_singleton.1 hx]; exact hlt)
          have HLEN := hide (show (ls ++ [k]).length + m ≤ 100 by rw [List.length_append, List.length_singleton, HL.out]; omega)
          have HCS := hide (hch.out.trans (chooseR_step n t m k ls hlt))
          have HLC := hide (show (castL ls).length = 0 by rw [← HL.out]; simp [castL])
          have HL6 := hide (show ls.length ≤ 1048576 by rw [HL.out]; omega)
          have HL7 := hide (show ls.length + 1 ≤ 1048576 by rw [HL.out]; omega)
          have HREC := hide (show ∀ (W : World) (g4 c4 : Nat), Below wr.heap.size wr W → OwnI wr.heap.size W (.slice (some ⟨g4, 0, none⟩) (0 + 1) c4) (castL ls ++ [(k : Int)]) → Calls Try.prog 105 #[.agg #[.int .i64 n, .slice A t.length c], .slice (some ⟨g4, 0, none⟩) (0 + 1) c4, .int .i64 m] W fun e w' => ∃ v' zs r1, e = .returned (.tuple #[v', .bool r1]) ∧ FInts W.heap.size w'.heap.size w' v' zs ∧ chooseP n t m (ls ++ [k]) zs r1 ∧ Below W.heap.size W w' from fun W g4 c4 hW ho => by
            have hlen : (ls ++ [k]).length = 0 + 1 := by rw [List.length_append, List.length_singleton, HL.out]
            have h9 := HIH.out _ _ g4 0 c4 (ls ++ [k]) W (HTR.out.below hW) (show Ints W.heap.size W (.slice (some ⟨g4, 0, none⟩) (ls ++ [k]).length c4) (castL (ls ++ [k])) by
              rw [hlen, show castL (ls ++ [k]) = castL ls ++ [(k : Int)] by simp [castL]]; exact ho.fints.ints) HINK.out HLEN.out
            rw [hlen] at h9
            exact h9)
          clear hch
          go_wp2_with fail
          go_region_held3 (fun w' => w'.cell? ⟨w.heap.size, 0, none⟩ = some (.int .i64 (n : Int)) ∧ w'.cell? ⟨w.heap.size, 1, none⟩ = some (.slice A t.length c)) (refine ⟨below_old (w := wr) ?_ _ _ y00, below_old (w := wr) ?_ _ _ y01⟩ <;> (repeat (first | exact hbc2 | exact hba2 | exact hba | exact Below.refl _ _ | apply below_drew_of | apply below_alloc_of)))
            ((first | (go_at_call 105; (refine (HREC.out _ g4 c4 (by (repeat (first | exact hbc2 | exact hba2 | exact hba | exact Below.refl _ _ | apply below_drew_of | apply below_alloc_of))) hown4).mono ?_; rintro e w5 ⟨v5, zs5, r5, rfl, hF5, hP5, hbc⟩; have hbc2 := below_stp (w := wr) (by (repeat (first | exact hbc2 | exact hba2 | exact hba | exact Below.refl _ _ | apply below_drew_of | apply below_alloc_of))) hbc)) | ((refine step_intsG (b := w3.heap.size) (off := 0) (m := 1) (c := 1) (ys := [(k : Int)]) rfl _ _ rfl wr.heap.size ?_ w3 hown3 ?_ ?_ ?_ rfl ?_ ?_ ?_); (· rfl); (· (repeat (first | exact Below.refl _ _ | apply below_drew_of | apply below_alloc_of))); (· exact hba.size); (· rfl); (· (refine lit_cells ?_; simp)); (· (have h7 := HL7.out; simp; omega)); (intro v4 w4 hown4 hb4 hg4; have hba2 := hba.trans hb4; obtain ⟨g4, c4, rfl⟩ := own_snoc (L := 0) hown4 HLC.out)) | ((refine step_intsG (b := wr.heap.size + 1) (off := 0) (m := 1) (c := 1) (ys := [(k : Int)]) rfl _ _ rfl wr.heap.size ?_ w3 hown3 ?_ ?_ ?_ rfl ?_ ?_ ?_); (· rfl); (· (repeat (first | exact Below.refl _ _ | apply below_drew_of | apply below_alloc_of))); (· exact hba.size); (· rfl); (· (refine lit_cells ?_; exact grown_cell hg3 (by simp) (by simp [Value.ownBlock]))); (· (have h7 := HL7.out; simp; omega)); (intro v4 w4 hown4 hb4 hg4; have hba2 := hba.trans hb4; obtain ⟨g4, c4, rfl⟩ := own_snoc (L := 0) hown4 HLC.out)) | ((refine step_intsG (b := wr.heap.size) (off := 0) (m := 1) (c := 1) (ys := [(k : Int)]) rfl _ _ rfl wr.heap.size ?_ w3 hown3 ?_ ?_ ?_ rfl ?_ ?_ ?_); (· rfl); (· (repeat (first | exact Below.refl _ _ | apply below_drew_of | apply below_alloc_of))); (· exact hba.size); (· rfl); (· (refine lit_cells ?_; exact grown_cell hg3 (by simp) (by simp [Value.ownBlock]))); (· (have h7 := HL7.out; simp; omega)); (intro v4 w4 hown4 hb4 hg4; have hba2 := hba.trans hb4; obtain ⟨g4, c4, rfl⟩ := own_snoc (L := 0) hown4 HLC.out)) | ((refine step_intsG (b := b) (off := off) (m := 0) (c := cx) (ys := castL ls) rfl _ _ rfl wr.heap.size ?_ _ (OwnI.made wr.heap.size wr (Nat.le_refl _)) ?_ ?_ ?_ HLC.out ?_ ?_ ?_); (· rfl); (· (repeat (first | exact Below.refl _ _ | apply below_drew_of | apply below_alloc_of))); (· (first | (simp; done) | (simp; omega))); (· rfl); (· exact HCR.out _ (by (repeat (first | exact hbc2 | exact hba2 | exact hba | exact Below.refl _ _ | apply below_drew_of | apply below_alloc_of)))); (· (simp; exact HL6.out)); (intro v3 w3 hown3 hb3 hg3; have hba := (show Below wr.heap.size wr _ from (by (repeat (first | exact hbc2 | exact hba2 | exact hba | exact Below.refl _ _ | apply below_drew_of | apply below_alloc_of)))).trans hb3)) | ((refine step_intsG (b := b) (off := off) (m := 0) (c := cx) (ys := castL ls) rfl _ _ rfl wr.heap.size ?_ _ (OwnI.made wr.heap.size wr.drew (Nat.le_refl _)) ?_ ?_ ?_ HLC.out ?_ ?_ ?_); (· rfl); (· (repeat (first | exact Below.refl _ _ | apply below_drew_of | apply below_alloc_of))); (· (first | (simp; done) | (simp; omega))); (· rfl); (· exact HCR.out _ (by (repeat (first | exact hbc2 | exact hba2 | exact hba | exact Below.refl _ _ | apply below_drew_of | apply below_alloc_of)))); (· (simp; exact HL6.out)); (intro v3 w3 hown3 hb3 hg3; have hba := (show Below wr.heap.size wr _ from (by (repeat (first | exact hbc2 | exact hba2 | exact hba | exact Below.refl _ _ | apply below_drew_of | apply below_alloc_of)))).trans hb3)) | ((refine step_intsG (b := b) (off := off) (m := 0) (c := cx) (ys := castL ls) rfl _ _ rfl wr.heap.size ?_ _ (OwnI.made1 wr.heap.size wr (.cells #[.int .i64 k] 3) (Nat.le_refl _)) ?_ ?_ ?_ HLC.out ?_ ?_ ?_); (· rfl); (· (repeat (first | exact Below.refl _ _ | apply below_drew_of | apply below_alloc_of))); (· (first | (simp; done) | (simp; omega))); (· rfl); (· exact HCR.out _ (by (repeat (first | exact hbc2 | exact hba2 | exact hba | exact Below.refl _ _ | apply below_drew_of | apply below_alloc_of)))); (· (simp; exact HL6.out)); (intro v3 w3 hown3 hb3 hg3; have hba := (show Below wr.heap.size wr _ from (by (repeat (first | exact hbc2 | exact hba2 | exact hba | exact Below.refl _ _ | apply below_drew_of | apply below_alloc_of)))).trans hb3)) | fail))
          all_goals (have hsw := hbc2.size; have hbf := below_stp (w := wb) hbel hbc2; have HF := hide hF5; have HP := hide hP5; cases r5)
          all_goals go_wp2_with fail
          all_goals first
            | (go_ret2; exact ⟨_, zs5, true, rfl, HF.out.mono (Nat.le_trans hsb (Nat.le_trans hsr hba2.size)) (Nat.le_refl _), by rw [HQ.out]; exact choose_yes HK0.out HCS.out HP.out, hal.trans (hbf.mono hsb)⟩)
            | (go_roundw; all_goals first | exact ⟨k + 1, by omega, by go_num, HCS.out.trans (by rw [choose_no HP.out]), hbf⟩ | (simp [intOf]; omega))
        · obtain rfl : k = t.length := by omega
          have HN := hide (hch.out.trans (chooseR_end n t m _ ls (Nat.le_refl _)))
          go_wp2_with fail
          go_ret2
          refine ⟨_, [], _, rfl, ⟨_, _, rfl, Nat.le_refl _, by simp [maxLen], Own.nil _ _ _ _⟩, ⟨?_, fun l hl => ?_⟩, hal.trans ((hbel.mono hsb).trans ((Below.refl _ _).alloc (by omega) _))⟩
          · rw [HQ.out, HK0.out, HN.out]; rfl
          · rw [HQ.out, HK0.out, HN.out] at hl; cases hl
    · have hclw := below_old hal _ _ hcl
      rw [HWB.out] at hclw
      have hxk : xk < 12 := by omega
      go_enter Try.func105, Try.ntmps105
      go_wp2_with fail
      rw [← HWB.out]
      go_loopw [9] (fun i wr => ∃ k : Nat, k ≤ t.length ∧ i = .int .i64 k ∧ Hid (chooseR n t (m + 1) (xk + 1) ls = chooseR n t (m + 1) k ls) ∧ Below wb.heap.size wb wr) (fun i _ => t.length - (intOf i).toNat)
      case atStart => exact ⟨xk + 1, hk0, by go_num, rfl, Below.refl _ _⟩
      case round =>
        obtain ⟨k, hk, rfl, hch, hbel⟩ := hrel
        have y00 := below_old hbel _ _ x00
        have y01 := below_old hbel _ _ x01
        have HTR := hide (HTB.out.below hbel)
        have HCR := hide (show ∀ W, Below wr.heap.size wr W → ∀ (j : Nat) (u : Value), (ic (castL ls))[j]? = some u → W.cell? ⟨b, off + j, none⟩ = some u from fun W hW => HCE.out W (below_stp hbel hW))
        have hsr := hbel.size
        by_cases hlt : k < t.length
        · have HINK := hide (show ∀ x ∈ ls ++ [k], x < t.length from fun x hx => by
            rcases List.mem_append.1 hx with hx | hx
            · exact HIN.out x hx
            · rw [List.mem_singleton.1 hx]; exact hlt)
          have HLEN := hide (show (ls ++ [k]).length + m ≤ 100 by rw [List.length_append, List.length_singleton, HL.out]; omega)
          have HCS := hide (hch.out.trans (chooseR_step n t m k ls hlt))
          have HLC := hide (show (castL ls).length = L by rw [← HL.out]; simp [castL])
          have HL6 := hide (show ls.length ≤ 1048576 by rw [HL.out]; omega)
          have HL7 := hide (show ls.length + 1 ≤ 1048576 by rw [HL.out]; omega)
          have HREC := hide (show ∀ (W : World) (g4 c4 : Nat), Below wr.heap.size wr W → OwnI wr.heap.size W (.slice (some ⟨g4, 0, none⟩) (L + 1) c4) (castL ls ++ [(k : Int)]) → Calls Try.prog 105 #[.agg #[.int .i64 n, .slice A t.length c], .slice (some ⟨g4, 0, none⟩) (L + 1) c4, .int .i64 m] W fun e w' => ∃ v' zs r1, e = .returned (.tuple #[v', .bool r1]) ∧ FInts W.heap.size w'.heap.size w' v' zs ∧ chooseP n t m (ls ++ [k]) zs r1 ∧ Below W.heap.size W w' from fun W g4 c4 hW ho => by
            have hlen : (ls ++ [k]).length = L + 1 := by rw [List.length_append, List.length_singleton, HL.out]
            have h9 := HIH.out _ _ g4 0 c4 (ls ++ [k]) W (HTR.out.below hW) (show Ints W.heap.size W (.slice (some ⟨g4, 0, none⟩) (ls ++ [k]).length c4) (castL (ls ++ [k])) by
              rw [hlen, show castL (ls ++ [k]) = castL ls ++ [(k : Int)] by simp [castL]]; exact ho.fints.ints) HINK.out HLEN.out
            rw [hlen] at h9
            exact h9)
          clear hch
          go_wp2_with fail
          go_region_held3 (fun w' => w'.cell? ⟨w.heap.size, 0, none⟩ = some (.int .i64 (n : Int)) ∧ w'.cell? ⟨w.heap.size, 1, none⟩ = some (.slice A t.length c)) (refine ⟨below_old (w := wr) ?_ _ _ y00, below_old (w := wr) ?_ _ _ y01⟩ <;> (repeat (first | exact hbc2 | exact hba2 | exact hba | exact Below.refl _ _ | apply below_drew_of | apply below_alloc_of)))
            ((first | (go_at_call 105; (refine (HREC.out _ g4 c4 (by (repeat (first | exact hbc2 | exact hba2 | exact hba | exact Below.refl _ _ | apply below_drew_of | apply below_alloc_of))) hown4).mono ?_; rintro e w5 ⟨v5, zs5, r5, rfl, hF5, hP5, hbc⟩; have hbc2 := below_stp (w := wr) (by (repeat (first | exact hbc2 | exact hba2 | exact hba | exact Below.refl _ _ | apply below_drew_of | apply below_alloc_of))) hbc)) | ((refine step_intsG (b := w3.heap.size) (off := 0) (m := 1) (c := 1) (ys := [(k : Int)]) rfl _ _ rfl wr.heap.size ?_ w3 hown3 ?_ ?_ ?_ rfl ?_ ?_ ?_); (· rfl); (· (repeat (first | exact Below.refl _ _ | apply below_drew_of | apply below_alloc_of))); (· exact hba.size); (· rfl); (· (refine lit_cells ?_; simp)); (· (have h7 := HL7.out; simp; omega)); (intro v4 w4 hown4 hb4 hg4; have hba2 := hba.trans hb4; obtain ⟨g4, c4, rfl⟩ := own_snoc (L := L) hown4 HLC.out)) | ((refine step_intsG (b := wr.heap.size + 1) (off := 0) (m := 1) (c := 1) (ys := [(k : Int)]) rfl _ _ rfl wr.heap.size ?_ w3 hown3 ?_ ?_ ?_ rfl ?_ ?_ ?_); (· rfl); (· (repeat (first | exact Below.refl _ _ | apply below_drew_of | apply below_alloc_of))); (· exact hba.size); (· rfl); (· (refine lit_cells ?_; exact grown_cell hg3 (by simp) (by simp [Value.ownBlock]))); (· (have h7 := HL7.out; simp; omega)); (intro v4 w4 hown4 hb4 hg4; have hba2 := hba.trans hb4; obtain ⟨g4, c4, rfl⟩ := own_snoc (L := L) hown4 HLC.out)) | ((refine step_intsG (b := wr.heap.size) (off := 0) (m := 1) (c := 1) (ys := [(k : Int)]) rfl _ _ rfl wr.heap.size ?_ w3 hown3 ?_ ?_ ?_ rfl ?_ ?_ ?_); (· rfl); (· (repeat (first | exact Below.refl _ _ | apply below_drew_of | apply below_alloc_of))); (· exact hba.size); (· rfl); (· (refine lit_cells ?_; exact grown_cell hg3 (by simp) (by simp [Value.ownBlock]))); (· (have h7 := HL7.out; simp; omega)); (intro v4 w4 hown4 hb4 hg4; have hba2 := hba.trans hb4; obtain ⟨g4, c4, rfl⟩ := own_snoc (L := L) hown4 HLC.out)) | ((refine step_intsG (b := b) (off := off) (m := L) (c := cx) (ys := castL ls) rfl _ _ rfl wr.heap.size ?_ _ (OwnI.made wr.heap.size wr (Nat.le_refl _)) ?_ ?_ ?_ HLC.out ?_ ?_ ?_); (· rfl); (· (repeat (first | exact Below.refl _ _ | apply below_drew_of | apply below_alloc_of))); (· (first | (simp; done) | (simp; omega))); (· rfl); (· exact HCR.out _ (by (repeat (first | exact hbc2 | exact hba2 | exact hba | exact Below.refl _ _ | apply below_drew_of | apply below_alloc_of)))); (· (simp; exact HL6.out)); (intro v3 w3 hown3 hb3 hg3; have hba := (show Below wr.heap.size wr _ from (by (repeat (first | exact hbc2 | exact hba2 | exact hba | exact Below.refl _ _ | apply below_drew_of | apply below_alloc_of)))).trans hb3)) | ((refine step_intsG (b := b) (off := off) (m := L) (c := cx) (ys := castL ls) rfl _ _ rfl wr.heap.size ?_ _ (OwnI.made wr.heap.size wr.drew (Nat.le_refl _)) ?_ ?_ ?_ HLC.out ?_ ?_ ?_); (· rfl); (· (repeat (first | exact Below.refl _ _ | apply below_drew_of | apply below_alloc_of))); (· (first | (simp; done) | (simp; omega))); (· rfl); (· exact HCR.out _ (by (repeat (first | exact hbc2 | exact hba2 | exact hba | exact Below.refl _ _ | apply below_drew_of | apply below_alloc_of)))); (· (simp; exact HL6.out)); (intro v3 w3 hown3 hb3 hg3; have hba := (show Below wr.heap.size wr _ from (by (repeat (first | exact hbc2 | exact hba2 | exact hba | exact Below.refl _ _ | apply below_drew_of | apply below_alloc_of)))).trans hb3)) | ((refine step_intsG (b := b) (off := off) (m := L) (c := cx) (ys := castL ls) rfl _ _ rfl wr.heap.size ?_ _ (OwnI.made1 wr.heap.size wr (.cells #[.int .i64 k] 3) (Nat.le_refl _)) ?_ ?_ ?_ HLC.out ?_ ?_ ?_); (· rfl); (· (repeat (first | exact Below.refl _ _ | apply below_drew_of | apply below_alloc_of))); (· (first | (simp; done) | (simp; omega))); (· rfl); (· exact HCR.out _ (by (repeat (first | exact hbc2 | exact hba2 | exact hba | exact Below.refl _ _ | apply below_drew_of | apply below_alloc_of)))); (· (simp; exact HL6.out)); (intro v3 w3 hown3 hb3 hg3; have hba := (show Below wr.heap.size wr _ from (by (repeat (first | exact hbc2 | exact hba2 | exact hba | exact Below.refl _ _ | apply below_drew_of | apply below_alloc_of)))).trans hb3)) | fail))
          all_goals (have hsw := hbc2.size; have hbf := below_stp (w := wb) hbel hbc2; have HF := hide hF5; have HP := hide hP5; cases r5)
          all_goals go_wp2_with fail
          all_goals first
            | (go_ret2; exact ⟨_, zs5, true, rfl, HF.out.mono (Nat.le_trans hsb (Nat.le_trans hsr hba2.size)) (Nat.le_refl _), by rw [HQ.out]; exact choose_yes HK0.out HCS.out HP.out, hal.trans (hbf.mono hsb)⟩)
            | (go_roundw; all_goals first | exact ⟨k + 1, by omega, by go_num, HCS.out.trans (by rw [choose_no HP.out]), hbf⟩ | (simp [intOf]; omega))
        · obtain rfl : k = t.length := by omega
          have HN := hide (hch.out.trans (chooseR_end n t m _ ls (Nat.le_refl _)))
          go_wp2_with fail
          go_ret2
          refine ⟨_, [], _, rfl, ⟨_, _, rfl, Nat.le_refl _, by simp [maxLen], Own.nil _ _ _ _⟩, ⟨?_, fun l hl => ?_⟩, hal.trans ((hbel.mono hsb).trans ((Below.refl _ _).alloc (by omega) _))⟩
          · rw [HQ.out, HK0.out, HN.out]; rfl
          · rw [HQ.out, HK0.out, HN.out] at hl; cases hl

end Go.Proofs.Ytkmkdfogpdndoaa
