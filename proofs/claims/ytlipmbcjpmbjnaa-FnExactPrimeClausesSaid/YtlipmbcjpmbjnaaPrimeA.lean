/- The walk of the program's visit of all clauses. -/
import Derived.Test.YtlipmbcjpmbjnaaPrimeI
namespace Go.Proofs.Ytlipmbcjpmbjnaa
open Go.RowKit
set_option linter.unusedVariables false

theorem PrFr.under {tb base : Nat} {w0 w w' : World} {q q' : Value} {qs : List (Value × List Int)} (h : PrFr tb w w' q q') (hR : FRT base w0 q qs) (htb : tb < base) (hs : tb ≤ w.heap.size) : Below tb w w' :=
  ⟨h.os, h.tape, h.output, h.size, fun g hg => h.block g (by omega) (by omega) (hR.notAt (by omega)).1⟩
theorem PrFr.fints {tb base : Nat} {w0 w w' : World} {q q' vc : Value} {qs : List (Value × List Int)} {c : List Int} (h : PrFr tb w w' q q') (hR : FRT base w0 q qs) (htb : tb < base) (hb : base ≤ w0.heap.size) (hu : FInts w0.heap.size w.heap.size w vc c) : FInts w0.heap.size w.heap.size w' vc c := by
  obtain ⟨A, cap, e, h1, h2, h3⟩ := hu
  refine ⟨A, cap, e, h1, h2, h3.keep fun b u off hb1 hb2 hc => h.block b hb2 (by omega) fun e => ?_⟩
  have := (hR.1.block_lt e).2
  omega

set_option maxHeartbeats 3200000 in
theorem i_allClauses (base hi nv : Nat) (t : List (List Int)) (sl : Value) (fb tb : Nat) (htb : tb < base) (hft : fb < tb) (hht : hi ≤ tb) (hn : nv ≤ 12) (hs : ∀ c ∈ t, ∀ l ∈ c, l ≠ 0 ∧ -12 ≤ l ∧ l ≤ 12) (htl : t.length ≤ 60) : ∀ (n f : Nat) (vc q : Value) (c : List Int) (qs : List (Value × List Int)) (w0 w : World) (hnf : f + n = nv + 1) (hf1 : 1 ≤ f)
    (hF : Blk w fb 29 #[.int .i64 nv, sl]) (hT : Tab hi w sl t) (hB : Blk w tb 29 #[.int .i64 nv, q]) (hR : FRT base w0 q qs) (hw : Below w0.heap.size w0 w) (hu : FInts w0.heap.size w.heap.size w vc c)
    (hbs : base ≤ w0.heap.size) (hcs : smallL c) (hcl : c.length + n ≤ 12) (hql : qs.length + ((c :: visR n f c).filter (primeI ((nv : Int), t))).length ≤ 100000),
    Calls Try.prog 62 #[.int .i64 nv, .int .i64 f, vc, .func (.func 63) #[] #[.pointer (some ⟨fb, 0, none⟩), .pointer (some ⟨tb, 0, none⟩)]] w fun e w' => ∃ q' rs, e = .returned (.tuple #[]) ∧ Blk w' tb 29 #[.int .i64 nv, q'] ∧ FRT base w' q' (qs ++ rs) ∧ rs.map (·.2) = (c :: visR n f c).filter (primeI ((nv : Int), t)) ∧ PrFr tb w w' q q' := by
  have eg := Go.Proofs.enters_of Try.func63 (by kernel_rfl) rfl
  intro n
  induction n using Nat.strongRecOn with
  | ind n ih =>
    intro f vc q c qs w0 w hnf hf1 hF hT hB hR hw hu hbs hcs hcl hql
    have HIH := hide ih
    have HS := hide hs
    have HCS := hide hcs
    have HU := hide hu
    have HT := hide hT
    have HF := hide hF
    have HR := hide hR
    have HQL := hide hql
    have HC0 := hide (i_prime1 nv t sl vc q c qs fb tb w0 w hF hT hB hR hw hu htb hbs hn hs htl hcs (by omega) (by omega))
    obtain ⟨A, cap, rfl, hc, hm, -⟩ := id hu
    have HBS := hide hbs
    have HTB := hide hB.lt
    have HWW := hide hw.size
    have HCALL := hide (show ∀ (j m : Nat) (y : Int) (wr w3 : World) (v3 q' : Value) (rs : List (Value × List Int)), m < n → j + 1 + m = nv + 1 → 1 ≤ j → y ≠ 0 ∧ -12 ≤ y ∧ y ≤ 12 → Blk wr tb 29 #[.int .i64 nv, q'] → FRT base wr q' (qs ++ rs) → PrFr tb w wr q q' → Below wr.heap.size wr w3 → OwnI wr.heap.size w3 v3 (c ++ [y]) → qs.length + rs.length + (((c ++ [y]) :: visR m (j + 1) (c ++ [y])).filter (primeI ((nv : Int), t))).length ≤ 100000 →
        Calls Try.prog 62 #[.int .i64 nv, (.int .i64 ((j : Int) + 1)), v3, .func (.func 63) #[] #[.pointer (some ⟨fb, 0, none⟩), .pointer (some ⟨tb, 0, none⟩)]] w3 fun e w' => ∃ q2 rs2, e = .returned (.tuple #[]) ∧ Blk w' tb 29 #[.int .i64 nv, q2] ∧ FRT base w' q2 (qs ++ (rs ++ rs2)) ∧ rs2.map (·.2) = ((c ++ [y]) :: visR m (j + 1) (c ++ [y])).filter (primeI ((nv : Int), t)) ∧ PrFr tb w w' q q2 from fun j m y wr w3 v3 q' rs hmn hjm hj1 hy hBr hRr hPr hb3 hO3 hql2 => by
      have hwj : (j : Int) + 1 = ((j + 1 : Nat) : Int) := by omega
      rw [hwj]
      have hbw : base ≤ w.heap.size := Nat.le_trans hbs hw.size
      have hU : Below tb w w3 := (hPr.under hR htb (by omega)).trans (hb3.mono (by have := hPr.size; omega))
      have hsm : smallL (c ++ [y]) := fun x hx => by
        rcases List.mem_append.1 hx with hx | hx
        · exact hcs x hx
        · obtain rfl := List.mem_singleton.1 hx; exact hy
      refine (ih m hmn (j + 1) v3 q' (c ++ [y]) (qs ++ rs) wr w3 hjm (by omega) ((hU.block fb hft).trans hF) (hT.under hU hht) (hBr.below hb3 hBr.lt) hRr hb3 hO3.fints (Nat.le_trans hbw hPr.size) hsm (by simp; omega) (by rw [List.length_append]; exact hql2)).mono ?_
      rintro e w' ⟨q2, rs2, rfl, h1, h2, h3, h4⟩
      exact ⟨q2, rs2, rfl, h1, by rw [← List.append_assoc]; exact h2, h3, hPr.trans ((PrFr.below hb3).trans h4)⟩)
    clear ih hs hcs hu hT hF hR hql hB hw hbs
    go_enter Try.func62, Try.ntmps62
    go_wp2_with fail
    refine HC0.out.mono ?_
    rintro e w1 ⟨q1, rs1, rfl, hB1, hR1, hm1, hP1⟩
    have HI := hide (show (c :: visR n f c).filter (primeI ((nv : Int), t)) = rs1.map (·.2) ++ (visR n f c).filter (primeI ((nv : Int), t)) by rw [hm1, show c :: visR n f c = [c] ++ visR n f c from rfl, List.filter_append])
    have HP1 := hide hP1
    clear hm1 HC0 hP1
    go_wp2_with fail
    go_loopw [8] (fun i wr => ∃ (j m : Nat) (q' : Value) (rs : List (Value × List Int)), j + m = nv + 1 ∧ f ≤ j ∧ i = .int .i64 j ∧ Blk wr tb 29 #[.int .i64 nv, q'] ∧ FRT base wr q' (qs ++ rs) ∧ Hid ((c :: visR n f c).filter (primeI ((nv : Int), t)) = rs.map (·.2) ++ (visR m j c).filter (primeI ((nv : Int), t))) ∧ PrFr tb w wr q q') (fun i _ => (nv + 1) - (intOf i).toNat)
    case atStart => exact ⟨f, n, q1, rs1, hnf, Nat.le_refl _, rfl, hB1, hR1, HI, HP1.out⟩
    case round =>
      obtain ⟨j, m, q', rs, hjm, hfj, rfl, hBr, hRr, hch, hPr⟩ := hrel
      by_cases hlt : j ≤ nv
      · obtain ⟨m, rfl⟩ : ∃ m', m = m' + 1 := ⟨m - 1, by omega⟩
        have hjle : (j : Int) ≤ (nv : Int) := by omega
        have hneg : wrap64 (-(j : Int)) = -(j : Int) := IntWalk.wrap64_in _ (by omega)
        have hV : visR (m + 1) j c = ((c ++ [(j : Int)]) :: visR m (j + 1) (c ++ [(j : Int)])) ++ (((c ++ [-(j : Int)]) :: visR m (j + 1) (c ++ [-(j : Int)])) ++ visR m (j + 1) c) := rfl
        have hlen := congrArg List.length hch.out
        rw [hV, List.filter_append, List.filter_append] at hlen
        simp only [List.length_append, List.length_map] at hlen
        have hq0 := HQL.out
        have hs0 : base ≤ w.heap.size := Nat.le_trans HBS.out HWW.out
        have hsr := hPr.size
        have HZL := hide (show c.length ≤ 16777216 by omega)
        have cR := (hPr.fints HR.out htb HBS.out HU.out).ints
        have HC1 := hide (show ∀ (w3 : World) (v3 : Value), Below wr.heap.size wr w3 → OwnI wr.heap.size w3 v3 (c ++ [(j : Int)]) → _ from fun w3 v3 h1 h2 => HCALL.out j m (j : Int) wr w3 v3 q' rs (by omega) (by omega) (by omega) (by omega) hBr hRr hPr h1 h2 (by omega))
        have HBS2 := hide hs0
        have HCH := hide hch.out
        have HLEN := hide (show ∀ rs2 : List (Value × List Int), rs2.map (·.2) = ((c ++ [(j : Int)]) :: visR m (j + 1) (c ++ [(j : Int)])).filter (primeI ((nv : Int), t)) → qs.length + (rs ++ rs2).length + (((c ++ [-(j : Int)]) :: visR m (j + 1) (c ++ [-(j : Int)])).filter (primeI ((nv : Int), t))).length ≤ 100000 from fun rs2 h2 => by
          have h3 := congrArg List.length h2
          rw [List.length_map] at h3
          rw [List.length_append]
          omega)
        have HHV := hide hV
        clear hch hPr hRr hBr hlen hV hq0
        go_wp2_with fail
        refine (g_Clone _ c _ cR HZL.out).mono ?_
        rintro e w2 ⟨v2, rfl, hown2, hb2⟩
        have hs2 := hb2.size
        go_wp2_with (at_builtin; refine append_int rfl _ _ rfl wr.heap.size rfl hown2 rfl (by have := HZL.out; omega) hs2 ?_; intro v3 w3 hown3 hb3; obtain ⟨A3, c3, rfl, -⟩ := id hown3.fints; simp only [List.length_append, List.length_cons, List.length_nil, Nat.zero_add] at hown3)
        refine (HC1.out w3 _ (hb2.trans hb3) hown3).mono ?_
        rintro e w4 ⟨q4, rs4, rfl, hB4, hR4, hm4, hP4⟩
        have cR4 := (hP4.fints HR.out htb HBS.out HU.out).ints
        have hs4 := hP4.size
        have HC2 := hide (show ∀ (w5 : World) (v5 : Value), Below w4.heap.size w4 w5 → OwnI w4.heap.size w5 v5 (c ++ [-(j : Int)]) → _ from fun w5 v5 h1 h2 => HCALL.out j m (-(j : Int)) w4 w5 v5 q4 (rs ++ rs4) (by omega) (by omega) (by omega) (by omega) hB4 hR4 hP4 h1 h2 (HLEN.out rs4 hm4))
        have HM4 := hide hm4
        clear hb2 hb3 hown2 hown3 hs2 hB4 hR4 hP4 hm4 HC1
        go_wp2_with fail
        refine (g_Clone _ c _ cR4 HZL.out).mono ?_
        rintro e w5 ⟨v5, rfl, hown5, hb5⟩
        have hs5 := hb5.size
        go_wp2_with (at_builtin; refine append_int rfl _ _ rfl w4.heap.size rfl hown5 rfl (by have := HZL.out; omega) hs5 ?_; intro v6 w6 hown6 hb6; obtain ⟨A6, c6, rfl, -⟩ := id hown6.fints; simp only [List.length_append, List.length_cons, List.length_nil, Nat.zero_add] at hown6)
        refine (HC2.out w6 _ (hb5.trans hb6) hown6).mono ?_
        rintro e w7 ⟨q7, rs7, rfl, hB7, hR7, hm7, hP7⟩
        have HF := hide (show (c :: visR n f c).filter (primeI ((nv : Int), t)) = (rs ++ rs4 ++ rs7).map (·.2) ++ (visR m (j + 1) c).filter (primeI ((nv : Int), t)) by
          rw [HCH.out, HHV.out, List.filter_append, List.filter_append, ← HM4.out, ← hm7]
          simp)
        clear hb5 hb6 hown5 hown6 hs5 hm7 HC2
        go_wp2_with fail
        go_roundw
        case rel => exact ⟨j + 1, m, q7, rs ++ rs4 ++ rs7, by omega, by omega, by go_num, hB7, hR7, HF.out, hP7⟩
        case measure => (simp [intOf] <;> omega)
      · obtain rfl : j = nv + 1 := by omega
        obtain rfl : m = 0 := by omega
        have HF := hide (show rs.map (·.2) = (c :: visR n f c).filter (primeI ((nv : Int), t)) by rw [hch.out]; simp [visR])
        have HPR := hide hPr
        clear hch hPr
        go_wp2_with fail
        go_end0
        exact ⟨rfl, q', hBr, rs, hRr, HF.out, HPR.out⟩

end Go.Proofs.Ytlipmbcjpmbjnaa
