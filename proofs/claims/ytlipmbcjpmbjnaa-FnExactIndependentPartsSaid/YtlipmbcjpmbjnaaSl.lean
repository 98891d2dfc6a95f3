/- The walks of the library's slice functions on ints that make or write memory: Clone, ContainsFunc, DeleteFunc; and what stands on them. -/
import Derived.Test.YtlipmbcjpmbjnaaBase
import Derived.Test.YtlipmbcjpmbjnaaClause
import Derived.Test.YtlipmbcjpmbjnaaHas
namespace Go.Proofs.Ytlipmbcjpmbjnaa
open Go.RowKit
set_option linter.unusedVariables false

set_option maxHeartbeats 400000 in
theorem g_Clone {hi : Nat} (v : Value) (zs : List Int) (w : World) (h : Ints hi w v zs) (hn : zs.length ≤ 16777216) :
    Calls Try.prog 82 #[v] w fun e w' => ∃ v', e = .returned v' ∧ OwnI w.heap.size w' v' zs ∧ Below w.heap.size w w' := by
  obtain ⟨A, c, rfl, hc, hm, hrow⟩ := h
  unfold maxLen at hm
  rcases A with _ | ad
  · have hz : zs = [] := by
      rcases Nat.eq_zero_or_pos zs.length with h0 | h0
      · exact List.eq_nil_of_length_eq_zero h0
      · obtain ⟨_, _, hh, _⟩ := hrow (by simpa using h0)
        cases hh
    have heq : ∀ W, (binOp .eql 26 (.slice none zs.length c) (.slice none 0 0)).run Try.prog W = .ok (.bool true) W := fun W => Lib.run_eql_slice_nil W 26 3 none zs.length c 0 0 Try.underlying26
    have HZ := hide hz
    clear hz
    go_enter Try.func82, Try.ntmps82
    go_wp2_with fail
    go_ret
    exact ⟨_, rfl, by rw [HZ.out]; exact OwnI.nil _ _, Below.refl _ _⟩
  · have heq : ∀ W, (binOp .eql 26 (.slice (some ad) zs.length c) (.slice none 0 0)).run Try.prog W = .ok (.bool false) W := fun W => Lib.run_eql_slice_nil W 26 3 (some ad) zs.length c 0 0 Try.underlying26
    have hmade := OwnI.made w.heap.size w (Nat.le_refl _)
    have hrow' := hrow.below ((Below.refl w.heap.size w).alloc (Nat.le_refl _) (.cells #[] 3))
    go_enter Try.func82, Try.ntmps82
    go_wp2_with (at_builtin; refine append_ints rfl _ _ rfl w.heap.size rfl hmade rfl hrow' (by simp; omega) (by simp) ?_; intro v1 w1 hown1 hb1)
    go_ret
    exact ⟨_, rfl, by simpa using hown1, ((Below.refl _ _).alloc (Nat.le_refl _) _).trans hb1⟩

/-- What is asked of a function value that answers a bool for each number, in every world that is as w below lo. -/
def AnswersV (P : Program) (g : FuncId) (lb : Array Value) (zs : List Int) (p : Int → Bool) (lo : Nat) (w : World) : Prop :=
  ∀ x ∈ zs, ∀ W : World, Below lo w W → Calls P g (#[.int .i64 x] ++ lb) W fun e w' => e = .returned (.bool (p x)) ∧ Below W.heap.size W w'

theorem AnswersV.cells {P : Program} {g : FuncId} {lb : Array Value} {zs : List Int} {p : Int → Bool} {lo : Nat} {w : World} (h : AnswersV P g lb zs p lo w) (hl : lo ≤ w.heap.size) : Answers P g lb (ic zs) (zs.map p) w := by
  intro j u b hu hb W hW
  rw [List.getElem?_map] at hu hb
  obtain ⟨z, hz, rfl⟩ := Option.map_eq_some_iff.1 hu
  rw [hz] at hb
  obtain rfl : p z = b := by simpa using hb
  exact h z (List.mem_of_getElem? hz) W (hW.mono hl)

theorem firstT_map {p : Int → Bool} : ∀ (zs : List Int) (k : Nat), (firstT (zs.map p) k = -1 ∧ zs.filter (fun x => !p x) = zs) ∨
    ∃ i, i < zs.length ∧ firstT (zs.map p) k = ((k + i : Nat) : Int) ∧ (zs.take (i + 1)).filter (fun x => !p x) = zs.take i
  | [], _ => .inl ⟨rfl, rfl⟩
  | x :: r, k => by
    cases hx : p x with
    | true => exact .inr ⟨0, by simp, by simp [firstT, hx], by simp [hx]⟩
    | false =>
      rcases firstT_map (p := p) r (k + 1) with ⟨h1, h2⟩ | ⟨i, h1, h2, h3⟩
      · exact .inl ⟨by simp [firstT, hx, h1], by simp [hx, h2]⟩
      · exact .inr ⟨i + 1, by simp; omega, by simp [firstT, hx, h2]; omega, by simp [hx, h3]⟩

/-- what the round leaves: i kept so far, j looked at -/
def Kept (p : Int → Bool) (zs L : List Int) (i j : Nat) : Prop := L.length = zs.length ∧ L.take i = (zs.take j).filter (fun x => !p x) ∧ i < j ∧ j ≤ zs.length ∧ L.drop j = zs.drop j

theorem Kept.keep {p : Int → Bool} {zs L : List Int} {i j : Nat} {x : Int} (h : Kept p zs L i j) (hx : zs.drop j = x :: zs.drop (j + 1)) (hp : p x = false) (hj : j < zs.length) : Kept p zs (L.set i x) (i + 1) (j + 1) := by
  obtain ⟨h1, h2, h3, h4, h5⟩ := h
  refine ⟨by simpa using h1, ?_, by omega, by omega, ?_⟩
  · have e1 : (L.set i x).take (i + 1) = L.take i ++ [x] := by
      rw [List.take_succ_eq_append_getElem (by simp; omega)]
      simp [List.take_set_of_le]
    rw [e1, h2, take_snoc hx, List.filter_append]
    simp [hp]
  · rw [List.drop_set_of_lt (by omega)]
    have := congrArg (fun l => l.drop 1) h5
    simpa using this

theorem Kept.drop {p : Int → Bool} {zs L : List Int} {i j : Nat} {x : Int} (h : Kept p zs L i j) (hx : zs.drop j = x :: zs.drop (j + 1)) (hp : p x = true) (hj : j < zs.length) : Kept p zs L i (j + 1) := by
  obtain ⟨h1, h2, h3, h4, h5⟩ := h
  refine ⟨h1, ?_, by omega, by omega, ?_⟩
  · rw [h2, take_snoc hx, List.filter_append]
    simp [hp]
  · have := congrArg (fun l => l.drop 1) h5
    simpa using this

set_option maxHeartbeats 800000 in
theorem g_DeleteFunc {lo hi : Nat} (v : Value) (g : Nat) (lb : Array Value) (zs : List Int) (p : Int → Bool) (w : World) (h : FInts lo hi w v zs) (hlo : lo ≤ w.heap.size)
    (eg : ∀ args W, (callFunc g args).run Try.prog W = .ok (.enter g args) W) (hp : AnswersV Try.prog g lb zs p lo w) :
    Calls Try.prog 120 #[v, .func (.func g) #[] lb] w fun e w' => ∃ v', e = .returned v' ∧ FInts lo hi w' v' (zs.filter fun x => !p x) ∧ Below lo w w' := by
  obtain ⟨A, c, rfl, hc, hm, hown⟩ := h
  have hm' := hm
  unfold maxLen at hm
  have HA := hide (hp.cells hlo)
  have HP := hide hp
  clear hp
  rcases firstT_map (p := p) zs 0 with ⟨h1, h2⟩ | ⟨i0, h1, h2, h3⟩
  · have H1 := hide h1
    have H2 := hide h2
    clear h1 h2
    go_enter Try.func120, Try.ntmps120
    go_wp2_with fail
    refine (g_IndexFunc A c g lb zs _ w hc hm' hown.row (by simp) eg HA.out).mono ?_
    rintro e w1 ⟨rfl, hb1⟩
    rw [H1.out]
    go_wp2_with fail
    go_ret
    exact ⟨_, rfl, by rw [H2.out]; exact ⟨A, c, rfl, hc, hm', hown.below hb1⟩, hb1.mono hlo⟩
  · have H2 := hide h2
    have H3 := hide h3
    clear h2 h3
    obtain ⟨b, off, rfl, hl, hh, hcel⟩ := hown.cel (by simp; omega)
    have hneg : ((i0 : Int) == -1) = false := by simp
    go_enter Try.func120, Try.ntmps120
    go_wp2_with fail
    refine (g_IndexFunc _ c g lb zs _ w hc hm' hown.row (by simp) eg HA.out).mono ?_
    rintro e w1 ⟨rfl, hb1⟩
    rw [H2.out]
    rw [show ((0 + i0 : Nat) : Int) = (i0 : Int) from by omega]
    go_wp2_with fail
    clear hown
    go_loopw [5, 6] (fun iv jv wr => ∃ (i j : Nat) (L : List Int), iv = .int .i64 i ∧ jv = .int .i64 j ∧ Kept p zs L i j ∧ Cel wr b off (ic L) ∧ Below lo w wr) (fun _ jv _ => zs.length - (intOf jv).toNat)
    case atStart =>
      exact ⟨i0, i0 + 1, zs, rfl, by go_num, ⟨rfl, by rw [H3.out], by omega, by omega, rfl⟩, hcel.below hb1, hb1.mono hlo⟩
    case round =>
      obtain ⟨i, j, L, rfl, rfl, hK, hC, hbel⟩ := hrel
      have hij := hK.2.2.1
      have hjn := hK.2.2.2.1
      have hLn := hK.1
      by_cases hlt : j < zs.length
      · have hxj : zs.drop j = zs[j] :: zs.drop (j + 1) := List.drop_eq_getElem_cons hlt
        obtain ⟨x, hx⟩ : ∃ x, zs[j] = x := ⟨_, rfl⟩
        rw [hx] at hxj
        have hLj : L[j]? = some x := by
          have := congrArg (fun l => l[0]?) (hK.2.2.2.2.trans hxj)
          simpa [List.getElem?_drop] using this
        have hcj := (hC j (.int .i64 x) (by rw [List.getElem?_map, hLj]; rfl)).1
        have hpx := HP.out x (by rw [← hx]; exact List.getElem_mem hlt) wr hbel
        have HPX := hide hpx
        have HXJ := hide hxj
        have HLN := hide hLn
        clear hpx hxj hx hLj hLn
        go_wp2_with fail
        refine HPX.out.mono ?_
        rintro e w2 ⟨rfl, hb2⟩
        have hC2 := hC.below hb2
        have hbel2 := hbel.trans (hb2.mono (Nat.le_trans hlo hbel.size))
        cases hpv : p x with
        | true =>
          go_wp2_with fail
          go_roundw
          case rel => exact ⟨i, j + 1, L, rfl, by go_num, hK.drop HXJ.out hpv hlt, hC2, hbel2⟩
          case measure => simp [intOf]; omega
        | false =>
          have hiL : i < L.length := by rw [HLN.out]; omega
          obtain ⟨u0, hu0⟩ : ∃ u0, L[i] = u0 := ⟨_, rfl⟩
          have hci := hC2 i (.int .i64 u0) (by simp [List.getElem?_eq_getElem hiL, hu0])
          have hci1 := hci.1
          have hci2 := hci.2
          clear hci hu0
          have HC3 := hide (hC2.set_ (i := i) (by simpa using hiL) (.int .i64 x))
          have HIL := hide hiL
          clear hiL
          go_wp2_with fail
          go_roundw
          case rel => exact ⟨i + 1, j + 1, L.set i x, by go_num, by go_num, hK.keep HXJ.out hpv hlt, by simpa [ic, List.map_set] using HC3.out, hbel2.setCell hl _⟩
          case measure => simp [intOf]; omega
      · obtain rfl : j = zs.length := by omega
        have hcl := fun ty => Lib.run_clear_slice (P := Try.prog) wr 26 3 ty (.int .i64 0) Try.underlying26 (fun w => by kernel_rfl) rfl rfl b (off + i) (zs.length - i) (c - i) (by omega)
          (fun q hq => by
            have := (hC (i + q) (.int .i64 (L[i + q]'(by omega))) (by simp [List.getElem?_eq_getElem (show i + q < L.length by omega)])).1
            rw [Nat.add_assoc, this]; rfl)
          (fun q hq => by
            have := (hC (i + q) (.int .i64 (L[i + q]'(by omega))) (by simp [List.getElem?_eq_getElem (show i + q < L.length by omega)])).2
            rw [Nat.add_assoc, this])
        have HLN := hide hLn
        clear hLn
        go_wp2_with fail
        go_ret
        have hF : (zs.filter fun x => !p x) = L.take i := by rw [hK.2.1, List.take_length]
        have hFl : (zs.filter fun x => !p x).length = i := by rw [hF, List.length_take, HLN.out]; omega
        refine ⟨_, rfl, ⟨some ⟨b, off, none⟩, c, by rw [hFl]; rfl, by rw [hFl]; omega, hm', ?_⟩, below_setCells b hl _ _ _ hbel⟩
        rw [hF]
        have hcc := hC.clear i (List.replicate (zs.length - i) (.int .i64 0))
        exact Cel.own (by simpa [ic, List.map_take] using hcc) hl hh

end Go.Proofs.Ytlipmbcjpmbjnaa
