/- The contracts of BackboneOf: the library's DeleteFunc with what it leaves alone; the program's and the reference's. -/
import Derived.Test.YtkmkdfogpdndoaaBackPl
import Derived.Test.YtkmkdfogpdndoaaTopC
import Derived.Test.YtkmkdfogpdndoaaImp
import Derived.Test.YtkmkdfogpdndoaaSl
import Derived.Test.YtkmkdfogpdndoaaBits
namespace Go.Proofs.Ytkmkdfogpdndoaa
open Go.RowKit
set_option linter.unusedVariables false

theorem below_grownO {w W : World} (h : Below w.heap.size w W) (o : Option Nat) : w.grownBy W o := ⟨h.os, h.tape, h.output, h.size, fun i hi _ => h.block i hi⟩
theorem grown_setCells {a : World} {g : Nat} : ∀ (vs : List Value) (off : Nat) (w : World), a.grownBy w (some g) → a.grownBy (w.setCells g off vs) (some g)
  | [], _, _, h => h
  | v :: r, off, w, h => grown_setCells r (off + 1) _ (grown_setCell h off v)

/-- What is asked of a function value that answers a bool for each number, in every world grown from w in which block o alone has turned. -/
def AnswersO (P : Program) (g : FuncId) (lb : Array Value) (zs : List Int) (p : Int → Bool) (o : Option Nat) (w : World) : Prop :=
  ∀ x ∈ zs, ∀ W : World, w.grownBy W o → Calls P g (#[.int .i64 x] ++ lb) W fun e w' => e = .returned (.bool (p x)) ∧ Below W.heap.size W w'
theorem AnswersO.cells {P : Program} {g : FuncId} {lb : Array Value} {zs : List Int} {p : Int → Bool} {o : Option Nat} {w : World} (h : AnswersO P g lb zs p o w) : Answers P g lb (ic zs) (zs.map p) w := by
  intro j u b hu hb W hW
  rw [List.getElem?_map] at hu hb
  obtain ⟨z, hz, rfl⟩ := Option.map_eq_some_iff.1 hu
  rw [hz] at hb
  obtain rfl : p z = b := by simpa using hb
  exact h z (List.mem_of_getElem? hz) W (below_grownO hW o)

set_option maxHeartbeats 800000 in
theorem g_DeleteFuncO {lo hi : Nat} (v : Value) (g : Nat) (lb : Array Value) (zs : List Int) (p : Int → Bool) (w : World) (h : FInts lo hi w v zs)
    (eg : ∀ args W, (callFunc g args).run Try.prog W = .ok (.enter g args) W) (hp : AnswersO Try.prog g lb zs p v.ownBlock w) :
    Calls Try.prog 84 #[v, .func (.func g) #[] lb] w fun e w' => ∃ v', e = .returned v' ∧ FInts lo hi w' v' (zs.filter fun x => !p x) ∧ w.grownBy w' v.ownBlock ∧ v'.ownBlock = v.ownBlock := by
  obtain ⟨A, c, rfl, hc, hm, hown⟩ := h
  have hm' := hm
  unfold maxLen at hm
  have HA := hide hp.cells
  have HP := hide hp
  clear hp
  rcases firstT_map (p := p) zs 0 with ⟨h1, h2⟩ | ⟨i0, h1, h2, h3⟩
  · have H1 := hide h1
    have H2 := hide h2
    clear h1 h2
    go_enter Try.func84, Try.ntmps84
    go_wp2_with fail
    refine (g_IndexFunc A c g lb zs _ w hc hm' hown.row (by simp) eg HA.out).mono ?_
    rintro e w1 ⟨rfl, hb1⟩
    rw [H1.out]
    go_wp2_with fail
    go_ret
    exact ⟨_, rfl, by rw [H2.out]; exact ⟨A, c, rfl, hc, hm', hown.below hb1⟩, below_grownO hb1 _, rfl⟩
  · have H2 := hide h2
    have H3 := hide h3
    clear h2 h3
    obtain ⟨b, off, rfl, hl, hh, hcel⟩ := hown.cel (by simp; omega)
    have hneg : ((i0 : Int) == -1) = false := by simp
    go_enter Try.func84, Try.ntmps84
    go_wp2_with fail
    refine (g_IndexFunc _ c g lb zs _ w hc hm' hown.row (by simp) eg HA.out).mono ?_
    rintro e w1 ⟨rfl, hb1⟩
    rw [H2.out]
    rw [show ((0 + i0 : Nat) : Int) = (i0 : Int) from by omega]
    go_wp2_with fail
    clear hown
    go_loopw [5, 6] (fun iv jv wr => ∃ (i j : Nat) (L : List Int), iv = .int .i64 i ∧ jv = .int .i64 j ∧ Kept p zs L i j ∧ Cel wr b off (ic L) ∧ w.grownBy wr (some b)) (fun _ jv _ => zs.length - (intOf jv).toNat)
    case atStart =>
      exact ⟨i0, i0 + 1, zs, rfl, by go_num, ⟨rfl, by rw [H3.out], by omega, by omega, rfl⟩, hcel.below hb1, below_grownO hb1 _⟩
    case round =>
      obtain ⟨i, j, L, rfl, rfl, hK, hC, hbel⟩ := hrel
      have hij := hK.2.2.1
      have hjn := hK.2.2.2.1
      have hLn := hK.1
      by_cases hlt : j < zs.length
      · have hxj : zs.drop j = zs[j] :: zs.drop (j + 1) := List.drop_eq_getElem_cons hlt
        obtain ⟨x, hx⟩ : ∃ x, zs[j] = x := ⟨_, rfl⟩
        rw [hx] at hxj
        have hLj : L[j]? = some x := by
          have := congrArg (fun l => l[0]?) (hK.2.2.2.2.trans hxj)
          simpa [List.getElem?_drop] using this
        have hcj := (hC j (.int .i64 x) (by rw [List.getElem?_map, hLj]; rfl)).1
        have hpx := HP.out x (by rw [← hx]; exact List.getElem_mem hlt) wr hbel
        have HPX := hide hpx
        have HXJ := hide hxj
        have HLN := hide hLn
        clear hpx hxj hx hLj hLn
        go_wp2_with fail
        refine HPX.out.mono ?_
        rintro e w2 ⟨rfl, hb2⟩
        have hC2 := hC.below hb2
        have hbel2 := grown_trans hbel (below_grownO hb2 (some b))
        cases hpv : p x with
        | true =>
          go_wp2_with fail
          go_roundw
          case rel => exact ⟨i, j + 1, L, rfl, by go_num, hK.drop HXJ.out hpv hlt, hC2, hbel2⟩
          case measure => simp [intOf]; omega
        | false =>
          have hiL : i < L.length := by rw [HLN.out]; omega
          obtain ⟨u0, hu0⟩ : ∃ u0, L[i] = u0 := ⟨_, rfl⟩
          have hci := hC2 i (.int .i64 u0) (by simp [List.getElem?_eq_getElem hiL, hu0])
          have hci1 := hci.1
          have hci2 := hci.2
          clear hci hu0
          have HC3 := hide (hC2.set_ (i := i) (by simpa using hiL) (.int .i64 x))
          have HIL := hide hiL
          clear hiL
          go_wp2_with fail
          go_roundw
          case rel => exact ⟨i + 1, j + 1, L.set i x, by go_num, by go_num, hK.keep HXJ.out hpv hlt, by simpa [ic, List.map_set] using HC3.out, grown_setCell hbel2 _ _⟩
          case measure => simp [intOf]; omega
      · obtain rfl : j = zs.length := by omega
        have hcl := fun ty => Lib.run_clear_slice (P := Try.prog) wr 25 3 ty (.int .i64 0) Try.underlying25 (fun w => by kernel_rfl) rfl rfl b (off + i) (zs.length - i) (c - i) (by omega)
          (fun q hq => by
            have := (hC (i + q) (.int .i64 (L[i + q]'(by omega))) (by simp [List.getElem?_eq_getElem (show i + q < L.length by omega)])).1
            rw [Nat.add_assoc, this]; rfl)
          (fun q hq => by
            have := (hC (i + q) (.int .i64 (L[i + q]'(by omega))) (by simp [List.getElem?_eq_getElem (show i + q < L.length by omega)])).2
            rw [Nat.add_assoc, this])
        have HLN := hide hLn
        clear hLn
        go_wp2_with fail
        go_ret
        have hF : (zs.filter fun x => !p x) = L.take i := by rw [hK.2.1, List.take_length]
        have hFl : (zs.filter fun x => !p x).length = i := by rw [hF, List.length_take, HLN.out]; omega
        refine ⟨_, rfl, ⟨some ⟨b, off, none⟩, c, by rw [hFl]; rfl, by rw [hFl]; omega, hm', ?_⟩, grown_setCells _ _ _ hbel, rfl⟩
        rw [hF]
        have hcc := hC.clear i (List.replicate (zs.length - i) (.int .i64 0))
        exact Cel.own (by simpa [ic, List.map_take] using hcc) hl hh

theorem i_back11 (x bits : Int) (B : Nat) (w : World) (hc : w.cell? ⟨B, 0, none⟩ = some (.int .i64 bits)) (hx : x ≠ 0 ∧ -12 ≤ x ∧ x ≤ 12) (h0 : 0 ≤ bits) (hB : B < w.heap.size) :
    Calls Try.prog 85 #[.int .i64 x, .pointer (some ⟨B, 0, none⟩)] w fun e w' => e = .returned (.bool (!trueB bits [x])) ∧ Below w.heap.size w w' := by
  have hal : Below w.heap.size w (w.alloc (.cells #[.int .i64 x] 3)) := (Below.refl _ _).alloc (Nat.le_refl _) _
  have hc1 := below_old hal _ _ hc
  have hne : ¬ (B = w.heap.size) := by omega
  have HI := hide (i_holds _ [x] bits _ (Ints.lit w x) (by intro l hl; simp at hl; subst hl; exact hx) h0)
  go_enter Try.func85, Try.ntmps85
  go_wp2_with (go_at_call 86; refine HI.out.mono ?_; rintro e w1 ⟨rfl, hb1⟩)
  go_ret
  exact ⟨rfl, hal.trans (hb1.mono (by simp))⟩

set_option maxHeartbeats 800000 in
theorem i_back1 {lo hi : Nat} (b : Nat) (B : Nat) (x : Value) (s : List Int) (w : World) (hBk : Blk w B 25 #[x]) (h : FInts lo hi w x s) (hob : ∀ g, x.ownBlock = some g → lo ≤ g ∧ g < hi) (hs : ∀ l ∈ s, l ≠ 0 ∧ -12 ≤ l ∧ l ≤ 12) (hhi : hi ≤ B) (hlo : lo ≤ w.heap.size) (hlb : lo ≤ B) :
    Calls Try.prog 83 #[.int .i64 b, .pointer (some ⟨B, 0, none⟩)] w fun e w' => e = .returned (.bool true) ∧ ∃ v1, Blk w' B 25 #[v1] ∧ FInts lo hi w' v1 (backStep s b) ∧ (∀ g, v1.ownBlock = some g → lo ≤ g ∧ g < hi) ∧ Below lo w w' ∧ (∀ k, k < w.heap.size → hi ≤ k → k ≠ B → w'.heap[k]? = w.heap[k]?) := by
  have eg := Go.Proofs.enters_of Try.func85 (by kernel_rfl) rfl
  obtain ⟨A, c, rfl, -⟩ := id h
  have hBlt := hBk.lt
  obtain ⟨wa, hwa⟩ : ∃ wa, wa = w.alloc (.cells #[.int .i64 b] 3) := ⟨_, rfl⟩
  have hal : Below w.heap.size w wa := by rw [hwa]; exact (Below.refl _ _).alloc (Nat.le_refl _) _
  have hBb : Blk wa w.heap.size 3 #[.int .i64 b] := by rw [hwa]; exact Blk.new _ _ _
  have hBa := hBk.below hal hBlt
  have hans : AnswersO Try.prog 85 #[.pointer (some ⟨w.heap.size, 0, none⟩)] s (fun l => !trueB (b : Int) [l]) (Value.slice A s.length c).ownBlock wa := by
    intro l hl W hW
    have hne : some w.heap.size ≠ (Value.slice A s.length c).ownBlock := by
      intro e
      have := (hob _ e.symm).2
      omega
    have hB2 : Blk W w.heap.size 3 #[.int .i64 b] := (hW.block _ hBb.lt hne).trans hBb
    exact i_back11 l b w.heap.size W (by simpa using hB2.cell 0) (hs l hl) (by omega) hB2.lt
  have HD := hide (g_DeleteFuncO _ _ _ s _ wa (h.below hal) eg hans)
  have hc0 : wa.cell? ⟨B, 0, none⟩ = some (.slice A s.length c) := by simpa using hBa.cell 0
  have hw0 : (w.alloc (.cells #[.int .i64 b] 3)).cell? ⟨B, 0, none⟩ = some (.slice A s.length c) := by rw [← hwa]; exact hc0
  have hnB : ¬ (B = w.heap.size) := by omega
  have HWA := hide hwa
  have hneB : some B ≠ (Value.slice A s.length c).ownBlock := by
    intro e
    have := (hob _ e.symm).2
    omega
  clear hwa hans
  go_enter Try.func83, Try.ntmps83
  go_wp2_with fail
  rw [← HWA.out]
  clear hw0
  refine HD.out.mono ?_
  rintro e w2 ⟨v2, rfl, hF2, hg2, ho2⟩
  rw [show (s.filter fun x => !(fun l => !trueB (b : Int) [l]) x) = backStep s b from by unfold backStep; congr 1; funext l; simp] at hF2
  have hB2 : Blk w2 B 25 #[.slice A s.length c] := (hg2.block _ hBa.lt hneB).trans hBa
  have d0 := hB2.cell 0
  have d1 := hB2.frozen 0
  have d0' : w2.cell? ⟨B, 0, none⟩ = some (.slice A s.length c) := by simpa using d0
  have HB3 := hide (show Blk (w2.setCell ⟨B, 0, none⟩ v2) B 25 #[v2] by simpa using hB2.set_ 0 v2)
  have HF3 := hide (show FInts lo hi (w2.setCell ⟨B, 0, none⟩ v2) v2 (backStep s b) by
    exact hF2.chg (lo' := B) (hi' := B + 1) ⟨rfl, rfl, rfl, by simp [World.setCell], fun k hk hne => Below.heap_setCell w2 _ v2 k (by intro e; simp at e; omega)⟩ (.inl hhi))
  have HL := hide (show Below lo w (w2.setCell ⟨B, 0, none⟩ v2) by
    refine Below.setCell ⟨hg2.os.trans hal.os, hg2.tape.trans hal.tape, hg2.output.trans hal.output, Nat.le_trans hal.size hg2.size, fun k hk => ?_⟩ hlb _
    rw [hg2.block k (Nat.lt_of_lt_of_le (Nat.lt_of_lt_of_le hk hlo) hal.size) (fun e => by have := (hob _ e.symm).1; omega)]
    exact hal.block k (by omega))
  have HK := hide (show ∀ k, k < w.heap.size → hi ≤ k → k ≠ B → (w2.setCell ⟨B, 0, none⟩ v2).heap[k]? = w.heap[k]? by
    intro k h1 h2 h3
    rw [Below.heap_setCell w2 _ v2 k (by simpa using h3), hg2.block k (Nat.lt_of_lt_of_le h1 hal.size) (fun e => by have := (hob _ e.symm).2; omega)]
    exact hal.block k h1)
  have HO := hide (show ∀ g, v2.ownBlock = some g → lo ≤ g ∧ g < hi from fun g hg => hob g (by rw [← ho2]; exact hg))
  obtain ⟨A2, c2, rfl, -⟩ := id hF2
  clear d0
  go_wp2_with fail
  go_ret
  exact ⟨rfl, _, HB3.out, HF3.out, HO.out, HL.out, HK.out⟩

set_option maxHeartbeats 400000 in
theorem i_totalO (n : Nat) (bits : Int) (w : World) (h1 : n ≤ 12) (h2 : 0 ≤ bits) (h3 : bits ≤ 65536) :
    Calls Try.prog 81 #[.int .i64 n, .int .i64 bits] w fun e w' => ∃ v', e = .returned v' ∧ OwnI w.heap.size w' v' (totalL bits n) ∧ Below w.heap.size w w' := by
  go_enter Try.func81, Try.ntmps81
  go_wp2_with fail
  go_loopw [5, 6] (fun v i wr => ∃ k : Nat, k ≤ n ∧ i = .int .i64 (k + 1) ∧ OwnI w.heap.size wr v (totalL bits k) ∧ Below w.heap.size w wr) (fun _ i _ => (n + 1) - (intOf i).toNat)
  case atStart => exact ⟨0, Nat.zero_le _, rfl, OwnI.nil _ _, Below.refl _ _⟩
  case round =>
    obtain ⟨k, hk, rfl, hown, hbel⟩ := hrel
    by_cases hlt : k < n
    · have hsz := hbel.size
      have HL := hide (totalL_length bits k)
      cases hb : bitB bits k with
      | true =>
        have hb' := hb
        unfold bitB at hb'
        go_wp2_with (at_builtin; refine append_int rfl _ _ rfl w.heap.size rfl hown rfl (by rw [HL.out]; omega) hsz ?_; intro v1 w1 hown1 hb1)
        go_roundw
        case rel => exact ⟨k + 1, by omega, by go_num, by rw [totalL, hb]; exact hown1, hbel.trans hb1⟩
        case measure => simp [intOf]; omega
      | false =>
        have hb' := hb
        unfold bitB at hb'
        go_wp2_with (at_builtin; refine append_int rfl _ _ rfl w.heap.size rfl hown rfl (by rw [HL.out]; omega) hsz ?_; intro v1 w1 hown1 hb1)
        go_roundw
        case rel => exact ⟨k + 1, by omega, by go_num, by rw [totalL, hb]; exact hown1, hbel.trans hb1⟩
        case measure => simp [intOf]; omega
    · obtain rfl : k = n := by omega
      go_wp2_with fail
      go_ret
      exact ⟨_, rfl, hown, hbel⟩
theorem blkTwoL {w : World} {g : Nat} {T : TypeId} {a b : Value} (h : Blk w g T #[a, b]) : w.cell? ⟨g, 0, none⟩ = some a ∧ w.cell? ⟨g, 1, none⟩ = some b ∧ w.frozen? ⟨g, 0, none⟩ = false ∧ w.frozen? ⟨g, 1, none⟩ = false :=
  ⟨by simpa using h.cell 0, by simpa using h.cell 1, h.frozen 0, h.frozen 1⟩
theorem OwnI.block_lt {base : Nat} {w : World} {v : Value} {zs : List Int} {g : Nat} (h : OwnI base w v zs) (hg : v.ownBlock = some g) : base ≤ g ∧ g < w.heap.size := by
  rcases h.2 with ⟨rfl, _⟩ | ⟨g', cap, cur, rfl, hb, hh, _⟩
  · simp [Value.ownBlock] at hg
  · obtain rfl : g' = g := by simpa [Value.ownBlock] using hg
    exact ⟨hb, Blk.lt (t := 3) (cs := cur) hh⟩
theorem totalL_small (bits : Int) : ∀ n, n ≤ 12 → ∀ l ∈ totalL bits n, l ≠ 0 ∧ -12 ≤ l ∧ l ≤ 12
  | 0, _ => by simp [totalL]
  | n + 1, hn => by
    intro l hl
    rw [totalL] at hl
    rcases List.mem_append.1 hl with hl | hl
    · exact totalL_small bits n (by omega) l hl
    · obtain rfl := List.mem_singleton.1 hl
      split <;> omega
theorem first_back {n : Nat} {t : List (List Int)} (hn : n ≤ 12) (h0 : 0 ≤ firstF ((n : Int), t)) : ∃ b : Nat, firstF ((n : Int), t) = (b : Int) ∧ b ≤ 4096 ∧ b ∈ rangeFrom 0 (2 ^ n) ∧ allB (b : Int) t = true := by
  obtain ⟨N, hN, hNe, hN1, hN2⟩ := pow_nat hn
  have hM : modelsF ((n : Int), t) = modelsL t (rangeFrom 0 (2 ^ n)) := by unfold modelsF; simp
  unfold firstF at h0 ⊢
  rw [hM] at h0 ⊢
  cases hl : modelsL t (rangeFrom 0 (2 ^ n)) with
  | nil => rw [hl] at h0; simp at h0
  | cons b r =>
    have hmem : b ∈ modelsL t (rangeFrom 0 (2 ^ n)) := by rw [hl]; simp
    unfold modelsL at hmem
    obtain ⟨h1, h2⟩ := List.mem_filter.1 hmem
    refine ⟨b, rfl, ?_, h1, h2⟩
    unfold rangeFrom at h1
    rw [List.mem_range'_1] at h1
    omega
theorem fFirst_sat {f : CnfL} (hg : goodB f = true) : fFirstModel f = (if satB f then (firstF f, true) else (0, false)) := by
  unfold fFirstModel
  rw [if_pos hg]
  have h1 := firstL_nil (modelsF f)
  rw [← firstF_eq] at h1
  unfold satB
  by_cases h0 : 0 ≤ firstF f
  · rw [← h1, if_neg (by simp; omega), if_pos (by simpa using h0)]
  · rw [← h1, if_pos (by simp; omega), if_neg (by simpa using h0)]

set_option maxRecDepth 100000 in
set_option maxHeartbeats 1600000 in
theorem I_BackboneOf {hi : Nat} (v : Value) (f : CnfL) (r0 : List Int) (r1 : Bool) (w : World) (h : RCnf hi w v f) (hn0 : szC f ≤ 1048576) (hR : fBackboneOf f = (r0, r1)) :
    Calls Try.prog 37 #[v] w fun e w' => ∃ v', e = .returned (.tuple #[v', .bool r1]) ∧ FInts w.heap.size w'.heap.size w' v' r0 ∧ Below w.heap.size w w' := by
  have eg := Go.Proofs.enters_of Try.func83 (by kernel_rfl) rfl
  obtain ⟨A, m, c, rfl, ht⟩ := h.open2
  obtain ⟨vars, t⟩ := f
  dsimp only at ht ⊢
  obtain ⟨wb, hwb⟩ : ∃ wb, wb = w.alloc (.cells #[.int .i64 vars, .slice A m c] 29) := ⟨_, rfl⟩
  have hal : Below w.heap.size w wb := by rw [hwb]; exact (Below.refl _ _).alloc (Nat.le_refl _) _
  have hBb : Blk wb w.heap.size 29 #[.int .i64 vars, .slice A m c] := by rw [hwb]; exact Blk.new _ _ _
  have htb := ht.top.below hal
  have HWB := hide hwb
  clear hwb h ht
  obtain ⟨q0, q1, hq⟩ : ∃ q0 q1, fFirstModel (vars, t) = (q0, q1) := ⟨_, _, rfl⟩
  have HFM := hide (I_FirstModel _ (vars, t) q0 q1 wb ⟨_, rfl, htb⟩ hn0 hq)
  cases q1 with
  | false =>
    have hno : fBackboneOf (vars, t) = ([], false) := by
      unfold fBackboneOf
      by_cases hg : goodB (vars, t) = true
      · rw [fFirst_sat hg] at hq
        rw [if_pos hg]
        by_cases hs : satB (vars, t) = true
        · rw [if_pos hs] at hq; injection hq with _ hq2; cases hq2
        · rw [if_neg hs]
      · rw [if_neg hg]
    obtain ⟨rfl, rfl⟩ : r0 = [] ∧ r1 = false := by rw [hno] at hR; injection hR with h1 h2; exact ⟨h1.symm, h2.symm⟩
    clear hR hno hq
    go_enter Try.func37, Try.ntmps37
    go_wp2_with fail
    rw [← HWB.out]
    refine HFM.out.mono ?_
    rintro e w1 ⟨rfl, hb1⟩
    go_wp2_with fail
    go_ret2
    exact ⟨_, rfl, FInts.nil _ _ _, hal.trans (hb1.mono hal.size)⟩
  | true =>
    have hg : goodB (vars, t) = true := by
      cases hg : goodB (vars, t) with
      | true => rfl
      | false => unfold fFirstModel at hq; rw [hg] at hq; simp at hq
    have hsat : satB (vars, t) = true := by
      rw [fFirst_sat hg] at hq
      cases hs : satB (vars, t) with
      | true => rfl
      | false => rw [hs] at hq; simp at hq
    have HS := hide (goodB_small hg)
    obtain ⟨n, hv, hn⟩ := varsB_nat (goodB_parts hg).1
    dsimp only at HS hv
    subst hv
    rw [fFirst_sat hg, hsat, if_pos rfl] at hq
    obtain ⟨rfl⟩ : q0 = firstF ((n : Int), t) := by injection hq with h1 _; exact h1.symm
    have h0 : 0 ≤ firstF ((n : Int), t) := by
      have h1 := firstL_nil (modelsF ((n : Int), t))
      rw [← firstF_eq] at h1
      have h2 := hsat
      unfold satB at h2
      rw [← h1] at h2
      simpa using h2
    obtain ⟨b0, hb0, hb4, hbm, hba⟩ := first_back hn h0
    obtain ⟨rfl, rfl⟩ : r0 = backL t (rangeFrom 0 (2 ^ n)) n ∧ r1 = true := by simpa [fBackboneOf, hg, hsat, eq_comm] using hR
    rw [hb0] at HFM
    have HBE := hide (back_eq hbm hba n hn)
    have HRM := hide (runM_back t (rangeFrom 0 (2 ^ n)) (totalL (b0 : Int) n))
    clear hR hq hsat h0 hb0 hbm hba
    go_enter Try.func37, Try.ntmps37
    go_wp2_with fail
    rw [← HWB.out]
    refine HFM.out.mono ?_
    rintro e w1 ⟨rfl, hb1⟩
    obtain ⟨c0, c1, -, -⟩ := blkTwoL (hBb.below hb1 hBb.lt)
    have ht1 := htb.below hb1
    have hal1 := hal.trans (hb1.mono hal.size)
    have hlt1 : w.heap.size < w1.heap.size := (hBb.below hb1 hBb.lt).lt
    go_wp2_with fail
    refine (i_totalO n b0 _ hn (by omega) (by omega)).mono ?_
    rintro e w2 ⟨v2, rfl, hown, hb2⟩
    have c0b := below_old hb2 _ _ c0
    have c1b := below_old hb2 _ _ c1
    have ht2 := ht1.below hb2
    have hal2 := hal1.trans (hb2.mono hal1.size)
    have hs12 := hb2.size
    have hF := hown.fints
    have hob := fun g => OwnI.block_lt (g := g) hown
    have hne2 : ¬ (w.heap.size = w2.heap.size) := by omega
    obtain ⟨A2, k2, rfl, -⟩ := id hF
    obtain ⟨wc, hwc⟩ : ∃ wc, wc = w2.alloc (.cells #[.slice A2 (totalL (b0 : Int) n).length k2] 25) := ⟨_, rfl⟩
    have hbc : Below w2.heap.size w2 wc := by rw [hwc]; exact (Below.refl _ _).alloc (Nat.le_refl _) _
    have hBc : Blk wc w2.heap.size 25 #[.slice A2 (totalL (b0 : Int) n).length k2] := by rw [hwc]; exact Blk.new _ _ _
    have hsc : wc.heap.size = w2.heap.size + 1 := by rw [hwc]; simp
    have c0c := below_old hbc _ _ c0b
    have c1c := below_old hbc _ _ c1b
    have o0 := c0c
    have o1 := c1c
    rw [hwc] at o0 o1
    have HWC := hide hwc
    have hFc := hF.below hbc
    have ht3 := ht2.below hbc
    have hal3 := hal2.trans (hbc.mono hal2.size)
    clear hwc c0 c1 c0b c1b
    go_wp2_with fail
    rw [← HWC.out]
    clear o0 o1
    have hcL : Below wc.heap.size wc (wc.alloc (.cells #[.int .i64 n, .slice A m c] 29)) := (Below.refl _ _).alloc (Nat.le_refl _) _
    have hmod : (wc.alloc (.cells #[.int .i64 n, .slice A m c] 29)).heap[wc.heap.size]? = some (.cells #[.int .i64 n, .slice A m c] 29) := heap_alloc_new wc _
    obtain ⟨Inv, hInv⟩ : ∃ Inv : Nat → List Int → World → Prop, Inv = fun _ s W => ∃ x, Blk W w2.heap.size 25 #[x] ∧ W.heap[wc.heap.size]? = some (.cells #[.int .i64 n, .slice A m c] 29) ∧ FInts w1.heap.size w2.heap.size W x s ∧ (∀ g, x.ownBlock = some g → w1.heap.size ≤ g ∧ g < w2.heap.size) ∧ Below w1.heap.size wc W ∧ wc.heap.size < W.heap.size ∧ ∀ l ∈ s, l ≠ 0 ∧ -12 ≤ l ∧ l ≤ 12 := ⟨_, rfl⟩
    have hI0 : Inv 0 (totalL (b0 : Int) n) (wc.alloc (.cells #[.int .i64 n, .slice A m c] 29)) := by
      rw [hInv]
      exact ⟨_, hBc.below hcL hBc.lt, hmod, hFc.below hcL, hob, hcL.mono (by omega), by simp, totalL_small _ n hn⟩
    have hp : ∀ (k : Nat) (s : List Int) W, Inv k s W → W.cell? ⟨wc.heap.size, 0, none⟩ = some (.int .i64 n) ∧ W.cell? ⟨wc.heap.size, 1, none⟩ = some (.slice A m c) ∧ Tab w.heap.size W (.slice A m c) t := by
      rw [hInv]
      rintro k s W ⟨x, h1, h2, h3, h4, h5, h6, h7⟩
      have h2' : Blk W wc.heap.size 29 #[.int .i64 n, .slice A m c] := h2
      exact ⟨by simpa using h2'.cell 0, by simpa using h2'.cell 1, ht3.under h5 (by omega)⟩
    have hstab : ∀ (k : Nat) (s : List Int) W W', Inv k s W → Below W.heap.size W W' → Inv k s W' := by
      rw [hInv]
      rintro k s W W' ⟨x, h1, h2, h3, h4, h5, h6, h7⟩ hb
      exact ⟨x, h1.below hb h1.lt, (hb.block _ h6).trans h2, h3.below hb, h4, h5.trans (hb.mono (by omega)), Nat.lt_of_lt_of_le h6 hb.size, h7⟩
    have hskip : ∀ (k : Nat) (s : List Int) W, Inv k s W → Inv (k + 1) s W := by rw [hInv]; exact fun _ _ _ h => h
    have hst : ∀ (s : List Int) W (b : Nat), Inv b s W → b ≤ 4096 → Calls Try.prog 83 (#[.int .i64 b] ++ #[.pointer (some ⟨w2.heap.size, 0, none⟩)]) W fun e w' => e = .returned (.bool ((fun _ _ => true) s b)) ∧ Inv (b + 1) (backStep s b) w' := by
      rw [hInv]
      rintro s W b ⟨x, h1, h2, h3, h4, h5, h6, h7⟩ hb4
      refine (i_back1 b w2.heap.size x s W h1 h3 h4 h7 (Nat.le_refl _) (by omega) hs12).mono ?_
      rintro e w' ⟨he, v1, g1, g2, g3, g4, g5⟩
      refine ⟨he, v1, g1, (g5 _ h6 (by omega) (by omega)).trans h2, g2, g3, h5.trans g4, Nat.lt_of_lt_of_le h6 g4.size, fun l hl => h7 l (List.mem_filter.1 hl).1⟩
    have key := i_models (.slice A m c) n t 83 #[.pointer (some ⟨w2.heap.size, 0, none⟩)] wc (totalL (b0 : Int) n) Inv backStep (fun _ _ => true) hn HS.out eg hI0 hp hstab hskip hst
    rw [HRM.out, HBE.out] at key
    have HKEY := hide key
    clear key hst hskip hstab hp hI0 hmod hcL
    refine HKEY.out.mono ?_
    rintro e w3 ⟨rfl, k, hI⟩
    rw [hInv] at hI
    obtain ⟨x, h1, h2, h3, h4, h5, h6, h7⟩ := hI
    have hx0 : w3.cell? ⟨w2.heap.size, 0, none⟩ = some x := by simpa using h1.cell 0
    obtain ⟨A5, c5, rfl, -⟩ := id h3
    clear hInv HKEY h7
    go_wp2_with fail
    go_ret2
    exact ⟨_, rfl, h3.mono (by omega) (by omega), hal3.trans (h5.mono (by omega))⟩

set_option maxHeartbeats 1600000 in
theorem S_BackboneOf {hi : Nat} (v : Value) (f : CnfL) (r0 : List Int) (r1 : Bool) (w : World) (h : RCnf hi w v f) (hn0 : szC f ≤ 1048576) (hR : fBackboneOf f = (r0, r1)) :
    Calls Try.prog 36 #[v] w fun e w' => ∃ v', e = .returned (.tuple #[v', .bool r1]) ∧ FInts w.heap.size w'.heap.size w' v' r0 ∧ Below w.heap.size w w' := by
  obtain ⟨A, m, c, rfl, ht⟩ := h.open2
  obtain ⟨vars, t⟩ := f
  dsimp only at ht ⊢
  obtain ⟨wa, hwa⟩ : ∃ wa, wa = w.alloc (.cells #[.int .i64 vars, .slice A m c] 29) := ⟨_, rfl⟩
  have hala : Below w.heap.size w wa := by rw [hwa]; exact (Below.refl _ _).alloc (Nat.le_refl _) _
  have hsa : w.heap.size + 1 = wa.heap.size := by rw [hwa]; simp
  have xa0 : wa.cell? ⟨w.heap.size, 0, none⟩ = some (.int .i64 vars) := by rw [hwa]; simp
  have xa1 : wa.cell? ⟨w.heap.size, 1, none⟩ = some (.slice A m c) := by rw [hwa]; simp
  obtain ⟨wb, hwb⟩ : ∃ wb, wb = wa.alloc (.cells #[] 3) := ⟨_, rfl⟩
  have halb : Below wa.heap.size wa wb := by rw [hwb]; exact (Below.refl _ _).alloc (Nat.le_refl _) _
  have hmade : OwnI (w.heap.size + 1) wb (.slice (some ⟨w.heap.size + 1, 0, none⟩) 0 0) [] := by rw [hwb, hsa]; exact OwnI.made _ _ (Nat.le_refl _)
  have x00 := below_old halb _ _ xa0
  have x01 := below_old halb _ _ xa1
  have hal := hala.trans (halb.mono (by omega))
  have hsb : w.heap.size + 1 ≤ wb.heap.size := by rw [hsa]; exact halb.size
  have htb := ht.top.below hal
  have HWB := hide (show wb = (w.alloc (.cells #[.int .i64 vars, .slice A m c] 29)).alloc (.cells #[] 3) by rw [hwb, hwa])
  have HMADE := hide hmade
  clear hwb hwa hmade hala halb hsa xa0 xa1
  cases hg : goodB (vars, t) with
  | false =>
    obtain ⟨rfl, rfl⟩ : r0 = [] ∧ r1 = false := by simpa [fBackboneOf, hg, eq_comm] using hR
    clear hR
    go_enter Try.func36, Try.ntmps36
    go_wp2_with fail
    rw [← HWB.out]
    refine (s_l2Good _ (vars, t) _ ⟨_, rfl, htb⟩).mono ?_
    rintro e w1 ⟨rfl, hb1⟩
    rw [hg]
    go_wp2_with fail
    go_ret2
    exact ⟨_, rfl, (HMADE.out.below hb1).fints.mono (by omega) (Nat.le_refl _), hal.trans (hb1.mono hal.size)⟩
  | true =>
    cases hs : satB (vars, t) with
    | false =>
      obtain ⟨rfl, rfl⟩ : r0 = [] ∧ r1 = false := by simpa [fBackboneOf, hg, hs, eq_comm] using hR
      clear hR
      go_enter Try.func36, Try.ntmps36
      go_wp2_with fail
      rw [← HWB.out]
      refine (s_l2Good _ (vars, t) _ ⟨_, rfl, htb⟩).mono ?_
      rintro e w1 ⟨rfl, hb1⟩
      rw [hg]
      replace x00 := below_old hb1 _ _ x00
      replace x01 := below_old hb1 _ _ x01
      replace htb := htb.below hb1
      replace hal := hal.trans (hb1.mono hal.size)
      have HM1 := hide (HMADE.out.below hb1)
      go_wp2_with fail
      refine (s_l5Sat _ (vars, t) _ ⟨_, rfl, htb⟩ hg).mono ?_
      rintro e w2 ⟨rfl, hb2⟩
      rw [hs]
      go_wp2_with fail
      go_ret2
      exact ⟨_, rfl, (HM1.out.below hb2).fints.mono (by omega) (Nat.le_refl _), hal.trans (hb2.mono hal.size)⟩
    | true =>
      have HS := hide (goodB_small hg)
      have HV := hide (goodB_parts hg).1
      obtain ⟨n, hv, hn⟩ := varsB_nat (goodB_parts hg).1
      dsimp only at HS HV hv
      subst hv
      obtain ⟨rfl, rfl⟩ : r0 = backL t (rangeFrom 0 (2 ^ n)) n ∧ r1 = true := by simpa [fBackboneOf, hg, hs, eq_comm] using hR
      clear hR
      go_enter Try.func36, Try.ntmps36
      go_wp2_with fail
      rw [← HWB.out]
      refine (s_l2Good _ ((n : Int), t) _ ⟨_, rfl, htb⟩).mono ?_
      rintro e w1 ⟨rfl, hb1⟩
      rw [hg]
      replace x00 := below_old hb1 _ _ x00
      replace x01 := below_old hb1 _ _ x01
      replace htb := htb.below hb1
      replace hal := hal.trans (hb1.mono hal.size)
      have HM1 := hide (HMADE.out.below hb1)
      replace hsb := Nat.le_trans hsb hb1.size
      clear hb1
      go_wp2_with fail
      refine (s_l5Sat _ ((n : Int), t) _ ⟨_, rfl, htb⟩ hg).mono ?_
      rintro e w2 ⟨rfl, hb2⟩
      rw [hs]
      replace x00 := below_old hb2 _ _ x00
      replace x01 := below_old hb2 _ _ x01
      replace htb := htb.below hb2
      replace hal := hal.trans (hb2.mono hal.size)
      have HM2 := hide (HM1.out.below hb2)
      replace hsb := Nat.le_trans hsb hb2.size
      clear hb2
      go_wp2_with fail
      go_loopw [4, 5] (fun q i wr => ∃ k : Nat, k ≤ n ∧ i = .int .i64 ((k : Int) + 1) ∧ OwnI (w.heap.size + 1) wr q (backL t (rangeFrom 0 (2 ^ n)) k) ∧ Below (w.heap.size + 1) w2 wr) (fun _ i _ => n + 1 - (intOf i).toNat)
      case atStart => exact ⟨0, Nat.zero_le _, rfl, HM2.out, Below.refl _ _⟩
      case round =>
        obtain ⟨k, hk, rfl, hown, hbel⟩ := hrel
        have q00 := (hbel.cell (p := ⟨w.heap.size, 0, none⟩) (by simp)).trans x00
        have q01 := (hbel.cell (p := ⟨w.heap.size, 1, none⟩) (by simp)).trans x01
        have tq := htb.under hbel (by omega)
        have hwr : w.heap.size + 1 ≤ wr.heap.size := Nat.le_trans hsb hbel.size
        by_cases hlt : k < n
        · have hal1 : Below wr.heap.size wr (wr.alloc (.cells #[.int .i64 ((k : Int) + 1)] 3)) := (Below.refl _ _).alloc (Nat.le_refl _) _
          have hne : ¬ (w.heap.size = wr.heap.size) := by omega
          have l00 := below_old hal1 _ _ q00
          have l01 := below_old hal1 _ _ q01
          have HC1 := hide (s_l5Implies (.agg #[.int .i64 (n : Int), .slice A m c]) _ ((n : Int), t) [(k : Int) + 1] _ ⟨_, rfl, tq.below hal1⟩ (Ints.lit wr ((k : Int) + 1)) HV.out HS.out (by intro l hl; simp at hl; omega))
          have HI1 := hide (show impliesF ((n : Int), t) [(k : Int) + 1] = impliesL t [(k : Int) + 1] (rangeFrom 0 (2 ^ n)) by unfold impliesF; simp)
          have HI2 := hide (show impliesF ((n : Int), t) [-((k : Int) + 1)] = impliesL t [-((k : Int) + 1)] (rangeFrom 0 (2 ^ n)) by unfold impliesF; simp)
          have HO := hide (hown.below hal1)
          have HL := hide (show (backL t (rangeFrom 0 (2 ^ n)) k).length ≤ 1000 by have := backL_len t (rangeFrom 0 (2 ^ n)) k; omega)
          have hwn : wrap64 (-((k : Int) + 1)) = -((k : Int) + 1) := IntWalk.wrap64_in _ (by omega)
          clear hown
          go_wp2_with fail
          refine HC1.out.mono ?_
          rintro e w3 ⟨rfl, hb3⟩
          have hb03 := hal1.trans (hb3.mono (by simp))
          have ho3 := HO.out.below hb3
          have h300 := below_old hb03 _ _ q00
          have h301 := below_old hb03 _ _ q01
          have t3 := tq.below hb03
          have hs3 : w.heap.size + 1 ≤ w3.heap.size := Nat.le_trans hwr hb03.size
          have hbl3 := hbel.trans (hb03.mono (by omega))
          rw [HI1.out]
          clear l00 l01
          cases hi1 : impliesL t [(k : Int) + 1] (rangeFrom 0 (2 ^ n)) with
          | false =>
            have hal4 : Below w3.heap.size w3 (w3.alloc (.cells #[.int .i64 (-((k : Int) + 1))] 3)) := (Below.refl _ _).alloc (Nat.le_refl _) _
            have hne4 : ¬ (w.heap.size = w3.heap.size) := by omega
            have l00 := below_old hal4 _ _ h300
            have l01 := below_old hal4 _ _ h301
            have HC2 := hide (s_l5Implies (.agg #[.int .i64 (n : Int), .slice A m c]) _ ((n : Int), t) [-((k : Int) + 1)] _ ⟨_, rfl, t3.below hal4⟩ (Ints.lit w3 (-((k : Int) + 1))) HV.out HS.out (by intro l hl; simp at hl; omega))
            have HO4 := hide (ho3.below hal4)
            clear ho3
            go_wp2_with fail
            refine HC2.out.mono ?_
            rintro e w5 ⟨rfl, hb5⟩
            have hb45 := hal4.trans (hb5.mono (by simp))
            have ho5 := HO4.out.below hb5
            have hs5 : w.heap.size + 1 ≤ w5.heap.size := Nat.le_trans hs3 hb45.size
            have hbl5 := hbl3.trans (hb45.mono (by omega))
            rw [HI2.out]
            cases hi2 : impliesL t [-((k : Int) + 1)] (rangeFrom 0 (2 ^ n)) with
            | false =>
              have HF := hide (show backL t (rangeFrom 0 (2 ^ n)) (k + 1) = backL t (rangeFrom 0 (2 ^ n)) k by rw [backL, hi1, hi2]; simp)
              go_wp2_with fail
              go_roundw
              case rel => exact ⟨k + 1, by omega, by go_num, by rw [HF.out]; exact ho5, hbl5⟩
              case measure => simp [intOf]; omega
            | true =>
              have HF := hide (show backL t (rangeFrom 0 (2 ^ n)) (k + 1) = backL t (rangeFrom 0 (2 ^ n)) k ++ [-((k : Int) + 1)] by rw [backL, hi1, hi2]; simp)
              go_wp2_with (at_builtin; refine append_int rfl _ _ rfl (w.heap.size + 1) rfl ho5 rfl (by have := HL.out; simp; omega) hs5 ?_; intro v6 w6 hown6 hb6)
              go_roundw
              case rel => exact ⟨k + 1, by omega, by go_num, by rw [HF.out]; exact hown6, hbl5.trans hb6⟩
              case measure => simp [intOf]; omega
          | true =>
            go_wp2_with (at_builtin; refine append_int rfl _ _ rfl (w.heap.size + 1) rfl ho3 rfl (by have := HL.out; omega) hs3 ?_; intro v4 w4 hown4 hb4; have hs4 : w.heap.size + 1 ≤ w4.heap.size := Nat.le_trans hs3 hb4.size; have h400 := (hb4.cell (p := ⟨w.heap.size, 0, none⟩) (by simp)).trans h300; have h401 := (hb4.cell (p := ⟨w.heap.size, 1, none⟩) (by simp)).trans h301; have t4 := t3.under hb4 (by omega); have hbl4 := hbl3.trans hb4)
            have hal4 : Below w4.heap.size w4 (w4.alloc (.cells #[.int .i64 (-((k : Int) + 1))] 3)) := (Below.refl _ _).alloc (Nat.le_refl _) _
            have hne4 : ¬ (w.heap.size = w4.heap.size) := by omega
            have l00 := below_old hal4 _ _ h400
            have l01 := below_old hal4 _ _ h401
            have HC2 := hide (s_l5Implies (.agg #[.int .i64 (n : Int), .slice A m c]) _ ((n : Int), t) [-((k : Int) + 1)] _ ⟨_, rfl, t4.below hal4⟩ (Ints.lit w4 (-((k : Int) + 1))) HV.out HS.out (by intro l hl; simp at hl; omega))
            have HO4 := hide (hown4.below hal4)
            clear hown4
            go_wp2_with fail
            refine HC2.out.mono ?_
            rintro e w5 ⟨rfl, hb5⟩
            have hb45 := hal4.trans (hb5.mono (by simp))
            have ho5 := HO4.out.below hb5
            have hs5 : w.heap.size + 1 ≤ w5.heap.size := Nat.le_trans hs4 hb45.size
            have hbl5 := hbl4.trans (hb45.mono (by omega))
            rw [HI2.out]
            cases hi2 : impliesL t [-((k : Int) + 1)] (rangeFrom 0 (2 ^ n)) with
            | false =>
              have HF := hide (show backL t (rangeFrom 0 (2 ^ n)) (k + 1) = (backL t (rangeFrom 0 (2 ^ n)) k ++ [(k : Int) + 1]) by rw [backL, hi1, hi2]; simp)
              go_wp2_with fail
              go_roundw
              case rel => exact ⟨k + 1, by omega, by go_num, by rw [HF.out]; exact ho5, hbl5⟩
              case measure => simp [intOf]; omega
            | true =>
              have HF := hide (show backL t (rangeFrom 0 (2 ^ n)) (k + 1) = (backL t (rangeFrom 0 (2 ^ n)) k ++ [(k : Int) + 1]) ++ [-((k : Int) + 1)] by rw [backL, hi1, hi2]; simp)
              go_wp2_with (at_builtin; refine append_int rfl _ _ rfl (w.heap.size + 1) rfl ho5 rfl (by have := HL.out; simp; omega) hs5 ?_; intro v6 w6 hown6 hb6)
              go_roundw
              case rel => exact ⟨k + 1, by omega, by go_num, by rw [HF.out]; exact hown6, hbl5.trans hb6⟩
              case measure => simp [intOf]; omega
        · obtain rfl : k = n := by omega
          go_wp2_with fail
          go_ret2
          exact ⟨_, rfl, hown.fints.mono (by omega) (Nat.le_refl _), hal.trans (hbel.mono (by omega))⟩

end Go.Proofs.Ytkmkdfogpdndoaa
