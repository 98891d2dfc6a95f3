/- The walks of the program's groups: the leaders, the classes. -/
import Derived.Test.YtlipmbcjpmbjnaaGrpT
import Derived.Test.YtlipmbcjpmbjnaaVars
import Derived.Test.YtlipmbcjpmbjnaaVal
import Derived.Maps.OwnSet
import Derived.Maps.AppendAt
import Derived.Deep.AppendLies
namespace Go.Proofs.Ytlipmbcjpmbjnaa
open Go.RowKit Go.Maps
set_option linter.unusedVariables false

/-- the leaders as cells -/
def lcells (n : Nat) (L : Nat → Nat) : Array Value := ((List.range n).map fun j => Value.int .i64 ((L j : Nat) : Int)).toArray
theorem lcells_get {n : Nat} {L : Nat → Nat} {j : Nat} (h : j < n) : (lcells n L)[j]? = some (.int .i64 ((L j : Nat) : Int)) := by
  unfold lcells
  simp [h]
theorem lcells_set (n : Nat) (L : Nat → Nat) (a b : Nat) : (lcells n L).setIfInBounds a (.int .i64 (b : Int)) = lcells n (upd L a b) := by
  unfold lcells
  apply Array.ext
  · simp
  · intro i h1 h2
    by_cases e : a = i
    · subst e
      simp [upd]
    · have e' : ¬ i = a := fun h => e h.symm
      simp [upd, e, e']
theorem lcells_congr {n : Nat} {L L' : Nat → Nat} (h : ∀ j, j < n → L j = L' j) : lcells n L = lcells n L' := by
  unfold lcells
  congr 1
  apply List.map_congr_left
  intro j hj
  rw [h j (List.mem_range.1 hj)]
theorem lcells_zero (n : Nat) : (ic (List.replicate n 0)).toArray = lcells n (fun _ => 0) := by
  unfold lcells
  congr 1
  apply List.ext_getElem
  · simp
  · intro i h1 h2
    simp

set_option maxHeartbeats 800000 in
theorem i_root (n : Nat) (L M : Nat → Nat) (la lb : Nat) (w : World) (hB : Blk w la 3 (lcells n L)) (hX : Blk w lb 26 #[.slice (some ⟨la, 0, none⟩) n n]) (hC : Chain L M) (j : Nat) (hj : j < n) :
    Calls Try.prog 77 #[.int .i64 (j : Int), .pointer (some ⟨lb, 0, none⟩)] w fun e w' => e = .returned (.int .i64 ((M j : Nat) : Int)) ∧ w = w' := by
  have x0 : w.cell? ⟨lb, 0, none⟩ = some (.slice (some ⟨la, 0, none⟩) n n) := by simpa using hX.cell 0
  have HB := hide (show ∀ k, k < n → w.cell? ⟨la, k, none⟩ = some (.int .i64 ((L k : Nat) : Int)) from fun k hk => (hB.cell k).trans (lcells_get hk))
  have HC := hide hC
  clear hB hX hC
  go_enter Try.func77, Try.ntmps77
  go_wp2_with fail
  go_loop [0] (fun i => ∃ k : Nat, k < n ∧ i = .int .i64 k ∧ Hid (M k = M j)) (fun i => (intOf i).toNat)
  case atStart => exact ⟨j, hj, rfl, rfl⟩
  case round =>
    obtain ⟨k, hk, rfl, hr⟩ := hrel
    have hc := HB.out k hk
    obtain ⟨l, hl⟩ : ∃ l, L k = l := ⟨_, rfl⟩
    rw [hl] at hc
    have hle := HC.out.le k
    have hup := HC.out.up k
    have htp := HC.out.top k
    rw [hl] at hle hup htp
    have k0 : (0 : Int) ≤ (k : Int) := by omega
    have k1 : (k : Int) < (n : Int) := by omega
    by_cases he : l = k
    · have HM := hide (show M j = k by rw [← hr.out]; exact htp.1 he)
      have hb : ((l : Int) == (k : Int)) = true := by simp [he]
      clear hl hup htp hr hle he
      go_wp2_with fail
      go_ret
      exact ⟨ret_int (by rw [HM.out]), rfl⟩
    · have HM := hide (show M l = M j by rw [hup]; exact hr.out)
      have hb : ((l : Int) == (k : Int)) = false := by simp; omega
      have hlt : l < k := by omega
      clear hl hup htp hr hle he
      go_wp2_with fail
      go_round
      case rel => exact ⟨l, by omega, rfl, HM.out⟩
      case measure => simp [intOf]; omega

theorem i_meet1 {hi : Nat} (x : Int) (v : Value) (zs : List Int) (B : Nat) (w : World) (hc : w.cell? ⟨B, 0, none⟩ = some v) (h : Ints hi w v zs) :
    Calls Try.prog 79 #[.int .i64 x, .pointer (some ⟨B, 0, none⟩)] w fun e w' => e = .returned (.bool (hasI zs x)) ∧ Below w.heap.size w w' := by
  obtain ⟨A, c, rfl, -⟩ := id h
  go_enter Try.func79, Try.ntmps79
  go_wp2_with (go_at_call 76; refine (g_Contains _ zs _ _ h).mono ?_; rintro e w1 ⟨rfl, rfl⟩)
  go_ret
  exact ⟨rfl, Below.refl _ _⟩

theorem run_make_intsG (n : Nat) (hn : n ≤ 1048576) (W : World) : (Instr.makeSlice 26 (.int .i64 n) (.int .i64 n)).run Try.prog W = .ok (.slice (some ⟨W.heap.size, 0, none⟩) n n) (W.alloc (.cells (lcells n (fun _ => 0)) 3)) := by
  have := run_make_row' (P := Try.prog) 26 3 (.int .i64 0) 8 Try.underlying26 int_info rfl .i64 .i64 n (by omega) (by omega) W
  rw [this, madeCells_one, ← lcells_zero]
  simp [ic]

/-- what stays of the world while the classes are gathered -/
def GW (B n mb : Nat) (L : Nat → Nat) (w0 wr : World) : Prop := Blk wr B 3 (lcells n L) ∧ Blk wr (B + 1) 26 #[.slice (some ⟨B, 0, none⟩) n n] ∧ Below B w0 wr ∧ mb + 1 ≤ wr.heap.size
theorem GW.grown {B n mb : Nat} {L : Nat → Nat} {w0 wr w' : World} {o : Option Nat} (h : GW B n mb L w0 wr) (hg : wr.grownBy w' o) (ho : ∀ b, o = some b → mb ≤ b) (hB : B + 1 < mb) : GW B n mb L w0 w' := by
  obtain ⟨h1, h2, h3, h4⟩ := h
  refine ⟨(hg.block B h1.lt (fun e => by have := ho B e.symm; omega)).trans h1, (hg.block (B + 1) h2.lt (fun e => by have := ho (B + 1) e.symm; omega)).trans h2, ?_, Nat.le_trans h4 hg.size⟩
  exact ⟨hg.os.trans h3.os, hg.tape.trans h3.tape, hg.output.trans h3.output, Nat.le_trans h3.size hg.size, fun i hi => (hg.block i (by have := h1.lt; omega) (fun e => by have := ho i e.symm; omega)).trans (h3.block i hi)⟩
theorem GW.set_ {B n mb : Nat} {L : Nat → Nat} {w0 wr : World} (h : GW B n mb L w0 wr) (g i : Nat) (u : Value) (hg : mb ≤ g) (hB : B + 1 < mb) : GW B n mb L w0 (wr.setCell ⟨g, i, none⟩ u) :=
  h.grown (o := some g) (grown_set wr g i u) (fun b e => by injection e with e; omega) hB
theorem lit_inj {a b : Int} (h : (DataW.lit (.int .i64 a) : DataW Unit) = .lit (.int .i64 b)) : a = b := by
  injection h with h
  injection h
theorem hdr_snoc {base L : Nat} {w : World} {v u : Value} {vs : List Value} (h : OwnH base w v (vs ++ [u])) (hl : vs.length = L) : ∃ g c, v = .slice (some ⟨g, 0, none⟩) (L + 1) c := by
  rcases h.2 with ⟨_, h1⟩ | ⟨g, cap, cur, e, _⟩
  · simp at h1
  · exact ⟨g, cap, by rw [e]; simp [hl]⟩
theorem lawI : Keyed Try.prog 3 := int_keyed Try.underlying3
theorem zeroI (w : World) : (zeroValue 3).run Try.prog w = .ok (.int .i64 0) w := by kernel_rfl

/-- two rows have a number in common -/
def mtN (t : List (List Int)) (i k : Nat) : Bool := (t.getD i []).any fun x => hasI (t.getD k []) x

set_option maxRecDepth 20000 in
set_option maxHeartbeats 3200000 in
theorem i_groups {hi : Nat} (v : Value) (t : List (List Int)) (w : World) (h : Tab hi w v t) (hn0 : t.length ≤ 60) :
    Calls Try.prog 44 #[v] w fun e w' => ∃ v', e = .returned v' ∧ FTab w.heap.size w'.heap.size w' v' (partsL (labI (mtN t) t.length) t.length) ∧ Below w.heap.size w w' := by
  have eg1 := Go.Proofs.enters_of Try.func77 (by kernel_rfl) rfl
  have eg2 := Go.Proofs.enters_of Try.func79 (by kernel_rfl) rfl
  obtain ⟨A, c, ps, rfl, hc, hm, htp, hrow, hps⟩ := h.top.open_
  unfold maxLen at hm
  obtain ⟨n, hpn⟩ : ∃ n, ps.length = n := ⟨_, rfl⟩
  have htn : t.length = n := by rw [htp, List.length_map, hpn]
  rw [htn] at hn0 ⊢
  rw [hpn] at hc ⊢
  obtain ⟨mt, hmt⟩ : ∃ mt, mtN t = mt := ⟨_, rfl⟩
  rw [hmt]
  have HMT := hide hmt
  have HTP := hide htp
  have HPN := hide hpn
  have HPS := hide hps
  have hmk := fun W => run_make_intsG n (by omega) W
  obtain ⟨cs0, hcs0⟩ : ∃ cs0, lcells n (fun _ => 0) = cs0 := ⟨_, rfl⟩
  rw [hcs0] at hmk
  obtain ⟨wa, hwa⟩ : ∃ wa, wa = w.alloc (.cells cs0 3) := ⟨_, rfl⟩
  have hala : Below w.heap.size w wa := by rw [hwa]; exact (Below.refl _ _).alloc (Nat.le_refl _) _
  have hsa : wa.heap.size = w.heap.size + 1 := by rw [hwa]; simp
  have hBa : Blk wa w.heap.size 3 cs0 := by rw [hwa]; exact Blk.new _ _ _
  obtain ⟨wb, hwb⟩ : ∃ wb, wb = wa.alloc (.cells #[.slice (some ⟨w.heap.size, 0, none⟩) n n] 26) := ⟨_, rfl⟩
  have halb : Below wa.heap.size wa wb := by rw [hwb]; exact (Below.refl _ _).alloc (Nat.le_refl _) _
  have HX := hide (show Blk wb (w.heap.size + 1) 26 #[.slice (some ⟨w.heap.size, 0, none⟩) n n] by rw [hwb, ← hsa]; exact Blk.new _ _ _)
  have HB := hide (show Blk wb w.heap.size 3 (lcells n (fun j => if j < 0 then j else 0)) by
    rw [lcells_congr (L' := fun _ => 0) (by intro j _; simp), hcs0]
    exact hBa.below halb hBa.lt)
  have HAL := hide (hala.trans (halb.mono (by omega)))
  have HWB := hide (show wb = (w.alloc (.cells cs0 3)).alloc (.cells #[.slice (some ⟨w.heap.size, 0, none⟩) n n] 26) by rw [hwb, hwa])
  have hsb : w.heap.size + 1 < wb.heap.size := HX.out.lt
  clear hwb hwa hala halb hsa hBa hcs0 h hps hpn htn htp hmt
  go_enter Try.func44, Try.ntmps44
  go_wp2_with fail
  rw [← HWB.out]
  go_loopw [22] (fun i wr => ∃ k : Nat, k ≤ n ∧ i = .int .i64 k ∧ Blk wr w.heap.size 3 (lcells n (fun j => if j < k then j else 0)) ∧ Blk wr (w.heap.size + 1) 26 #[.slice (some ⟨w.heap.size, 0, none⟩) n n] ∧ Below w.heap.size w wr) (fun i _ => n - (intOf i).toNat)
  case atStart => exact ⟨0, Nat.zero_le _, rfl, HB.out, HX.out, HAL.out⟩
  case round =>
    obtain ⟨k, hk, rfl, hB, hX, hbel⟩ := hrel
    have x0 : wr.cell? ⟨w.heap.size + 1, 0, none⟩ = some (.slice (some ⟨w.heap.size, 0, none⟩) n n) := by simpa using hX.cell 0
    by_cases hlt : k < n
    · have hf := hB.frozen k
      have hc0 := (hB.cell k).trans (lcells_get hlt)
      have hB2 := hB.set_ k (.int .i64 (k : Int))
      rw [lcells_set, lcells_congr (L' := fun j => if j < k + 1 then j else 0) (by
        intro j _
        unfold upd
        by_cases e : j = k
        · rw [if_pos e, if_pos (by omega), e]
        · rw [if_neg e]
          dsimp only
          by_cases e2 : j < k
          · rw [if_pos e2, if_pos (by omega)]
          · rw [if_neg e2, if_neg (by omega)])] at hB2
      have HB2 := hide hB2
      have HX2 := hide (hX.far (p := ⟨w.heap.size, k, none⟩) (by show ¬ (w.heap.size + 1 = w.heap.size); omega) (.int .i64 (k : Int)))
      have HBL := hide (hbel.setCell (p := ⟨w.heap.size, k, none⟩) (Nat.le_refl _) (.int .i64 (k : Int)))
      have k0 : (0 : Int) ≤ (k : Int) := by omega
      have k1 : (k : Int) < (n : Int) := by omega
      clear hB2 hB hX hbel
      go_wp2_with fail
      go_roundw
      case rel => exact ⟨k + 1, by omega, by go_num, HB2.out, HX2.out, HBL.out⟩
      case measure => simp [intOf]; omega
    · obtain rfl : n = k := by omega
      rw [lcells_congr (L' := id) (by intro j hj; simp [hj])] at hB
      have HB1 := hide hB
      have HX1 := hide hX
      have HB0 := hide hbel
      clear hB hX hbel HB HX
      go_wp2_with fail
      go_loopw [33] (fun i wr => ∃ (k : Nat) (L : Nat → Nat), k ≤ n ∧ i = .int .i64 k ∧ Chain L (labI mt k) ∧ Blk wr w.heap.size 3 (lcells n L) ∧ Blk wr (w.heap.size + 1) 26 #[.slice (some ⟨w.heap.size, 0, none⟩) n n] ∧ Below w.heap.size w wr) (fun i _ => n - (intOf i).toNat)
      case atStart => exact ⟨0, id, Nat.zero_le _, rfl, Chain.id_, HB1.out, HX1.out, HB0.out⟩
      case round =>
        obtain ⟨i, L, hi, rfl, hch, hB, hX, hbel⟩ := hrel
        obtain ⟨wo, hwo⟩ : ∃ wo, wo = wr := ⟨_, rfl⟩
        subst hwo
        by_cases hlt : i < n
        · obtain ⟨b, off, u, z, rfl, hx, hcw, hz⟩ := hrow.tab HPS.out (k := i) (by rw [HPN.out]; exact hlt)
          have hbb : b < w.heap.size := by obtain ⟨b', off', e', hlt', _⟩ := hrow (by simp [HPN.out]; omega); injection e' with e'; injection e' with e1 e2; omega
          have hcells : ∀ j y, (ps.map (·.1))[j]? = some y → w.cell? ⟨b, off + j, none⟩ = some y := by
            intro j y hj
            obtain ⟨b', off', e', hlt', hcc⟩ := hrow (by simp [HPN.out]; omega)
            injection e' with e'; injection e' with e1 e2
            subst e1 e2
            exact hcc j y hj
          replace hcw := (hbel.cell (p := ⟨b, off + i, none⟩) hbb).trans hcw
          have hzt : t.getD i [] = z := by
            have h1 : ps[i]? = some (u, z) := get_of_drop hx
            rw [HTP.out, List.getD_eq_getElem?_getD, List.getElem?_map, h1]
            rfl
          obtain ⟨Az, cz, rfl, hcz, hmz, hzr⟩ := id hz
          unfold maxLen at hmz
          have HZ := hide hz
          have HZR := hide hzr
          have HZT := hide hzt
          have HCL := hide hcells
          have HB := hide hB
          have HX := hide hX
          have HCH := hide hch
          have HBL := hide hbel
          have i0 : (0 : Int) ≤ (i : Int) := by omega
          have i1 : (i : Int) < (n : Int) := by omega
          have i2 : (i : Int) ≤ (c : Int) := by omega
          have i3 : i ≤ c := by omega
          clear hx hz hzr hzt hB hX hch hbel hcells
          go_wp2_with fail
          go_loopw [42] (fun kk wr => ∃ (k : Nat) (L : Nat → Nat), k ≤ i ∧ kk = .int .i64 k ∧ Chain L (labK mt i k (labI mt i)) ∧ Blk wr w.heap.size 3 (lcells n L) ∧ Blk wr (w.heap.size + 1) 26 #[.slice (some ⟨w.heap.size, 0, none⟩) n n] ∧ Below w.heap.size w wr) (fun kk _ => i - (intOf kk).toNat)
          case atStart => exact ⟨0, L, Nat.zero_le _, rfl, HCH.out, HB.out, HX.out, HBL.out⟩
          case round =>
            obtain ⟨k, L, hk, rfl, hch, hB, hX, hbel⟩ := hrel
            by_cases hlt2 : k < i
            · obtain ⟨pk, hpk⟩ : ∃ pk, ps[k]? = some pk := ⟨_, List.getElem?_eq_getElem (by rw [HPN.out]; omega)⟩
              have hck := (hbel.cell (p := ⟨b, off + k, none⟩) hbb).trans (HCL.out k pk.1 (by rw [List.getElem?_map, hpk]; rfl))
              have hzk : t.getD k [] = pk.2 := by
                rw [HTP.out, List.getD_eq_getElem?_getD, List.getElem?_map, hpk]
                rfl
              have hIk := HPS.out pk (List.mem_of_getElem? hpk)
              obtain ⟨uk, zk⟩ := pk
              dsimp only at hck hzk hIk
              obtain ⟨Ak, ck, rfl, -⟩ := id hIk
              obtain ⟨wx, hwx⟩ : ∃ wx, wx = wr.alloc (.cells #[.slice Ak zk.length ck] 26) := ⟨_, rfl⟩
              have halx : Below wr.heap.size wr wx := by rw [hwx]; exact (Below.refl _ _).alloc (Nat.le_refl _) _
              have hbox : wx.cell? ⟨wr.heap.size, 0, none⟩ = some (.slice Ak zk.length ck) := by rw [hwx]; simp
              have hIx := (hIk.under hbel (Nat.le_refl _)).below halx
              have hrx := (HZR.out.under hbel (Nat.le_refl _)).below halx
              have hp : Answers Try.prog 79 #[.pointer (some ⟨wr.heap.size, 0, none⟩)] (ic z) (z.map fun x => hasI zk x) wx := by
                intro j u bb hu hb W hW
                rw [List.getElem?_map] at hu hb
                obtain ⟨y, hy, rfl⟩ := Option.map_eq_some_iff.1 hu
                rw [hy] at hb
                obtain rfl : hasI zk y = bb := by simpa using hb
                exact i_meet1 y _ zk wr.heap.size W (below_old hW _ _ hbox) (hIx.below hW)
              obtain ⟨bm, hbm⟩ : ∃ bm, mt i k = bm := ⟨_, rfl⟩
              have hany : (z.map fun x => hasI zk x).any id = bm := by
                rw [← hbm, ← HMT.out]
                unfold mtN
                rw [HZT.out, hzk]
                simp [List.any_map, Function.comp_def]
              have hcf := g_ContainsFunc Az cz _ _ z _ wx hcz hmz hrx (by simp) eg2 hp
              rw [hany] at hcf
              have HCF := hide hcf
              have HBM := hide hbm
              have hbw0 := halx
              have HWX := hide hwx
              have HBX := hide (hB.below halx hB.lt)
              have HXX := hide (hX.below halx hX.lt)
              have HBLX := hide (hbel.trans (halx.mono (by have := hbel.size; omega)))
              have HCHK := hide hch
              have hszx := halx.size
              have HSZ := hide (show w.heap.size + 1 < wx.heap.size by have := hX.lt; omega)
              have k0 : (0 : Int) ≤ (k : Int) := by omega
              have k1 : (k : Int) < (i : Int) := by omega
              clear hpk hzk hIk halx hbox hIx hrx hp hany hcf hwx hB hX hbel hch hbm hszx hbw0
              go_wp2_with fail
              rw [← HWX.out]
              refine HCF.out.mono ?_
              rintro e w1 ⟨rfl, hb1⟩
              have hB1 := HBX.out.below hb1 HBX.out.lt
              have hX1 := HXX.out.below hb1 HXX.out.lt
              have hbel1 := HBLX.out.trans (hb1.mono (by have := HSZ.out; omega))
              cases bm with
              | false =>
                have HN := hide (show labK mt i (k + 1) (labI mt i) = labK mt i k (labI mt i) by rw [labK, if_neg (by rw [HBM.out]; simp)])
                go_wp2_with fail
                go_roundw
                case rel => exact ⟨k + 1, L, by omega, by go_num, by rw [HN.out]; exact HCHK.out, hB1, hX1, hbel1⟩
                case measure => simp [intOf]; omega
              | true =>
                obtain ⟨M, hM⟩ : ∃ M, labK mt i k (labI mt i) = M := ⟨_, rfl⟩
                have hlab : Lab M := by rw [← hM]; exact labK_lab mt i (labI_lab mt i) k
                have hch := HCHK.out
                rw [hM] at hch
                obtain ⟨X, hX9⟩ : ∃ X, M i = X := ⟨_, rfl⟩
                obtain ⟨Y, hY9⟩ : ∃ Y, M k = Y := ⟨_, rfl⟩
                have hr1 := i_root n L M w.heap.size (w.heap.size + 1) w1 hB1 hX1 hch i hlt
                have hr2 := i_root n L M w.heap.size (w.heap.size + 1) w1 hB1 hX1 hch k (by omega)
                rw [hX9] at hr1
                rw [hY9] at hr2
                have hXi : X ≤ i := by rw [← hX9]; exact hlab.le i
                have hYk : Y ≤ k := by rw [← hY9]; exact hlab.le k
                have hXX : M X = X := by rw [← hX9]; exact hlab.fix i
                have hYY : M Y = Y := by rw [← hY9]; exact hlab.fix k
                have hcr := hch.relab hlab hXX hYY
                have hN9 : labK mt i (k + 1) (labI mt i) = relab M X Y := by rw [labK, if_pos HBM.out, hM, hX9, hY9]
                obtain ⟨P, hP⟩ : ∃ P, max X Y = P := ⟨_, rfl⟩
                obtain ⟨R, hR⟩ : ∃ R, min X Y = R := ⟨_, rfl⟩
                rw [hP, hR] at hcr
                have hmax : max (X : Int) (Y : Int) = (P : Int) := by omega
                have hmin : min (X : Int) (Y : Int) = (R : Int) := by omega
                have hPn : P < n := by omega
                have HCN := hide (show Chain (upd L P R) (labK mt i (k + 1) (labI mt i)) by rw [hN9]; exact hcr)
                have HR1 := hide hr1
                have HR2 := hide hr2
                have x0 : w1.cell? ⟨w.heap.size + 1, 0, none⟩ = some (.slice (some ⟨w.heap.size, 0, none⟩) n n) := by simpa using hX1.cell 0
                have hf := hB1.frozen P
                have hc0 := (hB1.cell P).trans (lcells_get hPn)
                have hB2 := hB1.set_ P (.int .i64 (R : Int))
                rw [lcells_set] at hB2
                have HB2 := hide hB2
                have HX2 := hide (hX1.far (p := ⟨w.heap.size, P, none⟩) (by show ¬ (w.heap.size + 1 = w.heap.size); omega) (.int .i64 (R : Int)))
                have HBL2 := hide (hbel1.setCell (p := ⟨w.heap.size, P, none⟩) (Nat.le_refl _) (.int .i64 (R : Int)))
                have P0 : (0 : Int) ≤ (P : Int) := by omega
                have P1 : (P : Int) < (n : Int) := by omega
                clear hr1 hr2 hX9 hY9 hM hlab hch hXX hYY hB1 hX1 hbel1 hb1 hcr hN9 hP hR hB2
                go_wp2_with fail
                refine HR1.out.mono ?_
                rintro e w2 ⟨rfl, rfl⟩
                go_wp2_with fail
                refine HR2.out.mono ?_
                rintro e w3 ⟨rfl, rfl⟩
                go_wp2_with fail
                go_roundw
                case rel => exact ⟨k + 1, upd L P R, by omega, by go_num, HCN.out, HB2.out, HX2.out, HBL2.out⟩
                case measure => simp [intOf]; omega
            · obtain rfl : i = k := by omega
              go_wp2_with fail
              go_roundw
              case rel => exact ⟨i + 1, L, by omega, by go_num, hch, hB, hX, hbel⟩
              case measure => simp [intOf]; omega
        · obtain rfl : n = i := by omega
          obtain ⟨M, hM⟩ : ∃ M, labI mt n = M := ⟨_, rfl⟩
          have hlab : Lab M := by rw [← hM]; exact labI_lab mt n
          rw [hM] at hch
          have HM9 := hide hM
          clear hM
          have HLAB := hide hlab
          have HCH := hide hch
          have hwx : w.heap.size + 1 < wo.heap.size := hX.lt
          obtain ⟨wm, hwm⟩ : ∃ wm, wm = wo.alloc (.map #[] 0) := ⟨_, rfl⟩
          have halm : Below wo.heap.size wo wm := by rw [hwm]; exact (Below.refl _ _).alloc (Nat.le_refl _) _
          have HGW := hide (show GW w.heap.size n wo.heap.size L w wm from ⟨hB.below halm hB.lt, hX.below halm hX.lt, hbel.trans (halm.mono (by omega)), by rw [hwm]; simp⟩)
          have HMAP := hide (show wm.ownsMap Try.prog 3 (plainElem (H := Unit) Try.prog 3) wo.heap.size 0 (plD M 0) by rw [hwm]; exact World.ownsMap_made _ _ _ _)
          have HWM := hide hwm
          have hmm := @run_makeMap Try.prog
          clear hwm halm hB hX hbel hlab hch
          go_wp2_with fail
          rw [← HWM.out]
          go_loopw [12, 69] (fun q ii wr => ∃ (k : Nat) (qs : List (Value × List Int)), k ≤ n ∧ ii = .int .i64 k ∧ Hid (qs.map (·.2) = partsK M k) ∧ wr.ownsMap Try.prog 3 (plainElem (H := Unit) Try.prog 3) wo.heap.size k (plD M k) ∧ GT (wo.heap.size + 1) wr q qs ∧ GW w.heap.size n wo.heap.size L w wr) (fun _ ii _ => n - (intOf ii).toNat)
          case atStart => exact ⟨0, [], Nat.zero_le _, rfl, rfl, HMAP.out, GT.nil _ _, HGW.out⟩
          case round =>
            obtain ⟨k, qs, hk, rfl, hqs, hmap, hG, hW⟩ := hrel
            by_cases hlt2 : k < n
            · obtain ⟨r, hr⟩ : ∃ r, M k = r := ⟨_, rfl⟩
              have hroot := i_root n L M w.heap.size (w.heap.size + 1) wr hW.1 hW.2.1 HCH.out k hlt2
              rw [hr] at hroot
              have hrk : r ≤ k := by rw [← hr]; exact HLAB.out.le k
              have hrr : M r = r := by rw [← hr]; exact HLAB.out.fix k
              have hkeyr : keyOf Try.prog 3 (.int .i64 (r : Int)) = some (.int .i64 (r : Int)) := keyOf_int_mk Try.underlying3 (WalkArith.wf_i64 (by omega))
              obtain ⟨Aq, cq, hqe, hqc, hqm, -⟩ := hG.hdr.own
              obtain ⟨ld, hld⟩ : ∃ ld, qs.length = ld := ⟨_, rfl⟩
              rw [List.length_map, hld] at hqe hqc
              subst hqe
              have hll : (leads M k).length = ld := by rw [← hld, ← partsK_len, ← hqs.out, List.length_map]
              have hldk : ld ≤ k := by rw [← hll]; exact leads_le M k
              have HROOT := hide hroot
              have HLD := hide hld
              have HQS := hide hqs.out
              have HG := hide hG
              have HW := hide hW
              have HR := hide hr
              have HRR := hide hrr
              have HLL := hide hll
              have k0 : (0 : Int) ≤ (k : Int) := by omega
              have k1 : (k : Int) < (n : Int) := by omega
              obtain ⟨D, hD⟩ : ∃ D, plD M k = D := ⟨_, rfl⟩
              rw [hD] at hmap
              have HD := hide hD
              have HMP := hide hmap
              have hwf : (Lit.int .i64 ((k : Nat) : Int)).wf = true := WalkArith.wf_i64 (by omega)
              have hkeyk : keyOf Try.prog 3 (.int .i64 (k : Int)) = some (.int .i64 (k : Int)) := keyOf_int_mk Try.underlying3 hwf
              clear hroot hqs hG hW hr hrr hld hll hD
              by_cases hrk2 : r = k
              · subst hrk2
                have HHAS := hide (show Maps.has D (.int .i64 ((r : Nat) : Int)) = false by rw [← HD.out, plD_has]; simp)
                go_wp2_with fail
                refine HROOT.out.mono ?_
                rintro e w2 ⟨rfl, rfl⟩
                have hmx : r < maxLen := by unfold maxLen; omega
                have hwfl : (Lit.int .i64 ((ld : Nat) : Int)).wf = true := WalkArith.wf_i64 (by omega)
                have hldm : (qs.map (·.1)).length ≤ 1073741824 := by rw [List.length_map, HLD.out]; omega
                have HLM := hide (show (qs.map (·.1)).length = ld by rw [List.length_map]; exact HLD.out)
                have HLS := hide (show (qs ++ [(Value.slice none 0 0, ([] : List Int))]).length = ld + 1 by rw [List.length_append, HLD.out]; rfl)
                have HIX := hide (show (qs ++ [(Value.slice none 0 0, ([] : List Int))])[ld]? = some (Value.slice none 0 0, []) by rw [← HLD.out, List.getElem?_append_right (Nat.le_refl _)]; simp)
                have l0 : (0 : Int) ≤ (ld : Int) := by omega
                have l1 : (ld : Int) < (ld : Int) + 1 := by omega
                go_wp2_with (first | (at_lookup; refine wpList_lookup_own_ok_int _ rfl _ _ 68 rfl 3 3 .i64 lawI Try.underlying68 Try.underlying3 (zeroI _) wo.heap.size r D rfl HMP.out _ _ rfl hkeyr ?_; intro c hat hwc; rw [HHAS.out]) | (at_mapUpdate; refine wpList_mapUpdate_own _ rfl _ _ _ 68 rfl 3 3 lawI Try.underlying68 _ wo.heap.size r D rfl HMP.out hmx _ _ _ rfl rfl hkeyr _ [] (plainElem_int Try.underlying3 hwfl) ?_; intro w1 hmap1 hgm1; have hG1 := HG.out.other hgm1 (Nat.lt_succ_self _); have hW1 := HW.out.grown hgm1 (fun b e => by injection e with e; omega) hwx; have hb1 := hW1.2.2.2) | (at_builtin; refine append_hdr rfl _ _ rfl (wo.heap.size + 1) rfl hG1.hdr rfl rfl rfl hldm hb1 ?_; intro v2 w2 hO2 hg2 hb2 hat2; obtain ⟨g2, c2, rfl⟩ := hdr_snoc hO2 HLM.out; have hG2 := hG1.snoc hO2 hg2; obtain ⟨hc2, hf2⟩ := hG2.at_ HLS.out HIX.out (grown_refl _ none) (.inl rfl); have hs2 := Nat.le_trans hb1 hg2.size) | (at_builtin; refine append_intA rfl _ _ rfl (wo.heap.size + 1) rfl (OwnI.nil _ _) rfl (by simp) hs2 ?_; intro g3 c3 w3 hO3 hg3 hat3; obtain ⟨hc3, hf3⟩ := hG2.at_ HLS.out HIX.out hg3 (.inr rfl)) | fail)
                have hgq : w1.grownBy w2 (Value.slice Aq ld cq).ownBlock := hg2
                have hgn : w2.grownBy w3 none := hg3
                have hblk : ∀ b, (Value.slice Aq ld cq).ownBlock = some b → wo.heap.size + 1 ≤ b := fun b e => (HG.out.hdr.block_lt e).1
                have hg2b := (hG2.hdr.block_lt (g := g2) rfl).1
                have hput := hG2.put (u' := .slice (some ⟨g3, 0, none⟩) 1 c3) (z' := [((r : Nat) : Int)]) HLS.out HIX.out hO3 hgn (fun b e => by
                  obtain rfl : g3 = b := by simpa [Value.ownBlock] using e
                  rcases hat3 with h9 | h9
                  · exact .inl h9
                  · exact .inr h9)
                have hW3 := ((hW1.grown hgq (fun b e => by have := hblk b e; omega) hwx).grown hgn (fun b e => by cases e) hwx).set_ g2 ld (.slice (some ⟨g3, 0, none⟩) 1 c3) (by omega) hwx
                have hmap3 := ((hmap1.kept hgq (fun e => by have := hblk _ e.symm; omega)).kept hgn (by simp)).setCell (a := ⟨g2, ld, none⟩) (by show wo.heap.size ≠ g2; omega) (.slice (some ⟨g3, 0, none⟩) 1 c3)
                have HDN := hide (show plD M (r + 1) = D.put (.int .i64 ((r : Nat) : Int)) (.lit (.int .i64 ((ld : Nat) : Int))) by rw [plD, if_pos HRR.out, HD.out, HLL.out])
                have HQ := hide (show (((qs ++ [(Value.slice none 0 0, ([] : List Int))]).set ld (.slice (some ⟨g3, 0, none⟩) 1 c3, [((r : Nat) : Int)])).map (·.2)) = partsK M (r + 1) by
                  rw [partsK_new HLAB.out HRR.out, ← HQS.out]
                  simp [HLD.out])
                go_roundw
                case rel => exact ⟨r + 1, _, by omega, by go_num, HQ.out, by rw [HDN.out]; exact hmap3, hput, hW3⟩
                case measure => simp [intOf]; omega
              · have hlt9 : r < k := by omega
                obtain ⟨p, hp⟩ : ∃ p, (leads M r).length = p := ⟨_, rfl⟩
                obtain ⟨z, hz⟩ : ∃ z, castL (partOf M k r) = z := ⟨_, rfl⟩
                have h9 : (qs.map (·.2))[p]? = some z := by rw [HQS.out, ← hp, ← hz]; exact partsK_at HRR.out hlt9
                rw [List.getElem?_map] at h9
                obtain ⟨pq, hpq, hpz⟩ := Option.map_eq_some_iff.1 h9
                obtain ⟨u, z2⟩ := pq
                obtain rfl : z2 = z := hpz
                have hpl : p < ld := by rw [← HLD.out]; exact (List.getElem?_eq_some_iff.1 hpq).1
                obtain ⟨gq, rfl⟩ : ∃ gq, Aq = some ⟨gq, 0, none⟩ := by
                  rcases HG.out.hdr.2 with ⟨_, h8⟩ | ⟨g8, c8, cur8, e8, _⟩
                  · rw [List.length_map, HLD.out] at h8; omega
                  · injection e8 with e8
                    exact ⟨g8, e8⟩
                have hu := HG.out.rows _ (List.mem_of_getElem? hpq)
                obtain ⟨hcp, hfp⟩ := HG.out.at_ HLD.out hpq (grown_refl _ none) (.inl rfl)
                have hzl : z2.length ≤ 1073741824 := by
                  rw [← hz, castL_length]
                  have := List.length_filter_le (fun j => M j == r) (List.range k)
                  rw [List.length_range] at this
                  unfold partOf
                  omega
                have hb1 := HW.out.2.2.2
                have HHAS := hide (show Maps.has D (.int .i64 ((r : Nat) : Int)) = true by rw [← HD.out, plD_has]; simp [HRR.out, hlt9])
                have HAT := hide (show ∀ y, D.atKey (.int .i64 ((r : Nat) : Int)) y = .lit (.int .i64 ((p : Nat) : Int)) from fun y => by rw [← HD.out, plD_at M r y HRR.out k hlt9, hp])
                have HPQ := hide hpq
                have HU := hide hu
                have HZ := hide hz
                have HPP := hide hp
                have p0 : (0 : Int) ≤ (p : Int) := by omega
                have p1 : (p : Int) < (ld : Int) := by omega
                clear hp hz h9 hpq hu
                go_wp2_with fail
                refine HROOT.out.mono ?_
                rintro e w2 ⟨rfl, rfl⟩
                go_wp2_with (first | (at_lookup; refine wpList_lookup_own_ok_int _ rfl _ _ 68 rfl 3 3 .i64 lawI Try.underlying68 Try.underlying3 (zeroI _) wo.heap.size k D rfl HMP.out _ _ rfl hkeyr ?_; intro c hat hwc; rw [HHAS.out]; have hc := lit_inj (hat.symm.trans (HAT.out _)); subst hc; clear hat hwc) | (at_builtin; refine append_intA rfl _ _ rfl (wo.heap.size + 1) rfl HU.out rfl hzl hb1 ?_; intro g3 c3 w3 hO3 hg3 hat3; obtain ⟨hc3, hf3⟩ := HG.out.at_ HLD.out HPQ.out hg3 (.inr rfl)) | fail)
                have hgu : wr.grownBy w3 u.ownBlock := hg3
                have hat9 : u.ownBlock = some g3 ∨ wr.heap.size ≤ g3 := hat3
                have hblk : ∀ b, u.ownBlock = some b → wo.heap.size + 1 ≤ b := fun b e => (World.ownsRow.lt HU.out b e).1
                have hgb := (HG.out.hdr.block_lt (g := gq) rfl).1
                have hput := HG.out.put (u' := .slice (some ⟨g3, 0, none⟩) (z2.length + 1) c3) (z' := z2 ++ [(k : Int)]) HLD.out HPQ.out hO3 hgu (fun b e => by
                  obtain rfl : g3 = b := by simpa [Value.ownBlock] using e
                  exact hat9)
                have hW3 := (HW.out.grown hgu (fun b e => by have := hblk b e; omega) hwx).set_ gq p (.slice (some ⟨g3, 0, none⟩) (z2.length + 1) c3) (by omega) hwx
                have hmap3 := ((HMP.out.kept hgu (fun e => by have := hblk _ e.symm; omega)).setCell (a := ⟨gq, p, none⟩) (by show wo.heap.size ≠ gq; omega) (.slice (some ⟨g3, 0, none⟩) (z2.length + 1) c3)).mono (Nat.le_succ k)
                have HDN := hide (show plD M (k + 1) = D by rw [plD, if_neg (by rw [HR.out]; exact hrk2), HD.out])
                have HQ := hide (show ((qs.set p (.slice (some ⟨g3, 0, none⟩) (z2.length + 1) c3, z2 ++ [(k : Int)])).map (·.2)) = partsK M (k + 1) by
                  rw [partsK_old HR.out HRR.out hlt9, List.map_set, HQS.out, HPP.out, HZ.out])
                go_roundw
                case rel => exact ⟨k + 1, _, by omega, by go_num, HQ.out, by rw [HDN.out]; exact hmap3, hput, hW3⟩
                case measure => simp [intOf]; omega
            · obtain rfl : n = k := by omega
              have HF := hide (hG.ftab.mono (show w.heap.size ≤ wo.heap.size + 1 by omega) (Nat.le_refl _))
              rw [hqs.out] at HF
              have HB := hide hW.2.2.1
              clear hqs hmap hG hW
              go_wp2_with fail
              go_ret
              exact ⟨_, rfl, by rw [HM9.out]; exact HF.out, HB.out⟩

end Go.Proofs.Ytlipmbcjpmbjnaa
