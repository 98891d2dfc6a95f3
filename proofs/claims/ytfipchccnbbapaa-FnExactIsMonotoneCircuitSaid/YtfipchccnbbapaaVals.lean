/- The walks: the values of a circuit's gates; CircuitValue. -/
import Derived.Test.YtfipchccnbbapaaGates
namespace Go.Proofs.Ytfipchccnbbapaa
open Go.RowKit
set_option linter.unusedVariables false

/-- the bools as cells -/
abbrev bc (bs : List Bool) : List Value := bs.map Value.bool
def Bools (hi : Nat) (w : World) (v : Value) (bs : List Bool) : Prop :=
  ∃ A c, v = .slice A bs.length c ∧ bs.length ≤ c ∧ c ≤ maxLen ∧ Row hi w A (bc bs)
theorem Bools.below {hi : Nat} {w w' : World} {v : Value} {bs : List Bool} (h : Bools hi w v bs) (hb : Below w.heap.size w w') : Bools hi w' v bs := by
  obtain ⟨A, c, e, h1, h2, h3⟩ := h; exact ⟨A, c, e, h1, h2, h3.below hb⟩
theorem Row.bool {hi : Nat} {w : World} {A : Option Addr} {bs : List Bool} {k : Nat} (h : Row hi w A (bc bs)) (hk : k < bs.length) :
    ∃ b off x, A = some ⟨b, off, none⟩ ∧ bs.drop k = x :: bs.drop (k + 1) ∧ w.cell? ⟨b, off + k, none⟩ = some (.bool x) := by
  obtain ⟨b, off, e, hc⟩ := h.at_ (k := k) (by simpa using hk)
  exact ⟨b, off, bs[k], e, List.drop_eq_getElem_cons hk, by rw [hc]; simp⟩
theorem bool_info : (Try.prog.info? 4).map (fun i => (i.zero, i.size, i.bytes)) = some (some (.bool false), 1, 1) := by kernel_rfl
/-- a slice of bools that the call itself grows -/
def OwnB (base : Nat) (w : World) (v : Value) (bs : List Bool) : Prop := w.ownsRow base 4 1 v bs.length (bc bs)
theorem OwnB.made (base : Nat) (w : World) (hb : base ≤ w.heap.size) : OwnB base (w.alloc (.cells #[] 4)) (.slice (some ⟨w.heap.size, 0, none⟩) 0 0) [] := World.ownsRow_made w #[] 0 hb (by simp [maxLen]) rfl
theorem OwnB.below {base : Nat} {w w' : World} {v : Value} {bs : List Bool} (h : OwnB base w v bs) (hb : Below w.heap.size w w') : OwnB base w' v bs := ownsRow_below h hb
theorem OwnB.own {base : Nat} {w : World} {v : Value} {bs : List Bool} (h : OwnB base w v bs) : ∃ A c, v = .slice A bs.length c ∧ bs.length ≤ c ∧ c ≤ maxLen ∧ Own base w.heap.size w A (bc bs) := ownsRow_own h
theorem OwnB.bools {base : Nat} {w : World} {v : Value} {bs : List Bool} (h : OwnB base w v bs) : Bools w.heap.size w v bs := by
  obtain ⟨A, c, e, h1, h2, h3⟩ := h.own
  exact ⟨A, c, e, h1, h2, h3.row⟩
theorem append_bool {ops : Array Oper} {rest : List Oper} {o : Oper} {a : Act} {Q : Exit → Act → World → Prop} {w : World} {y : Bool} (hgd : o.guard = none) (s x : Operand)
    (ho : o.op = .call { callee := .builtin .append, args := #[s, x], argTypes := #[61, 61] })
    (base : Nat) {v : Value} {bs : List Bool} (hs : a.eval s = v) (hown : OwnB base w v bs)
    {H : Nat} (hx : a.eval x = .slice (some ⟨H, 0, none⟩) 1 1) (hH : w.heap.size = H) (hn : bs.length ≤ 1073741824) (hb : base ≤ w.heap.size)
    (h : ∀ v' w', OwnB base w' v' (bs ++ [y]) → Below base w w' → wpList Try.prog ops Q rest (a.put o.dst v') w') : wpList Try.prog ops Q (o :: rest) a (w.alloc (.cells #[.bool y] 4)) := by
  subst hH
  exact wpList_append_1 hgd s x _ ho 4 (.bool false) 1 Try.underlying61 bool_info rfl (by decide) w base v bs.length (bc bs) hs hown (.bool y) rfl hx hn hb fun v' w' h1 h2 =>
    h v' w' (by unfold OwnB; simpa [bc] using h1) h2
theorem run_make_bools (n : Nat) (hn : n ≤ 1048576) (W : World) : (Instr.makeSlice 61 (.int .i64 n) (.int .i64 n)).run Try.prog W = .ok (.slice (some ⟨W.heap.size, 0, none⟩) n n) (W.alloc (.cells (bc (List.replicate n false)).toArray 4)) := by
  have := run_make_row' (P := Try.prog) 61 4 (.bool false) 1 Try.underlying61 bool_info rfl .i64 .i64 n (by omega) (by omega) W
  rw [this, madeCells_one]
  simp [bc]

/-! plain -/
def valG (bits : Int) (acc : List Bool) (g : GateL) : Bool :=
  if g.1 = 1 then bitB bits (g.2.1 - 1).toNat
  else if g.1 = 2 then true
  else if g.1 = 4 then !acc.getD g.2.1.toNat false
  else if g.1 = 5 then acc.getD g.2.1.toNat false && acc.getD g.2.2.toNat false
  else if g.1 = 6 then acc.getD g.2.1.toNat false || acc.getD g.2.2.toNat false
  else false
def valsL (bits : Int) : List Bool → List GateL → List Bool
  | acc, [] => acc
  | acc, g :: r => valsL bits (acc ++ [valG bits acc g]) r
theorem valsL_length (bits : Int) : ∀ (gs : List GateL) (acc : List Bool), (valsL bits acc gs).length = acc.length + gs.length
  | [], acc => rfl
  | g :: r, acc => by rw [valsL, valsL_length bits r]; simp; omega
def valueG (gs : List GateL) (bits : Int) : Bool := (valsL bits [] gs).getD (gs.length - 1) false

inductive GateIs (vars : Int) (i : Nat) : GateL → Prop
  | var (m : Nat) (h : (m : Int) + 1 ≤ vars) : GateIs vars i (1, (m : Int) + 1, 0)
  | yes : GateIs vars i (2, 0, 0)
  | no : GateIs vars i (3, 0, 0)
  | not (m : Nat) (h : m < i) : GateIs vars i (4, (m : Int), 0)
  | and (m n : Nat) (h : m < i) (h2 : n < i) : GateIs vars i (5, (m : Int), (n : Int))
  | or (m n : Nat) (h : m < i) (h2 : n < i) : GateIs vars i (6, (m : Int), (n : Int))
theorem gate_is {vars : Int} {i : Nat} {g : GateL} (h : gateB vars i g = true) : GateIs vars i g := by
  obtain ⟨k, a, b⟩ := g
  unfold gateB inB at h
  dsimp only at h
  split at h
  · rename_i h1
    subst h1
    simp at h
    obtain ⟨⟨h1, h2⟩, rfl⟩ := h
    obtain ⟨m, rfl⟩ : ∃ m : Nat, a = (m : Int) + 1 := ⟨(a - 1).toNat, by omega⟩
    exact .var m h2
  · split at h
    · rename_i h1 h2
      simp at h
      obtain ⟨rfl, rfl⟩ := h
      rcases h2 with rfl | rfl
      · exact .yes
      · exact .no
    · split at h
      · rename_i h1 h2 h3
        subst h3
        simp at h
        obtain ⟨⟨h1, h2⟩, rfl⟩ := h
        obtain ⟨m, rfl⟩ : ∃ m : Nat, a = (m : Int) := ⟨a.toNat, by omega⟩
        exact .not m (by omega)
      · split at h
        · rename_i h1 h2 h3 h4
          simp at h
          obtain ⟨⟨h1, h2⟩, h3, h5⟩ := h
          obtain ⟨m, rfl⟩ : ∃ m : Nat, a = (m : Int) := ⟨a.toNat, by omega⟩
          obtain ⟨n, rfl⟩ : ∃ n : Nat, b = (n : Int) := ⟨b.toNat, by omega⟩
          rcases h4 with rfl | rfl
          · exact .and m n (by omega) (by omega)
          · exact .or m n (by omega) (by omega)
        · cases h
theorem gatesB_get {vars : Int} : ∀ (gs : List GateL) (j k : Nat) (g : GateL), gatesB vars j gs = true → gs[k]? = some g → gateB vars (j + k : Nat) g = true
  | [], j, k, g, _, h => by simp at h
  | x :: r, j, 0, g, h, hg => by
    simp at hg
    subst hg
    simp [gatesB] at h
    simpa using h.1
  | x :: r, j, k + 1, g, h, hg => by
    simp [gatesB] at h
    have := gatesB_get r (j + 1) k g h.2 (by simpa using hg)
    rwa [show j + 1 + k = j + (k + 1) from by omega] at this
theorem circ_parts {vars : Int} {gs : List GateL} (h : circB vars gs = true) : varsB vars = true ∧ 1 ≤ gs.length ∧ gs.length ≤ 200 ∧ ∀ k g, gs[k]? = some g → GateIs vars k g := by
  unfold circB inB at h
  simp at h
  refine ⟨h.1, by omega, by omega, fun k g hg => gate_is ?_⟩
  have := gatesB_get gs 0 k g h.2.2 hg
  simpa using this
theorem getD_of {acc : List Bool} {m : Nat} (h : m < acc.length) : acc[m]? = some (acc.getD m false) := by
  rw [List.getElem?_eq_getElem h]; simp [List.getD_eq_getElem?_getD, List.getElem?_eq_getElem h]

theorem bc_set (acc : List Bool) (n k : Nat) (x : Bool) (hk : k < n) (ha : acc.length = k) :
    ((bc (acc ++ List.replicate (n - k) false)).toArray.setIfInBounds k (.bool x)) = (bc ((acc ++ [x]) ++ List.replicate (n - (k + 1)) false)).toArray := by
  apply Array.ext'
  rw [show n - k = (n - (k + 1)) + 1 from by omega, List.replicate_succ]
  simp only [Array.toList_setIfInBounds, bc, List.map_append, List.map_cons, List.map_nil]
  rw [List.set_append_right _ _ (by simp [ha])]
  simp [ha]

set_option maxHeartbeats 1600000 in
theorem i_gateValues {hi : Nat} (vars : Int) (v : Value) (gs : List GateL) (bits : Int) (w : World) (h : Gates hi w v gs) (hg : circB vars gs = true) (h0 : 0 ≤ bits) :
    Calls Try.prog 61 #[v, .int .i64 bits] w fun e w' => ∃ v', e = .returned v' ∧ Bools w'.heap.size w' v' (valsL bits [] gs) ∧ Below w.heap.size w w' := by
  obtain ⟨hv, hl1, hl2, hgs⟩ := circ_parts hg
  have HG := hide hgs
  obtain ⟨nv, hnv, hnv12⟩ := varsB_nat hv
  obtain ⟨A, c, rfl, hc, hm, hrow⟩ := h
  have hmk := fun W => run_make_bools gs.length (by omega) W
  unfold maxLen at hm
  clear hgs hg hv
  obtain ⟨B, hB⟩ : ∃ B, B = w.heap.size := ⟨_, rfl⟩
  go_enter Try.func61, Try.ntmps61
  go_wp2
  clear hmk
  rw [← hB]
  go_loopw [13] (fun i wr => ∃ (k : Nat) (acc : List Bool), k ≤ gs.length ∧ i = .int .i64 k ∧ acc.length = k ∧ Hid (valsL bits [] gs = valsL bits acc (gs.drop k)) ∧ Blk wr B 4 (bc (acc ++ List.replicate (gs.length - k) false)).toArray ∧ Below w.heap.size w wr ∧ B < wr.heap.size) (fun i _ => gs.length - (intOf i).toNat)
  case atStart => exact ⟨0, [], Nat.zero_le _, rfl, rfl, rfl, by rw [hB]; simpa using Blk.new w 4 (bc (List.replicate gs.length false)).toArray, (Below.refl _ _).alloc (Nat.le_refl _) _, by rw [hB]; simp⟩
  case round =>
    obtain ⟨k, acc, hk, rfl, hak, hr, hblk, hbel, hsz⟩ := hrel
    by_cases hlt : k < gs.length
    · obtain ⟨b, off, g, rfl, hx, hc0, hc1, hc2⟩ := hrow.gate hlt
      replace hc0 := below_old hbel _ _ hc0
      replace hc1 := below_old hbel _ _ hc1
      replace hc2 := below_old hbel _ _ hc2
      have hal : ∀ o, Below wr.heap.size wr (wr.alloc o) := fun o => (Below.refl _ _).alloc (Nat.le_refl _) o
      have hgi := HG.out k g (get_of_drop hx)
      have hHF : Hid (valsL bits [] gs = valsL bits (acc ++ [valG bits acc g]) (gs.drop (k + 1))) := by show _ = _; rw [hr.out, hx]; rfl
      have hne : ¬ (B = wr.heap.size) := by omega
      have hold : ∀ j, j < gs.length → (acc ++ List.replicate (gs.length - k) false)[j]? = some ((acc ++ List.replicate (gs.length - k) false).getD j false) := fun j hj => getD_of (by simp; omega)
      have hcell : ∀ j, j < gs.length → wr.cell? ⟨B, j, none⟩ = some (.bool ((acc ++ List.replicate (gs.length - k) false).getD j false)) := fun j hj => by
        rw [hblk.cell j]; simp only [List.getElem?_toArray, bc, List.getElem?_map, hold j hj]; rfl
      have hcl : ∀ j, j < k → wr.cell? ⟨B, j, none⟩ = some (.bool (acc.getD j false)) := fun j hj => by
        rw [hcell j (by omega)]
        simp [List.getD_eq_getElem?_getD, List.getElem?_append_left (show j < acc.length by omega)]
      have s0 := hcell k hlt
      have f0 := hblk.frozen k
      obtain ⟨u0, hu0⟩ : ∃ u0, (acc ++ List.replicate (gs.length - k) false).getD k false = u0 := ⟨_, rfl⟩
      rw [hu0] at s0
      have HCL := hide hcl
      have HBLK := hide hblk
      have HBEL := hide hbel
      have HHAL := hide hal
      have hset : ∀ y, Blk (wr.setCell ⟨B, k, none⟩ (.bool y)) B 4 (bc ((acc ++ [y]) ++ List.replicate (gs.length - (k + 1)) false)).toArray := fun y => by
        have := HBLK.out.set_ k (.bool y)
        rwa [bc_set acc gs.length k y hlt hak] at this
      have HS := hide hset
      have hbs : ∀ y, Below w.heap.size w (wr.setCell ⟨B, k, none⟩ (.bool y)) := fun y => HBEL.out.setCell (by simp [hB]) _
      have HBS := hide hbs
      clear hold hcell hcl hblk hbel hset hbs hx hu0 hr
      have HBB := hide hB
      clear hB
      cases hgi with
      | var m hm1 =>
        have HF : Hid (valsL bits [] gs = valsL bits (acc ++ [bitB bits m]) (gs.drop (k + 1))) := by have := hHF.out; simp only [valG, if_true] at this; rw [show ((m : Int) + 1 - 1).toNat = m from by omega] at this; exact this
        clear hHF
        dsimp only at hc0 hc1 hc2
        have hm11 : m ≤ 11 := by omega
        obtain ⟨t, ht⟩ : ∃ t, bitB bits m = t := ⟨_, rfl⟩
        have ht' := ht
        unfold bitB at ht'
        clear hal
        go_wp2_with fail
        go_roundw
        case rel => exact ⟨k + 1, acc ++ [t], by omega, by go_num, by simp [hak], (ht ▸ HF.out), (HS.out _).alloc _, (HBS.out _).alloc (by have := (HBS.out true).size; have := (HBEL.out).size; simp [World.setCell]; omega) _, by simp [World.setCell]; omega⟩
        case measure => simp [intOf]; omega
      | yes =>
        have HF : Hid (valsL bits [] gs = valsL bits (acc ++ [true]) (gs.drop (k + 1))) := hHF
        clear hHF
        dsimp only at hc0 hc1 hc2
        clear hal
        go_wp2_with fail
        go_roundw
        case rel => exact ⟨k + 1, acc ++ [true], by omega, by go_num, by simp [hak], HF.out, (HS.out _).alloc _, (HBS.out _).alloc (by have := (HBS.out true).size; have := (HBEL.out).size; simp [World.setCell]; omega) _, by simp [World.setCell]; omega⟩
        case measure => simp [intOf]; omega
      | no =>
        have HF : Hid (valsL bits [] gs = valsL bits (acc ++ [false]) (gs.drop (k + 1))) := hHF
        clear hHF
        dsimp only at hc0 hc1 hc2
        have HS0 : Hid (Blk wr B 4 (bc ((acc ++ [false]) ++ List.replicate (gs.length - (k + 1)) false)).toArray) := by have := HBLK.out; rw [show gs.length - k = (gs.length - (k + 1)) + 1 from by omega, List.replicate_succ] at this; show Blk _ _ _ _; simpa using this
        clear hal
        go_wp2_with fail
        go_roundw
        case rel => exact ⟨k + 1, acc ++ [false], by omega, by go_num, by simp [hak], HF.out, by have := (HS0.out).alloc (.cells #[.int .i64 3, .int .i64 0, .int .i64 0] 44); exact this, HBEL.out.alloc (by have := HBEL.out.size; omega) _, by simp; omega⟩
        case measure => simp [intOf]; omega
      | not m hm1 =>
        have HF : Hid (valsL bits [] gs = valsL bits (acc ++ [!acc.getD m false]) (gs.drop (k + 1))) := hHF
        clear hHF
        dsimp only at hc0 hc1 hc2
        have l0 := HCL.out m hm1
        obtain ⟨t, ht⟩ : ∃ t, acc.getD m false = t := ⟨_, rfl⟩
        rw [ht] at l0 HF
        clear ht
        clear hal
        go_wp2_with fail
        go_roundw
        case rel => exact ⟨k + 1, acc ++ [!t], by omega, by go_num, by simp [hak], HF.out, (HS.out _).alloc _, (HBS.out _).alloc (by have := (HBS.out true).size; have := (HBEL.out).size; simp [World.setCell]; omega) _, by simp [World.setCell]; omega⟩
        case measure => simp [intOf]; omega
      | and m n hm1 hn1 =>
        have HF : Hid (valsL bits [] gs = valsL bits (acc ++ [acc.getD m false && acc.getD n false]) (gs.drop (k + 1))) := hHF
        clear hHF
        dsimp only at hc0 hc1 hc2
        have l0 := HCL.out m hm1
        have l1 := HCL.out n hn1
        obtain ⟨t, ht⟩ : ∃ t, acc.getD m false = t := ⟨_, rfl⟩
        obtain ⟨u, hu⟩ : ∃ u, acc.getD n false = u := ⟨_, rfl⟩
        rw [ht] at l0 HF
        rw [hu] at l1 HF
        clear ht hu
        cases t with
        | true =>
          clear hal
          go_wp2_with fail
          go_roundw
          case rel => exact ⟨k + 1, acc ++ [u], by omega, by go_num, by simp [hak], (by show _ = _; simpa using HF.out), (HS.out _).alloc _, (HBS.out _).alloc (by have := (HBS.out true).size; have := (HBEL.out).size; simp [World.setCell]; omega) _, by simp [World.setCell]; omega⟩
          case measure => simp [intOf]; omega
        | false =>
          clear hal
          go_wp2_with fail
          go_roundw
          case rel => exact ⟨k + 1, acc ++ [false], by omega, by go_num, by simp [hak], (by show _ = _; simpa using HF.out), (HS.out _).alloc _, (HBS.out _).alloc (by have := (HBS.out true).size; have := (HBEL.out).size; simp [World.setCell]; omega) _, by simp [World.setCell]; omega⟩
          case measure => simp [intOf]; omega
      | or m n hm1 hn1 =>
        have HF : Hid (valsL bits [] gs = valsL bits (acc ++ [acc.getD m false || acc.getD n false]) (gs.drop (k + 1))) := hHF
        clear hHF
        dsimp only at hc0 hc1 hc2
        have l0 := HCL.out m hm1
        have l1 := HCL.out n hn1
        obtain ⟨t, ht⟩ : ∃ t, acc.getD m false = t := ⟨_, rfl⟩
        obtain ⟨u, hu⟩ : ∃ u, acc.getD n false = u := ⟨_, rfl⟩
        rw [ht] at l0 HF
        rw [hu] at l1 HF
        clear ht hu
        cases t with
        | true =>
          clear hal
          go_wp2_with fail
          go_roundw
          case rel => exact ⟨k + 1, acc ++ [true], by omega, by go_num, by simp [hak], (by show _ = _; simpa using HF.out), (HS.out _).alloc _, (HBS.out _).alloc (by have := (HBS.out true).size; have := (HBEL.out).size; simp [World.setCell]; omega) _, by simp [World.setCell]; omega⟩
          case measure => simp [intOf]; omega
        | false =>
          clear hal
          go_wp2_with fail
          go_roundw
          case rel => exact ⟨k + 1, acc ++ [u], by omega, by go_num, by simp [hak], (by show _ = _; simpa using HF.out), (HS.out _).alloc _, (HBS.out _).alloc (by have := (HBS.out true).size; have := (HBEL.out).size; simp [World.setCell]; omega) _, by simp [World.setCell]; omega⟩
          case measure => simp [intOf]; omega
    · obtain rfl : k = gs.length := by omega
      have HN := hide hblk
      have HB := hide hbel
      have HF := hide (show valsL bits [] gs = acc by rw [hr.out, List.drop_length]; rfl)
      clear hblk hbel
      go_wp2
      go_ret
      have hlen : (valsL bits [] gs).length = gs.length := by rw [valsL_length]; simp
      refine ⟨_, rfl, ⟨some ⟨B, 0, none⟩, gs.length, by rw [hlen]; rfl, by rw [hlen]; exact Nat.le_refl _, by unfold maxLen; omega, ?_⟩, HB.out⟩
      rw [HF.out]
      have := HN.out
      rw [Nat.sub_self, List.replicate_zero, List.append_nil] at this
      exact (this.own (Nat.zero_le _) (fun j u hu => by simpa using hu)).row

end Go.Proofs.Ytfipchccnbbapaa
