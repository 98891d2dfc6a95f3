/- Slices of gates: how they read, a slice of gates that came in, the law's own small helpers on them: copy, size, equality, marks. -/
import Derived.Test.YtfipchccnbbapaaBase
import Derived.Lib.SmallJoins
import Derived.Deep.Slices
namespace Go.Proofs.Ytfipchccnbbapaa
open Go.ChangeShapes Go.WideShapes Go.ChangeAt Go.RowKit
set_option linter.unusedVariables false

/-- A gate: its kind, its two indices. -/
abbrev GateL := Int × Int × Int
def gv (g : GateL) : Value := .agg #[.int .i64 g.1, .int .i64 g.2.1, .int .i64 g.2.2]
/-- the gates as cells -/
def gcells : List GateL → List Value
  | [] => []
  | g :: r => .int .i64 g.1 :: .int .i64 g.2.1 :: .int .i64 g.2.2 :: gcells r
theorem gcells_length : ∀ gs : List GateL, (gcells gs).length = 3 * gs.length
  | [] => rfl
  | g :: r => by simp [gcells, gcells_length r]; omega
theorem gcells_append : ∀ a b : List GateL, gcells (a ++ b) = gcells a ++ gcells b
  | [], b => rfl
  | g :: r, b => by simp [gcells, gcells_append r b]
theorem gcells_get : ∀ (gs : List GateL) (k : Nat) (g : GateL), gs[k]? = some g → (gcells gs)[k * 3]? = some (.int .i64 g.1) ∧ (gcells gs)[k * 3 + 1]? = some (.int .i64 g.2.1) ∧ (gcells gs)[k * 3 + 2]? = some (.int .i64 g.2.2)
  | [], k, g, h => by simp at h
  | x :: r, 0, g, h => by simp at h; subst h; simp [gcells]
  | x :: r, k + 1, g, h => by
    have ih := gcells_get r k g (by simpa using h)
    rw [show (k + 1) * 3 = k * 3 + 1 + 1 + 1 from by omega]
    simpa [gcells, Nat.add_assoc] using ih
theorem gcells_flat (gs : List GateL) (j : Nat) (u : Value) (h : (gcells gs)[j]? = some u) : ∃ k g, gs[k]? = some g ∧ (j = k * 3 ∧ u = .int .i64 g.1 ∨ j = k * 3 + 1 ∧ u = .int .i64 g.2.1 ∨ j = k * 3 + 2 ∧ u = .int .i64 g.2.2) := by
  have hj : j < 3 * gs.length := by
    have := (List.getElem?_eq_some_iff.1 h).1
    rwa [gcells_length] at this
  have hk : j / 3 < gs.length := by omega
  obtain ⟨h1, h2, h3⟩ := gcells_get gs (j / 3) gs[j / 3] (List.getElem?_eq_getElem hk)
  refine ⟨j / 3, gs[j / 3], List.getElem?_eq_getElem hk, ?_⟩
  have : j = j / 3 * 3 ∨ j = j / 3 * 3 + 1 ∨ j = j / 3 * 3 + 2 := by omega
  rcases this with e | e | e
  · rw [← e, h] at h1
    exact .inl ⟨e, by injection h1⟩
  · rw [← e, h] at h2
    exact .inr (.inl ⟨e, by injection h2⟩)
  · rw [← e, h] at h3
    exact .inr (.inr ⟨e, by injection h3⟩)

/-- The slice value v reads as the gates gs. -/
def Gates (hi : Nat) (w : World) (v : Value) (gs : List GateL) : Prop :=
  ∃ A c, v = .slice A gs.length c ∧ gs.length ≤ c ∧ c ≤ maxLen ∧ Row hi w A (gcells gs)
/-- .. in memory from block lo on, which may be written. -/
def FGates (lo hi : Nat) (w : World) (v : Value) (gs : List GateL) : Prop :=
  ∃ A c, v = .slice A gs.length c ∧ gs.length ≤ c ∧ c ≤ maxLen ∧ Own lo hi w A (gcells gs)
section
variable {hi lo : Nat} {w w' : World} {v : Value} {gs : List GateL}
theorem FGates.read (h : FGates lo hi w v gs) : Gates hi w v gs := by
  obtain ⟨A, c, e, h1, h2, h3⟩ := h; exact ⟨A, c, e, h1, h2, h3.row⟩
theorem FGates.mono {lo' hi' : Nat} (h : FGates lo hi w v gs) (hl : lo' ≤ lo) (hh : hi ≤ hi') : FGates lo' hi' w v gs := by
  obtain ⟨A, c, e, h1, h2, h3⟩ := h; exact ⟨A, c, e, h1, h2, h3.mono hl hh⟩
theorem Gates.below (h : Gates hi w v gs) (hb : Below w.heap.size w w') : Gates hi w' v gs := by
  obtain ⟨A, c, e, h1, h2, h3⟩ := h; exact ⟨A, c, e, h1, h2, h3.below hb⟩
theorem FGates.below (h : FGates lo hi w v gs) (hb : Below w.heap.size w w') : FGates lo hi w' v gs := by
  obtain ⟨A, c, e, h1, h2, h3⟩ := h; exact ⟨A, c, e, h1, h2, h3.below hb⟩
theorem Gates.under {B : Nat} (h : Gates hi w v gs) (hb : Below B w w') (hB : hi ≤ B) : Gates hi w' v gs := by
  obtain ⟨A, c, e, h1, h2, h3⟩ := h; exact ⟨A, c, e, h1, h2, h3.under hb hB⟩
theorem Gates.top (h : Gates hi w v gs) : Gates w.heap.size w v gs := by
  obtain ⟨A, c, e, h1, h2, h3⟩ := h; exact ⟨A, c, e, h1, h2, h3.top⟩
theorem Gates.chg {lo' hi' : Nat} (h : Gates hi w v gs) (hc : Chg lo' hi' w w') (hl : hi ≤ lo') : Gates hi w' v gs := by
  obtain ⟨A, c, e, h1, h2, h3⟩ := h; exact ⟨A, c, e, h1, h2, h3.chg hc hl⟩
theorem FGates.chg {lo' hi' : Nat} (h : FGates lo hi w v gs) (hc : Chg lo' hi' w w') (hl : hi ≤ lo' ∨ hi' ≤ lo) : FGates lo hi w' v gs := by
  obtain ⟨A, c, e, h1, h2, h3⟩ := h; exact ⟨A, c, e, h1, h2, h3.chg hc hl⟩
theorem Gates.nil (hi : Nat) (w : World) : Gates hi w (.slice none 0 0) [] := ⟨none, 0, rfl, Nat.le_refl _, by simp [maxLen], Row.nil _ _ _⟩
theorem FGates.nil (lo hi : Nat) (w : World) : FGates lo hi w (.slice none 0 0) [] := ⟨none, 0, rfl, Nat.le_refl _, by simp [maxLen], Own.nil _ _ _ _⟩

theorem Row.gate {A : Option Addr} {k : Nat} (h : Row hi w A (gcells gs)) (hk : k < gs.length) :
    ∃ b off g, A = some ⟨b, off, none⟩ ∧ gs.drop k = g :: gs.drop (k + 1) ∧ w.cell? ⟨b, off + k * 3, none⟩ = some (.int .i64 g.1) ∧ w.cell? ⟨b, off + k * 3 + 1, none⟩ = some (.int .i64 g.2.1) ∧ w.cell? ⟨b, off + k * 3 + 2, none⟩ = some (.int .i64 g.2.2) := by
  obtain ⟨b, off, e, _, hc⟩ := h (by rw [gcells_length]; omega)
  obtain ⟨h1, h2, h3⟩ := gcells_get gs k gs[k] (List.getElem?_eq_getElem hk)
  exact ⟨b, off, gs[k], e, List.drop_eq_getElem_cons hk, hc _ _ h1, by simpa [Nat.add_assoc] using hc _ _ h2, by simpa [Nat.add_assoc] using hc _ _ h3⟩
end

def szG (gs : List GateL) : Nat := gs.length
def cntG (gs : List GateL) : Nat := 3 * gs.length
theorem cntG_le (gs : List GateL) : cntG gs ≤ 3 * szG gs := Nat.le_refl _
/-- marks on gates from k on -/
def markG : Int → List GateL → List GateL
  | _, [] => []
  | k, _ :: r => (k, k + 1, k + 2) :: markG (k + 3) r
theorem markG_length : ∀ (k : Int) (gs : List GateL), (markG k gs).length = gs.length
  | _, [] => rfl
  | k, _ :: r => by simp [markG, markG_length]
theorem markG_get : ∀ (gs : List GateL) (k : Int) (j : Nat) (g : GateL), (markG k gs).drop j = g :: (markG k gs).drop (j + 1) → g = (k + 3 * j, k + 3 * j + 1, k + 3 * j + 2)
  | [], k, j, g, h => by simp [markG] at h
  | _ :: r, k, 0, g, h => by simp [markG] at h; rw [← h]; simp
  | _ :: r, k, j + 1, g, h => by
    have := markG_get r (k + 3) j g (by simpa [markG] using h)
    rw [this]
    simp only [Prod.mk.injEq]
    omega

/-- An argument that is a slice of gates. -/
structure InGates (w : World) (v : Value) (gs : List GateL) : Prop where
  read : Gates w.heap.size w v gs
  wf : True

theorem gate_info : (Try.prog.info? 44).map (fun i => (i.zero, i.size, i.bytes)) = some (some (.agg #[.int .i64 0, .int .i64 0, .int .i64 0]), 3, 24) := by kernel_rfl

theorem in_gates {H : Type} {enc : TypeId × Value → H} {W : World} {base : Nat} {v : Value} {d : DataW H} {p : List MemPlace}
    (hv : Value.okWide Try.prog W .any base 22 v) (h : DataW.Trod enc Try.prog W 0 (fun _ => true) true 22 v d p) (_lt : ∀ x ∈ p, x.block < W.heap.size) :
    ∃ gs, InGates W v gs := by
  obtain ⟨a0, len0, cap0, rfl⟩ := okWide_slice Try.underlying22 hv
  obtain ⟨fuel, hf⟩ := h
  rcases Go.Deep.open_slice Try.underlying22 hf with ⟨hcs, _⟩ | ⟨x, l, c, m, n, D, Pl, hcs, _, hl, hm, hmm, _, hx⟩
  · simp [Value.cells] at hcs
    obtain ⟨rfl, rfl, rfl⟩ := hcs
    exact ⟨[], ⟨Gates.nil _ W, trivial⟩⟩
  · simp [Value.cells] at hcs
    obtain ⟨rfl, rfl, rfl⟩ := hcs
    simp only [if_true] at hmm
    subst hmm
    have ce : Try.prog.cellsOf 46 = 3 := by kernel_rfl
    rw [ce] at hx
    have each : ∀ i, i < m → ∃ g : GateL, W.cell? (x.add (i * 3)) = some (.int .i64 g.1) ∧ W.cell? (x.add (i * 3 + 1)) = some (.int .i64 g.2.1) ∧ W.cell? (x.add (i * 3 + 2)) = some (.int .i64 g.2.2) := by
      intro i hi
      obtain ⟨cs', h1, h2⟩ := hx i hi
      obtain ⟨_, hlen, hcell⟩ := World.cells?_some h1
      obtain ⟨y0, y1, y2, k, _, _, g0, g1, g2⟩ := Go.Deep.trod_struct3 Try.underlying46 h2
      match cs', hlen with
      | [c0, c1, c2], _ =>
        have e0 := hcell 0 (by omega)
        have e1 := hcell 1 (by omega)
        have e2 := hcell 2 (by omega)
        have ci : Try.prog.cellsOf 3 = 1 := by kernel_rfl
        simp [ci] at g0 g1 g2
        obtain ⟨z0, q0, _⟩ := DataW.trod_int Try.underlying3 g0
        obtain ⟨z1, q1, _⟩ := DataW.trod_int Try.underlying3 g1
        obtain ⟨z2, q2, _⟩ := DataW.trod_int Try.underlying3 g2
        simp at q0 q1 q2
        subst q0 q1 q2
        rw [Go.Deep.add_add] at e0 e1 e2
        exact ⟨(z0, z1, z2), by simpa using e0, by simpa using e1, by simpa using e2⟩
    obtain ⟨q, hq⟩ := Go.Deep.choose_lt each
    refine ⟨(List.range len0).map q, ⟨some x, m, by simp, by simpa using hl, hm, ?_⟩, trivial⟩
    intro h0
    have h0' : 0 < m := by
      rw [gcells_length] at h0; simp at h0; omega
    have hc0 := (hq 0 h0').1
    have hsp : x.spot = none := by simpa [Addr.add] using World.cell?_spot hc0
    obtain ⟨b, off, sp⟩ := x
    dsimp only at hsp
    subst hsp
    have hb : b < W.heap.size := by simpa [Addr.add] using World.block_lt_of_cell? _ _ hc0
    refine ⟨b, off, rfl, hb, fun j u hu => ?_⟩
    have hadd : ∀ t, (⟨b, off, none⟩ : Addr).add t = ⟨b, off + t, none⟩ := fun t => by
      unfold Addr.add; split
      · rename_i h; subst h; rfl
      · rfl
    obtain ⟨k, g, hk, hh⟩ := gcells_flat _ _ _ hu
    have hkl : k < len0 := by
      have := (List.getElem?_eq_some_iff.1 hk).1
      simpa using this
    obtain rfl : q k = g := by simpa [hkl] using hk
    obtain ⟨r0, r1, r2⟩ := hq k (by omega)
    rw [hadd] at r0 r1 r2
    rcases hh with ⟨rfl, rfl⟩ | ⟨rfl, rfl⟩ | ⟨rfl, rfl⟩
    · exact r0
    · exact r1
    · exact r2

theorem szGateS_any {hi : Nat} (v : Value) (gs : List GateL) (left : Int) (w : World) (h : Gates hi w v gs) (h0 : 0 ≤ left) (h1 : left ≤ 1048576) :
    Calls Try.prog 12 #[v, .int .i64 left] w fun e w' => e = .returned (.int .i64 (leftB left (szG gs))) ∧ Below w.heap.size w w' := by
  obtain ⟨A, c, rfl, hc, hm, hrow⟩ := h
  unfold maxLen at hm
  unfold leftB szG
  by_cases hle : (gs.length : Int) ≤ left
  · rw [if_pos hle]
    go_enter Try.func12, Try.ntmps12
    go_wp2
    go_ret
    exact ⟨rfl, Below.refl _ _⟩
  · rw [if_neg hle]
    go_enter Try.func12, Try.ntmps12
    go_wp2
    go_ret
    exact ⟨rfl, Below.refl _ _⟩

theorem toGate_any (g : GateL) (w : World) : Calls Try.prog 36 #[gv g] w fun e w' => e = .returned (gv g) ∧ Below w.heap.size w w' := by
  obtain ⟨k, a, b⟩ := g
  unfold gv
  have hb3 : ∀ o1 o2 o3, Below w.heap.size w (((w.alloc o1).alloc o2).alloc o3) := fun o1 o2 o3 => (((Below.refl _ _).alloc (Nat.le_refl _) _).alloc (by simp) _).alloc (by simp; omega) _
  go_enter Try.func36, Try.ntmps36
  go_wp2
  refine bodyPost_ret (v := .agg #[.int .i64 k, .int .i64 a, .int .i64 b]) (by simp [results, Try.results36, go_sem]) rfl ⟨rfl, hb3 _ _ _⟩

theorem eqGate_yes (g : GateL) (w : World) : Calls Try.prog 40 #[gv g, gv g] w fun e w' => e = .returned (.bool true) ∧ Below w.heap.size w w' := by
  obtain ⟨k, a, b⟩ := g
  unfold gv
  have hb2 : ∀ o1 o2, Below w.heap.size w ((w.alloc o1).alloc o2) := fun o1 o2 => ((Below.refl _ _).alloc (Nat.le_refl _) _).alloc (by simp) _
  go_enter Try.func40, Try.ntmps40
  go_wp2
  go_ret
  exact ⟨rfl, hb2 _ _⟩

theorem gcells_set3 (a b c : Int) (g : GateL) (ys : List GateL) : ∀ xs : List GateL, (((gcells (xs ++ g :: ys)).set (xs.length * 3) (.int .i64 a)).set (xs.length * 3 + 1) (.int .i64 b)).set (xs.length * 3 + 2) (.int .i64 c) = gcells (xs ++ (a, b, c) :: ys)
  | [] => by simp [gcells]
  | x :: r => by
    have ih := gcells_set3 a b c g ys r
    simp only [List.cons_append, gcells, List.length_cons]
    rw [← ih]
    generalize gcells (r ++ g :: ys) = L
    rw [show (r.length + 1) * 3 = r.length * 3 + 1 + 1 + 1 from by omega, show r.length * 3 + 1 + 1 + 1 + 1 = (r.length * 3 + 1) + 1 + 1 + 1 from by omega, show r.length * 3 + 1 + 1 + 1 + 2 = (r.length * 3 + 2) + 1 + 1 + 1 from by omega]
    simp only [List.set_cons_succ]

theorem gcells_zero (n j : Nat) (u : Value) (h : (gcells (List.replicate n ((0 : Int), (0 : Int), (0 : Int))))[j]? = some u) : u = .int .i64 0 := by
  obtain ⟨k, g, hk, hh⟩ := gcells_flat _ _ _ h
  have hg : g = (0, 0, 0) := by
    rw [List.getElem?_replicate] at hk
    split at hk
    · injection hk with hk; exact hk.symm
    · cases hk
  subst hg
  rcases hh with ⟨_, rfl⟩ | ⟨_, rfl⟩ | ⟨_, rfl⟩ <;> rfl
theorem made_gates (n : Nat) : madeCells #[Value.int .i64 0, .int .i64 0, .int .i64 0] (n * 3) = (gcells (List.replicate n ((0 : Int), (0 : Int), (0 : Int)))).toArray := by
  apply Array.ext
  · simp [madeCells, gcells_length]; omega
  · intro i h1 h2
    have hl : i < (gcells (List.replicate n ((0 : Int), (0 : Int), (0 : Int)))).length := by simpa using h2
    have := gcells_zero n i _ (List.getElem?_eq_getElem hl)
    simp only [List.getElem_toArray]
    rw [this]
    have h3 : i % 3 < 3 := Nat.mod_lt _ (by decide)
    simp only [madeCells, Array.getElem_map, Array.getElem_range, List.size_toArray, List.length_cons, List.length_nil]
    have : i % 3 = 0 ∨ i % 3 = 1 ∨ i % 3 = 2 := by omega
    rcases this with e | e | e <;> simp [e]
theorem run_make_gates (n : Nat) (hn : n ≤ 1048576) (W : World) : (Instr.makeSlice 25 (.int .i64 n) (.int .i64 n)).run Try.prog W = .ok (.slice (some ⟨W.heap.size, 0, none⟩) n n) (W.alloc (.cells (gcells (List.replicate n ((0 : Int), (0 : Int), (0 : Int)))).toArray 44)) := by
  obtain ⟨i0, hi, hz0, hz1, hz2⟩ := info_parts gate_info
  have := run_make (P := Try.prog) W 25 44 i0 _ Try.underlying25 hi hz0 .i64 .i64 n n (by omega) (by omega) (by rw [hz2]; omega) (by omega)
  rw [this, hz1]
  simp only [Int.toNat_natCast]
  rw [← made_gates]
  rfl

set_option maxHeartbeats 400000 in
/-- a copy in new memory -/
theorem toGateS_any {hi : Nat} (v : Value) (gs : List GateL) (w : World) (h : Gates hi w v gs) (hn : szG gs ≤ 1048576) :
    Calls Try.prog 14 #[v] w fun e w' => ∃ v', e = .returned v' ∧ FGates w.heap.size w'.heap.size w' v' gs ∧ Below w.heap.size w w' := by
  obtain ⟨A, c, rfl, hc, hm, hrow⟩ := h
  unfold szG at hn
  have hmk := fun W => run_make_gates gs.length hn W
  unfold maxLen at hm
  go_enter Try.func14, Try.ntmps14
  go_wp2
  clear hmk
  go_loopw [4] (fun i wr => ∃ k : Nat, k ≤ gs.length ∧ i = .int .i64 k ∧ Blk wr w.heap.size 44 (gcells (gs.take k ++ List.replicate (gs.length - k) ((0 : Int), (0 : Int), (0 : Int)))).toArray ∧ Below w.heap.size w wr ∧ w.heap.size + 1 ≤ wr.heap.size) (fun i _ => gs.length - (intOf i).toNat)
  case atStart => exact ⟨0, Nat.zero_le _, rfl, by simpa using Blk.new w 44 (gcells (List.replicate gs.length ((0 : Int), (0 : Int), (0 : Int)))).toArray, (Below.refl _ _).alloc (Nat.le_refl _) _, by simp⟩
  case round =>
    obtain ⟨k, hk, rfl, hblk, hbel, hsz⟩ := hrel
    by_cases hlt : k < gs.length
    · obtain ⟨b, off, ⟨g0, g1, g2⟩, rfl, hx, hc0, hc1, hc2⟩ := hrow.gate hlt
      replace hc0 := below_old hbel _ _ hc0
      replace hc1 := below_old hbel _ _ hc1
      replace hc2 := below_old hbel _ _ hc2
      have HB := hide hblk
      have HX := hide hx
      have HTG := fun W => hide (toGate_any (g0, g1, g2) W)
      unfold gv at HTG
      clear hblk hx
      go_wp2_with fail
      refine (HTG _).out.mono ?_
      rintro e w1 ⟨rfl, hb1⟩
      have hblk1 := HB.out.below hb1 (by omega)
      have hrep : List.replicate (gs.length - k) ((0 : Int), (0 : Int), (0 : Int)) = (0, 0, 0) :: List.replicate (gs.length - (k + 1)) (0, 0, 0) := by rw [show gs.length - k = (gs.length - (k + 1)) + 1 from by omega, List.replicate_succ]
      rw [hrep] at hblk1
      have hlk : (gs.take k).length = k := by simp; omega
      have hget := gcells_get (gs.take k ++ (0, 0, 0) :: List.replicate (gs.length - (k + 1)) ((0 : Int), (0 : Int), (0 : Int))) k (0, 0, 0) (by rw [List.getElem?_append_right (by omega), hlk]; simp)
      have s0 := (hblk1.cell (k * 3)).trans (by simpa using hget.1)
      have s1 := (hblk1.cell (k * 3 + 1)).trans (by simpa using hget.2.1)
      have s2 := (hblk1.cell (k * 3 + 2)).trans (by simpa using hget.2.2)
      have f0 := hblk1.frozen (k * 3)
      have f1 := hblk1.frozen (k * 3 + 1)
      have f2 := hblk1.frozen (k * 3 + 2)
      have hnew := ((hblk1.set_ (k * 3) (.int .i64 g0)).set_ (k * 3 + 1) (.int .i64 g1)).set_ (k * 3 + 2) (.int .i64 g2)
      have hset := gcells_set3 g0 g1 g2 (0, 0, 0) (List.replicate (gs.length - (k + 1)) ((0 : Int), (0 : Int), (0 : Int))) (gs.take k)
      rw [hlk] at hset
      simp only [List.setIfInBounds_toArray] at hnew
      rw [hset, show gs.take k ++ (g0, g1, g2) :: List.replicate (gs.length - (k + 1)) ((0 : Int), (0 : Int), (0 : Int)) = gs.take (k + 1) ++ List.replicate (gs.length - (k + 1)) ((0 : Int), (0 : Int), (0 : Int)) from by rw [take_snoc_l HX.out]; simp] at hnew
      have HN := hide hnew
      have hs1 := hb1.size
      have HBL := hide (hbel.trans (hb1.mono hbel.size))
      clear hnew hblk1 hget hset hrep hlk
      go_wp2_with fail
      go_roundw
      case rel => exact ⟨k + 1, by omega, by go_num, HN.out, ((HBL.out.setCell (Nat.le_refl _) _).setCell (Nat.le_refl _) _).setCell (Nat.le_refl _) _, by simp [World.setCell]; omega⟩
      case measure => simp [intOf]; omega
    · obtain rfl : k = gs.length := by omega
      have HN := hide hblk
      have HB := hide hbel
      clear hblk hbel
      go_wp2
      go_ret
      refine ⟨_, rfl, ⟨_, _, rfl, Nat.le_refl _, by unfold maxLen; omega, HN.out.own (Nat.le_refl _) ?_⟩, HB.out⟩
      intro j u hu
      simpa using hu

set_option maxHeartbeats 400000 in
/-- two slices that read alike are equal -/
theorem eqGateS_yes {hi hi' : Nat} (v v' : Value) (gs : List GateL) (w : World) (h : Gates hi w v gs) (h' : Gates hi' w v' gs) (hn : szG gs ≤ 1048576) :
    Calls Try.prog 16 #[v, v'] w fun e w' => e = .returned (.bool true) ∧ Below w.heap.size w w' := by
  obtain ⟨A, c, rfl, hc, hm, hrow⟩ := h
  obtain ⟨A', c', rfl, hc', hm', hrow'⟩ := h'
  unfold maxLen at hm hm'
  unfold szG at hn
  go_enter Try.func16, Try.ntmps16
  go_wp2
  go_loopw [5] (fun i wr => ∃ k : Nat, k ≤ gs.length ∧ i = .int .i64 k ∧ Below w.heap.size w wr) (fun i _ => gs.length - (intOf i).toNat)
  case atStart => exact ⟨0, Nat.zero_le _, rfl, Below.refl _ _⟩
  case round =>
    obtain ⟨k, hk, rfl, hq⟩ := hrel
    by_cases hlt : k < gs.length
    · obtain ⟨b, off, ⟨g0, g1, g2⟩, rfl, hx, hc0, hc1, hc2⟩ := hrow.gate hlt
      obtain ⟨b', off', g', rfl, hx', hd0, hd1, hd2⟩ := hrow'.gate hlt
      obtain rfl : (g0, g1, g2) = g' := by rw [hx] at hx'; injection hx'
      have L : ∀ p u, w.cell? p = some u → ∀ d os, (Go.Sort.grow (redrawn wr d) os).cell? p = some u := fun p u h d os => below_old (below_regrown wr d os) _ _ (below_old hq _ _ h)
      have z0 := L _ _ hc0
      have z1 := L _ _ hc1
      have z2 := L _ _ hc2
      have y0 := L _ _ hd0
      have y1 := L _ _ hd1
      have y2 := L _ _ hd2
      have HTG := fun W => hide (eqGate_yes (g0, g1, g2) W)
      unfold gv at HTG
      clear hx hx' hc0 hc1 hc2 hd0 hd1 hd2 L
      go_wp2_with fail
      refine wp_region_quiet_below (by kernel_rfl) (by kernel_rfl) ?_
      repeat (go_big_quiet_step (((go_at_call 40; exact belowC fun W hW => (HTG W).out))))
      refine wpQuiet_nil ?_
      intro wq hw'
      have hbwq := below_of_regrown hw'
      clear hw'
      go_wp2
      go_roundw
      case rel => exact ⟨k + 1, by omega, by go_num, hq.trans (hbwq.mono hq.size)⟩
      case measure => simp [intOf]; omega
    · go_wp2
      go_ret
      exact ⟨rfl, hq⟩

theorem markG_cons (k0 : Int) (gs : List GateL) (k : Nat) (hk : k < gs.length) : (markG k0 gs).take (k + 1) = (markG k0 gs).take k ++ [(k0 + 3 * k, k0 + 3 * k + 1, k0 + 3 * k + 2)] := by
  have hl : k < (markG k0 gs).length := by rw [markG_length]; exact hk
  rw [List.take_succ_eq_append_getElem hl]
  rw [markG_get gs k0 k _ (List.drop_eq_getElem_cons hl)]

set_option maxHeartbeats 800000 in
theorem markGateS_any {lo hi : Nat} (v : Value) (gs : List GateL) (k0 : Int) (w : World) (h : FGates lo hi w v gs) (hn : cntG gs ≤ 16777216) (h0 : 0 ≤ k0) (h1 : k0 ≤ 1099511627776) :
    Calls Try.prog 27 #[v, .int .i64 k0] w fun e w' => e = .returned (.int .i64 (k0 + cntG gs)) ∧ FGates lo hi w' v (markG k0 gs) ∧ Chg lo hi w w' ∧ True := by
  obtain ⟨A, c, rfl, hc, hm, hown⟩ := h
  unfold maxLen at hm
  unfold cntG at hn ⊢
  rcases Nat.eq_zero_or_pos gs.length with hz | hz
  · obtain rfl : gs = [] := List.eq_nil_of_length_eq_zero hz
    go_enter Try.func27, Try.ntmps27
    go_wp2
    refine wp_loop_rounds 1 ?_
    rw [rounds_succ]
    go_wp2
    go_ret
    exact ⟨by simp, ⟨A, c, rfl, hc, by unfold maxLen; omega, Own.nil _ _ _ _⟩, chg_refl _ _ _, trivial⟩
  · obtain ⟨b, off, rfl, hl, hh, hcel⟩ := hown.cel (by rw [gcells_length]; omega)
    have HC0 := hide hcel
    clear hcel hown
    go_enter Try.func27, Try.ntmps27
    go_wp2
    go_loopw [1, 5] (fun q i wr => ∃ k : Nat, k ≤ gs.length ∧ i = .int .i64 k ∧ q = .int .i64 (k0 + 3 * k) ∧ Cel wr b off (gcells ((markG k0 gs).take k ++ gs.drop k)) ∧ Chg lo hi w wr) (fun _ i _ => gs.length - (intOf i).toNat)
    case atStart => exact ⟨0, Nat.zero_le _, rfl, by simp, by simpa using HC0.out, chg_refl _ _ _⟩
    case round =>
      obtain ⟨k, hk, rfl, rfl, hC, hchg⟩ := hrel
      by_cases hlt : k < gs.length
      · have hx : gs.drop k = gs[k] :: gs.drop (k + 1) := List.drop_eq_getElem_cons hlt
        obtain ⟨g, hg⟩ : ∃ g, gs[k] = g := ⟨_, rfl⟩
        rw [hg] at hx
        have hlk : ((markG k0 gs).take k).length = k := by simp [markG_length]; omega
        rw [hx] at hC
        have hget := gcells_get ((markG k0 gs).take k ++ g :: gs.drop (k + 1)) k g (by rw [List.getElem?_append_right (by omega), hlk]; simp)
        have s0 := hC (k * 3) _ hget.1
        have s1 := hC (k * 3 + 1) _ hget.2.1
        have s2 := hC (k * 3 + 2) _ hget.2.2
        have hlen : 3 * k + 3 ≤ (gcells ((markG k0 gs).take k ++ g :: gs.drop (k + 1))).length := by rw [gcells_length]; simp [markG_length]; omega
        have hset := gcells_set3 (k0 + 3 * k) (k0 + 3 * k + 1) (k0 + 3 * k + 2) g (gs.drop (k + 1)) ((markG k0 gs).take k)
        rw [hlk] at hset
        have hC3 := ((hC.set_ (i := k * 3) (by omega) (.int .i64 (k0 + 3 * k))).set_ (i := k * 3 + 1) (by simp; omega) (.int .i64 (k0 + 3 * k + 1))).set_ (i := k * 3 + 2) (by simp; omega) (.int .i64 (k0 + 3 * k + 2))
        rw [hset, show (markG k0 gs).take k ++ (k0 + 3 * k, k0 + 3 * k + 1, k0 + 3 * k + 2) :: gs.drop (k + 1) = (markG k0 gs).take (k + 1) ++ gs.drop (k + 1) from by rw [markG_cons _ _ _ hlt]; simp] at hC3
        have HC3 := hide hC3
        have HCH := hide hchg
        obtain ⟨s0, t0⟩ := s0
        obtain ⟨s1, t1⟩ := s1
        obtain ⟨s2, t2⟩ := s2
        simp only [← Nat.add_assoc] at s1 s2 t1 t2
        clear hC hC3 hset hlen hget hx hg hlk hchg
        go_wp2
        go_roundw
        case rel => exact ⟨k + 1, by omega, by go_num, by go_num, by have := HC3.out; rw [show k0 + 3 * (k : Int) + 2 = k0 + 3 * (k : Int) + 1 + 1 from by omega] at this; simpa only [Nat.add_assoc] using this, ((HCH.out.setCell hl hh _).setCell hl hh _).setCell hl hh _⟩
        case measure => simp [intOf]; omega
      · obtain rfl : k = gs.length := by omega
        have HC := hide hC
        have HCH := hide hchg
        clear hC hchg
        go_wp2
        go_ret
        refine ⟨ret_int (by simp), ⟨some ⟨b, off, none⟩, c, by rw [markG_length], by rw [markG_length]; exact hc, by unfold maxLen; omega, ?_⟩, HCH.out, trivial⟩
        have := HC.out
        rw [List.drop_length, List.append_nil, List.take_of_length_le (by rw [markG_length]; exact Nat.le_refl _)] at this
        exact Cel.own this hl hh

set_option maxHeartbeats 400000 in
theorem heldGateS_yes {hi : Nat} (v : Value) (gs : List GateL) (k0 : Int) (w : World) (h : Gates hi w v (markG k0 gs)) (hn : cntG gs ≤ 16777216) (h0 : 0 ≤ k0) (h1 : k0 ≤ 1099511627776) :
    Calls Try.prog 28 #[v, .int .i64 k0] w fun e w' => e = .returned (.int .i64 (k0 + cntG gs)) ∧ Below w.heap.size w w' := by
  obtain ⟨A, c, rfl, hc, hm, hrow⟩ := h
  have hl := markG_length k0 gs
  rw [hl] at hc ⊢
  unfold maxLen at hm
  unfold cntG at hn ⊢
  have HL := hide hl
  clear hl
  go_enter Try.func28, Try.ntmps28
  go_wp2
  go_loop [1, 5] (fun q i => ∃ k : Nat, k ≤ gs.length ∧ i = .int .i64 k ∧ q = .int .i64 (k0 + 3 * k)) (fun _ i => gs.length - (intOf i).toNat)
  case atStart => exact ⟨0, Nat.zero_le _, rfl, by simp⟩
  case round =>
    obtain ⟨k, hk, rfl, rfl⟩ := hrel
    by_cases hlt : k < gs.length
    · obtain ⟨b, off, g, rfl, hx, hc0, hc1, hc2⟩ := hrow.gate (k := k) (by rw [HL.out]; exact hlt)
      have hxx := markG_get gs k0 k g hx
      rw [hxx] at hc0 hc1 hc2
      dsimp only at hc0 hc1 hc2
      clear hx hxx
      go_wp2
      go_round
      case rel => exact ⟨k + 1, by omega, by go_num, by go_num⟩
      case measure => simp [intOf]; omega
    · obtain rfl : k = gs.length := by omega
      go_wp2
      go_ret
      exact ⟨ret_int (by simp), Below.refl _ _⟩

end Go.Proofs.Ytfipchccnbbapaa
