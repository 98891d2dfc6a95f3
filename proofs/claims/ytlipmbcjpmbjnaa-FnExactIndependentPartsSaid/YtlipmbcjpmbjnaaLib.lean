/- Plain words on memory that all walks of this seat share: a slice that reads as a list, a slice in new memory. No program in sight. -/
import Derived.WalkKit
import Derived.WalkSpells
import Derived.WalkLawsBesides
import Derived.Handy
import Derived.Lib.Hide
import Derived.Deep.QuietTactic
import Derived.BigQuiet
import Derived.Deep.AppendLies
import Derived.Deep.Draws
import Derived.Deep.OwnRows
import Derived.OpenShut
import Derived.Laws.IdiomCopy
import Derived.Lib.SliceRun
import Derived.Shelf.Abstract
import Derived.Lib.QuietBelow
namespace Go.Proofs.Ytlipmbcjpmbjnaa
open Go.RowKit
set_option linter.unusedVariables false

theorem ret_int {k : IntKind} {a b : Int} (h : a = b) : Ending.returned (.int k a) = .returned (.int k b) := by rw [h]
theorem ret_bool {a b : Bool} (h : a = b) : Ending.returned (.bool a) = .returned (.bool b) := by rw [h]

/-- w' is w after some draws. -/
def Quiet (w w' : World) : Prop := ∃ m, w' = w.drewN m
theorem Quiet.refl (w : World) : Quiet w w := ⟨0, rfl⟩
theorem Quiet.trans {a b c : World} (h : Quiet a b) (h' : Quiet b c) : Quiet a c := by
  obtain ⟨m, rfl⟩ := h; obtain ⟨n, rfl⟩ := h'; exact ⟨m + n, World.drewN_drewN _ _ _⟩
theorem Quiet.cell {w w' : World} (h : Quiet w w') (p : Addr) : w'.cell? p = w.cell? p := by obtain ⟨m, rfl⟩ := h; rfl
theorem Quiet.frozen {w w' : World} (h : Quiet w w') (p : Addr) : w'.frozen? p = w.frozen? p := by obtain ⟨m, rfl⟩ := h; rfl
theorem Quiet.size {w w' : World} (h : Quiet w w') : w'.heap.size = w.heap.size := by obtain ⟨m, rfl⟩ := h; rfl
theorem Quiet.below {w w' : World} (h : Quiet w w') (B : Nat) : Below B w w' := by obtain ⟨m, rfl⟩ := h; exact ⟨rfl, rfl, rfl, Nat.le_refl _, fun _ _ => rfl⟩
theorem Quiet.drewN {w w' : World} (h : Quiet w w') (n : Nat) : Quiet w (w'.drewN n) := h.trans ⟨n, rfl⟩

/-- a callee at a region that draws its order -/
theorem quietE {P : Program} {f : FuncId} {args : Array Value} {w : World} {n : Nat} {v : Value}
    (h : Calls P f args (w.drewN n) fun e w' => e = .returned v ∧ w.drewN n = w') : Calls P f args (w.drewN n) fun e w'' => e = .returned v ∧ ∃ m, w'' = w.drewN m :=
  h.mono fun _ _ ⟨he, hm⟩ => ⟨he, n, hm.symm⟩
theorem quietC {P : Program} {f : FuncId} {args : Array Value} {w : World} {n : Nat} {v : Value}
    (h : Calls P f args (w.drewN n) fun e w' => e = .returned v ∧ Quiet (w.drewN n) w') : Calls P f args (w.drewN n) fun e w'' => e = .returned v ∧ ∃ m, w'' = w.drewN m :=
  h.mono fun _ _ ⟨he, m, hm⟩ => ⟨he, n + m, by rw [hm]; exact World.drewN_drewN _ _ _⟩

theorem below_of_regrown {w w' : World} (h : ∃ p : Regrown, w' = Go.Sort.grow (redrawn w p.d) p.os) : Below w.heap.size w w' := by
  obtain ⟨p, hp⟩ := h; rw [hp]; exact below_regrown _ _ _
/-- a callee that may lay blocks, at a region that draws its order -/
theorem belowC {P : Program} {f : FuncId} {args : Array Value} {w : World} {d : Nat} {os : Array Obj} {v : Value}
    (h : ∀ W, Below w.heap.size w W → Calls P f args W fun e w' => e = .returned v ∧ Below W.heap.size W w') : Calls P f args (Go.Sort.grow (redrawn w d) os) fun e w'' => e = .returned v ∧ ∃ p : Regrown, w'' = Go.Sort.grow (redrawn w p.d) p.os :=
  Calls.regrown_of (h _ (below_regrown _ _ _))
theorem belowQ {P : Program} {f : FuncId} {args : Array Value} {w : World} {d : Nat} {os : Array Obj} {v : Value}
    (h : ∀ W, Below w.heap.size w W → Calls P f args W fun e w' => e = .returned v ∧ Quiet W w') : Calls P f args (Go.Sort.grow (redrawn w d) os) fun e w'' => e = .returned v ∧ ∃ p : Regrown, w'' = Go.Sort.grow (redrawn w p.d) p.os :=
  belowC fun W hW => (h W hW).mono fun _ _ ⟨he, hq⟩ => ⟨he, hq.below _⟩

/-- A fact kept from the walk. -/
theorem hide {p : Prop} (h : p) : Hid p := h

/-- The cells xs lie at A, in blocks below hi. -/
def Row (hi : Nat) (w : World) (A : Option Addr) (xs : List Value) : Prop :=
  0 < xs.length → ∃ b off, A = some ⟨b, off, none⟩ ∧ b < hi ∧ ∀ j u, xs[j]? = some u → w.cell? ⟨b, off + j, none⟩ = some u

/-- The cells xs lie at A, in a block from lo on and below hi, and may be written. -/
def Own (lo hi : Nat) (w : World) (A : Option Addr) (xs : List Value) : Prop :=
  0 < xs.length → ∃ b off, A = some ⟨b, off, none⟩ ∧ lo ≤ b ∧ b < hi ∧ ∀ j u, xs[j]? = some u → w.cell? ⟨b, off + j, none⟩ = some u ∧ w.frozen? ⟨b, off + j, none⟩ = false

/-- From w to w' nothing has turned but blocks from lo on and below hi, and new ones. -/
structure Chg (lo hi : Nat) (w w' : World) : Prop where
  os : w'.os = w.os
  tape : w'.tape = w.tape
  output : w'.output = w.output
  size : w.heap.size ≤ w'.heap.size
  block : ∀ k, k < w.heap.size → (k < lo ∨ hi ≤ k) → w'.heap[k]? = w.heap[k]?

theorem below_old {w w' : World} (hb : Below w.heap.size w w') : ∀ p u, w.cell? p = some u → w'.cell? p = some u :=
  fun _ _ h => (hb.cell (World.block_lt_of_cell? _ _ h)).trans h
theorem below_drewN {B : Nat} {a w : World} (h : Below B a w) (n : Nat) : Below B a (w.drewN n) := ⟨h.os, h.tape, h.output, h.size, h.block⟩
theorem below_chg {B lo hi : Nat} {a w w' : World} (h : Below B a w) (hc : Chg lo hi w w') (hl : B ≤ lo) (hs : B ≤ a.heap.size) : Below B a w' :=
  ⟨hc.os.trans h.os, hc.tape.trans h.tape, hc.output.trans h.output, Nat.le_trans h.size hc.size, fun k hk => (hc.block k (Nat.lt_of_lt_of_le hk (Nat.le_trans hs h.size)) (.inl (by omega))).trans (h.block k hk)⟩

section
variable {hi lo : Nat} {w w' : World} {A : Option Addr} {xs : List Value}
theorem Row.nil (hi : Nat) (w : World) (A : Option Addr) : Row hi w A [] := fun h => absurd h (by simp)
theorem Own.nil (lo hi : Nat) (w : World) (A : Option Addr) : Own lo hi w A [] := fun h => absurd h (by simp)
theorem Row.at_ {k : Nat} (h : Row hi w A xs) (hk : k < xs.length) : ∃ b off, A = some ⟨b, off, none⟩ ∧ w.cell? ⟨b, off + k, none⟩ = some xs[k] := by
  obtain ⟨b, off, e, _, hc⟩ := h (by omega)
  exact ⟨b, off, e, hc k _ (List.getElem?_eq_getElem hk)⟩
theorem Row.keep (h : Row hi w A xs) (hk : ∀ p u, p.block < hi → w.cell? p = some u → w'.cell? p = some u) : Row hi w' A xs := by
  intro h0
  obtain ⟨b, off, e, hb, hc⟩ := h h0
  exact ⟨b, off, e, hb, fun j u hu => hk _ _ hb (hc j u hu)⟩
theorem Row.mono {hi' : Nat} (h : Row hi w A xs) (hh : hi ≤ hi') : Row hi' w A xs := by
  intro h0
  obtain ⟨b, off, e, hb, hc⟩ := h h0
  exact ⟨b, off, e, by omega, hc⟩
theorem Row.top (h : Row hi w A xs) : Row w.heap.size w A xs := by
  intro h0
  obtain ⟨b, off, e, hb, hc⟩ := h h0
  exact ⟨b, off, e, World.block_lt_of_cell? _ _ (hc 0 _ (List.getElem?_eq_getElem h0)), hc⟩
theorem Row.below (h : Row hi w A xs) (hb : Below w.heap.size w w') : Row hi w' A xs := h.keep fun p u _ hu => below_old hb p u hu
theorem Row.under {B : Nat} (h : Row hi w A xs) (hb : Below B w w') (hB : hi ≤ B) : Row hi w' A xs :=
  h.keep fun p u hp hu => (hb.cell (p := p) (by omega)).trans hu
theorem Row.chg {lo' hi' : Nat} (h : Row hi w A xs) (hc : Chg lo' hi' w w') (hl : hi ≤ lo') : Row hi w' A xs :=
  h.keep fun p u hp hu => (World.cell?_of_block (hc.block p.block (World.block_lt_of_cell? _ _ hu) (.inl (by omega)))).trans hu
theorem Row.drewN (h : Row hi w A xs) (n : Nat) : Row hi (w.drewN n) A xs := h

theorem Own.row (h : Own lo hi w A xs) : Row hi w A xs := by
  intro h0
  obtain ⟨b, off, e, _, hb, hc⟩ := h h0
  exact ⟨b, off, e, hb, fun j u hu => (hc j u hu).1⟩
theorem Own.mono {lo' hi' : Nat} (h : Own lo hi w A xs) (hl : lo' ≤ lo) (hh : hi ≤ hi') : Own lo' hi' w A xs := by
  intro h0
  obtain ⟨b, off, e, h1, h2, hc⟩ := h h0
  exact ⟨b, off, e, by omega, by omega, hc⟩
theorem Own.keep (h : Own lo hi w A xs) (hk : ∀ b u off, lo ≤ b → b < hi → w.cell? ⟨b, off, none⟩ = some u → w'.heap[b]? = w.heap[b]?) : Own lo hi w' A xs := by
  intro h0
  obtain ⟨b, off, e, h1, h2, hc⟩ := h h0
  refine ⟨b, off, e, h1, h2, fun j u hu => ?_⟩
  have hq := hk b u (off + j) h1 h2 (hc j u hu).1
  exact ⟨(World.cell?_of_block (a := ⟨b, off + j, none⟩) hq).trans (hc j u hu).1, (World.frozen?_of_block (a := ⟨b, off + j, none⟩) hq).trans (hc j u hu).2⟩
theorem Own.below (h : Own lo hi w A xs) (hb : Below w.heap.size w w') : Own lo hi w' A xs :=
  h.keep fun _ _ _ _ _ hc => hb.block _ (World.block_lt_of_cell? _ _ hc)
theorem Own.chg {lo' hi' : Nat} (h : Own lo hi w A xs) (hc : Chg lo' hi' w w') (hl : hi ≤ lo' ∨ hi' ≤ lo) : Own lo hi w' A xs :=
  h.keep fun _ _ _ h1 h2 hu => hc.block _ (World.block_lt_of_cell? _ _ hu) (by omega)
theorem Own.drewN (h : Own lo hi w A xs) (n : Nat) : Own lo hi (w.drewN n) A xs := h
end

/-- The numbers as cells. -/
abbrev ic (zs : List Int) : List Value := zs.map (Value.int .i64)

/-- The slice value v reads as the ints zs. -/
def Ints (hi : Nat) (w : World) (v : Value) (zs : List Int) : Prop :=
  ∃ A c, v = .slice A zs.length c ∧ zs.length ≤ c ∧ c ≤ maxLen ∧ Row hi w A (ic zs)
/-- .. in memory from block lo on, which may be written. -/
def FInts (lo hi : Nat) (w : World) (v : Value) (zs : List Int) : Prop :=
  ∃ A c, v = .slice A zs.length c ∧ zs.length ≤ c ∧ c ≤ maxLen ∧ Own lo hi w A (ic zs)
section
variable {hi lo : Nat} {w w' : World} {v : Value} {zs : List Int}
theorem FInts.ints (h : FInts lo hi w v zs) : Ints hi w v zs := by
  obtain ⟨A, c, e, h1, h2, h3⟩ := h; exact ⟨A, c, e, h1, h2, h3.row⟩
theorem FInts.mono {lo' hi' : Nat} (h : FInts lo hi w v zs) (hl : lo' ≤ lo) (hh : hi ≤ hi') : FInts lo' hi' w v zs := by
  obtain ⟨A, c, e, h1, h2, h3⟩ := h; exact ⟨A, c, e, h1, h2, h3.mono hl hh⟩
theorem Ints.mono {hi' : Nat} (h : Ints hi w v zs) (hh : hi ≤ hi') : Ints hi' w v zs := by
  obtain ⟨A, c, e, h1, h2, h3⟩ := h; exact ⟨A, c, e, h1, h2, h3.mono hh⟩
theorem Ints.below (h : Ints hi w v zs) (hb : Below w.heap.size w w') : Ints hi w' v zs := by
  obtain ⟨A, c, e, h1, h2, h3⟩ := h; exact ⟨A, c, e, h1, h2, h3.below hb⟩
theorem FInts.below (h : FInts lo hi w v zs) (hb : Below w.heap.size w w') : FInts lo hi w' v zs := by
  obtain ⟨A, c, e, h1, h2, h3⟩ := h; exact ⟨A, c, e, h1, h2, h3.below hb⟩
theorem Ints.under {B : Nat} (h : Ints hi w v zs) (hb : Below B w w') (hB : hi ≤ B) : Ints hi w' v zs := by
  obtain ⟨A, c, e, h1, h2, h3⟩ := h; exact ⟨A, c, e, h1, h2, h3.under hb hB⟩
theorem Ints.top (h : Ints hi w v zs) : Ints w.heap.size w v zs := by
  obtain ⟨A, c, e, h1, h2, h3⟩ := h; exact ⟨A, c, e, h1, h2, h3.top⟩
theorem Ints.chg {lo' hi' : Nat} (h : Ints hi w v zs) (hc : Chg lo' hi' w w') (hl : hi ≤ lo') : Ints hi w' v zs := by
  obtain ⟨A, c, e, h1, h2, h3⟩ := h; exact ⟨A, c, e, h1, h2, h3.chg hc hl⟩
theorem FInts.chg {lo' hi' : Nat} (h : FInts lo hi w v zs) (hc : Chg lo' hi' w w') (hl : hi ≤ lo' ∨ hi' ≤ lo) : FInts lo hi w' v zs := by
  obtain ⟨A, c, e, h1, h2, h3⟩ := h; exact ⟨A, c, e, h1, h2, h3.chg hc hl⟩
theorem Ints.drewN (h : Ints hi w v zs) (n : Nat) : Ints hi (w.drewN n) v zs := h
theorem FInts.drewN (h : FInts lo hi w v zs) (n : Nat) : FInts lo hi (w.drewN n) v zs := h
theorem Ints.nil (hi : Nat) (w : World) : Ints hi w (.slice none 0 0) [] := ⟨none, 0, rfl, Nat.le_refl _, by simp [maxLen], Row.nil _ _ _⟩
theorem FInts.nil (lo hi : Nat) (w : World) : FInts lo hi w (.slice none 0 0) [] := ⟨none, 0, rfl, Nat.le_refl _, by simp [maxLen], Own.nil _ _ _ _⟩

theorem Row.int {A : Option Addr} {k : Nat} (h : Row hi w A (ic zs)) (hk : k < zs.length) :
    ∃ b off x, A = some ⟨b, off, none⟩ ∧ zs.drop k = x :: zs.drop (k + 1) ∧ w.cell? ⟨b, off + k, none⟩ = some (.int .i64 x) := by
  obtain ⟨b, off, e, hc⟩ := h.at_ (k := k) (by simpa using hk)
  exact ⟨b, off, zs[k], e, List.drop_eq_getElem_cons hk, by rw [hc]; simp⟩
end

/-! ### A block that is known whole -/
def Blk (w : World) (g : Nat) (t : TypeId) (cs : Array Value) : Prop := w.heap[g]? = some (.cells cs t (0, 0))

section
variable {w w' : World} {g : Nat} {t : TypeId} {cs : Array Value}
theorem Blk.lt (h : Blk w g t cs) : g < w.heap.size := by
  rcases Nat.lt_or_ge g w.heap.size with hlt | hge
  · exact hlt
  · unfold Blk at h; rw [Array.getElem?_eq_none hge] at h; cases h
theorem Blk.cell (h : Blk w g t cs) (i : Nat) : w.cell? ⟨g, i, none⟩ = cs[i]? := cell_of_row w g i cs t (0, 0) h
theorem Blk.frozen (h : Blk w g t cs) (i : Nat) : w.frozen? ⟨g, i, none⟩ = false := by
  unfold Blk at h
  simp [World.frozen?, h]
theorem Blk.new (w : World) (t : TypeId) (cs : Array Value) : Blk (w.alloc (.cells cs t)) w.heap.size t cs := heap_alloc_new w _
theorem Blk.drewN (h : Blk w g t cs) (n : Nat) : Blk (w.drewN n) g t cs := h
theorem Blk.alloc (h : Blk w g t cs) (o : Obj) : Blk (w.alloc o) g t cs := (Below.heap_alloc w o g h.lt).trans h
theorem Blk.set_ (h : Blk w g t cs) (i : Nat) (u : Value) : Blk (w.setCell ⟨g, i, none⟩ u) g t (cs.setIfInBounds i u) := by
  unfold Blk at h ⊢
  simp [World.setCell, Array.getElem?_modify, h]
theorem Blk.far (h : Blk w g t cs) {p : Addr} (hp : g ≠ p.block) (u : Value) : Blk (w.setCell p u) g t cs := (Below.heap_setCell w p u g hp).trans h
theorem Blk.below {B : Nat} (h : Blk w g t cs) (hb : Below B w w') (hg : g < B) : Blk w' g t cs := (hb.block g hg).trans h
theorem Blk.own (h : Blk w g t cs) {lo : Nat} (hl : lo ≤ g) {xs : List Value} (hx : ∀ (j : Nat) (u : Value), xs[j]? = some u → cs[j]? = some u) : Own lo w.heap.size w (some ⟨g, 0, none⟩) xs :=
  fun _ => ⟨g, 0, rfl, hl, h.lt, fun j u hu => ⟨by simpa using (h.cell j).trans (hx j u hu), by simpa using h.frozen j⟩⟩
end

theorem set_map (xs : List Int) (n k : Nat) (x : Int) (hk : k < n) (hx : xs.length = k) :
    (((ic xs) ++ List.replicate (n - k) (Value.int .i64 0)).toArray.setIfInBounds k (.int .i64 x)) = ((ic (xs ++ [x])) ++ List.replicate (n - (k + 1)) (Value.int .i64 0)).toArray := by
  apply Array.ext'
  simp only [Array.toList_setIfInBounds, List.map_append, List.map_cons, List.map_nil, ic]
  rw [show n - k = (n - (k + 1)) + 1 from by omega, List.replicate_succ, List.set_append_right _ _ (by simp [hx])]
  simp [hx]

theorem madeCells_one (z : Value) (n : Nat) : madeCells #[z] n = Array.replicate n z := by
  apply Array.ext
  · simp [madeCells]
  · intro i h1 h2
    simp [madeCells, Nat.mod_one]

theorem take_snoc_l {α : Type} {zs : List α} {k : Nat} {x : α} (h : zs.drop k = x :: zs.drop (k + 1)) : zs.take (k + 1) = zs.take k ++ [x] := by
  have hk : k < zs.length := by
    rcases Nat.lt_or_ge k zs.length with h1 | h1
    · exact h1
    · rw [List.drop_eq_nil_of_le h1] at h; cases h
  rw [List.drop_eq_getElem_cons hk] at h
  injection h with h1 h2
  rw [List.take_succ_eq_append_getElem hk, h1]
theorem take_snoc {zs : List Int} {k : Nat} {x : Int} (h : zs.drop k = x :: zs.drop (k + 1)) : zs.take (k + 1) = zs.take k ++ [x] := by
  have hk : k < zs.length := by
    rcases Nat.lt_or_ge k zs.length with h1 | h1
    · exact h1
    · rw [List.drop_eq_nil_of_le h1] at h; cases h
  rw [List.drop_eq_getElem_cons hk] at h
  injection h with h1 h2
  rw [List.take_succ_eq_append_getElem hk, h1]

/-- n numbers from k on. -/
def marks (k : Int) (n : Nat) : List Int := (List.range n).map fun (i : Nat) => k + (i : Int)
theorem marks_length (k : Int) (n : Nat) : (marks k n).length = n := by simp [marks]
theorem marks_get {k : Int} {n i : Nat} {x : Int} (h : (marks k n).drop i = x :: (marks k n).drop (i + 1)) : x = k + i := by
  have hi : i < (marks k n).length := by
    rcases Nat.lt_or_ge i (marks k n).length with h1 | h1
    · exact h1
    · rw [List.drop_eq_nil_of_le h1] at h; cases h
  rw [List.drop_eq_getElem_cons hi] at h
  injection h with h1 h2
  rw [← h1]; simp [marks]

theorem chg_refl (lo hi : Nat) (w : World) : Chg lo hi w w := ⟨rfl, rfl, rfl, Nat.le_refl _, fun _ _ _ => rfl⟩
theorem Chg.setCell {lo hi : Nat} {a w : World} (h : Chg lo hi a w) {p : Addr} (h1 : lo ≤ p.block) (h2 : p.block < hi) (u : Value) : Chg lo hi a (w.setCell p u) :=
  ⟨h.os, h.tape, h.output, by simpa [World.setCell] using h.size, fun k hk hh => (Below.heap_setCell w p u k (by omega)).trans (h.block k hk hh)⟩
theorem Chg.trans {lo hi : Nat} {a b c : World} (h : Chg lo hi a b) (h' : Chg lo hi b c) : Chg lo hi a c :=
  ⟨h'.os.trans h.os, h'.tape.trans h.tape, h'.output.trans h.output, Nat.le_trans h.size h'.size, fun k hk hh => (h'.block k (Nat.lt_of_lt_of_le hk h.size) hh).trans (h.block k hk hh)⟩
theorem Chg.mono {lo hi lo' hi' : Nat} {a b : World} (h : Chg lo hi a b) (h1 : lo' ≤ lo) (h2 : hi ≤ hi') : Chg lo' hi' a b :=
  ⟨h.os, h.tape, h.output, h.size, fun k hk hh => h.block k hk (by omega)⟩

/-- What a round of marking leaves: the first k cells are marked. -/
def Marked (lo hi : Nat) (w : World) (b off : Nat) (k0 : Int) (zs : List Int) (k : Nat) : Prop :=
  lo ≤ b ∧ b < hi ∧ ∀ j, j < zs.length → w.cell? ⟨b, off + j, none⟩ = some (.int .i64 (if j < k then k0 + j else zs.getD j 0)) ∧ w.frozen? ⟨b, off + j, none⟩ = false

theorem Marked.next {lo hi : Nat} {w : World} {b off : Nat} {k0 : Int} {zs : List Int} {k : Nat} (h : Marked lo hi w b off k0 zs k) (hk : k < zs.length) :
    Marked lo hi (w.setCell ⟨b, off + k, none⟩ (.int .i64 (k0 + k))) b off k0 zs (k + 1) := by
  refine ⟨h.1, h.2.1, fun j hj => ?_⟩
  have hj' := h.2.2 j hj
  by_cases e : j = k
  · subst e
    rw [World.cell?_setCell_same _ _ _ hj'.1, if_pos (by omega), World.frozen?_setCell]
    exact ⟨rfl, hj'.2⟩
  · rw [World.cell?_setCell_other _ _ _ _ (fun h => e (by injection h with _ h2; omega)), hj'.1, World.frozen?_setCell]
    refine ⟨?_, hj'.2⟩
    by_cases h1 : j < k
    · rw [if_pos h1, if_pos (by omega)]
    · rw [if_neg h1, if_neg (by omega)]

/-! ### A slice that the call itself grows -/
theorem grown_of_below {w w' : World} (h : Below w.heap.size w w') : w.grownBy w' none := ⟨h.os, h.tape, h.output, h.size, fun k hk _ => h.block k hk⟩
theorem ownsRow_below {w w' : World} {base : Nat} {e : TypeId} {size : Nat} {v : Value} {n : Nat} {xs : List Value} (h : w.ownsRow base e size v n xs) (hb : Below w.heap.size w w') : w'.ownsRow base e size v n xs := by
  refine h.kept (grown_of_below hb) ?_
  cases hv : v.ownBlock with
  | none => exact .inl rfl
  | some g => exact .inr (by simp)
theorem ownsRow_own {w : World} {base : Nat} {e : TypeId} {v : Value} {n : Nat} {xs : List Value} (h : w.ownsRow base e 1 v n xs) :
    ∃ A c, v = .slice A n c ∧ n ≤ c ∧ c ≤ maxLen ∧ Own base w.heap.size w A xs := by
  obtain ⟨hl, h2⟩ := h
  rcases h2 with ⟨rfl, rfl⟩ | ⟨g, cap, cur, rfl, hb, hh, hnc, hm, hsz, htake⟩
  · have : xs = [] := List.eq_nil_of_length_eq_zero (by simpa using hl)
    subst this
    exact ⟨none, 0, rfl, Nat.le_refl _, by simp [maxLen], Own.nil _ _ _ _⟩
  · refine ⟨_, _, rfl, hnc, hm, fun _ => ⟨g, 0, rfl, hb, Blk.lt (t := e) (cs := cur) hh, fun j u hu => ?_⟩⟩
    have hB : Blk w g e cur := hh
    rw [Nat.zero_add, hB.cell j, hB.frozen j]
    refine ⟨?_, rfl⟩
    rw [← htake, List.getElem?_take] at hu
    split at hu
    · simpa using hu
    · cases hu
theorem wpList_append_1 {P : Program} {ops : Array Oper} {rest : List Oper} {o : Oper} {a : Act} {Q : Exit → Act → World → Prop} (hgd : o.guard = none) (s x : Operand) (t : TypeId)
    (ho : o.op = .call { callee := .builtin .append, args := #[s, x], argTypes := #[t, t] })
    (e : TypeId) (z : Value) (bytes : Nat) (ht : P.underlying t = some (.slice e)) (hinfo : (P.info? e).map (fun i => (i.zero, i.size, i.bytes)) = some (some z, 1, bytes)) (hzc : z.cells.size = 1) (hby : bytes ≤ 64)
    (w : World) (base : Nat) (v : Value) (n : Nat) (xs : List Value) (hs : a.eval s = v) (hown : w.ownsRow base e 1 v n xs) (y : Value) (hy : y.oneCell' = true)
    (hx : a.eval x = .slice (some ⟨w.heap.size, 0, none⟩) 1 1) (hn : n ≤ 1073741824) (hb : base ≤ w.heap.size)
    (h : ∀ v' w', w'.ownsRow base e 1 v' (n + 1) (xs ++ [y]) → Below base w w' → wpList P ops Q rest (a.put o.dst v') w') : wpList P ops Q (o :: rest) a (w.alloc (.cells #[y] e)) := by
  obtain ⟨i0, hi, hz0, hz1, hz2⟩ := info_parts hinfo
  refine wpList_append_own _ hgd s x t ho base e i0 z 1 bytes ht hi hz0 hz1 hz2 hzc (by decide) v n xs hs (hown.alloc _) ⟨w.heap.size, 0, none⟩ 1 1 [y] hx rfl ?_ ?_ ?_ ?_ ?_ ?_
  · intro j u hj
    match j, hj with
    | 0, hj => simp at hj; subst hj; simp [Addr.add]
  · intro u hu; simp at hu; subst hu; exact hy
  · unfold maxLen; omega
  · have : (n + 1) * bytes ≤ (n + 1) * 64 := Nat.mul_le_mul_left _ hby
    omega
  · simp; omega
  · intro v' w' hown' hg _
    refine h v' w' hown' (((Below.refl base w).alloc hb _).grown hg (by simp; omega) ?_)
    intro k hk
    exact ((hown.alloc (.cells #[y] e)).lt k hk).1

/-- append of a whole slice, nil, empty or not -/
theorem wpList_append_n {P : Program} {ops : Array Oper} {rest : List Oper} {o : Oper} {a : Act} {Q : Exit → Act → World → Prop} {w : World} (hgd : o.guard = none) (s x : Operand) (t : TypeId)
    (ho : o.op = .call { callee := .builtin .append, args := #[s, x], argTypes := #[t, t] })
    (e : TypeId) (z : Value) (bytes : Nat) (ht : P.underlying t = some (.slice e)) (hinfo : (P.info? e).map (fun i => (i.zero, i.size, i.bytes)) = some (some z, 1, bytes)) (hzc : z.cells.size = 1) (hby : bytes ≤ 64)
    (base : Nat) {v : Value} {n : Nat} {xs : List Value} (hs : a.eval s = v) (hown : w.ownsRow base e 1 v n xs) {hi m c : Nat} {A : Option Addr} {ys : List Value} (hx : a.eval x = .slice A m c) (hl : ys.length = m) (hrow : Row hi w A ys)
    (hy : ∀ y ∈ ys, y.oneCell' = true) (hn : n + m ≤ 1073741824) (hb : base ≤ w.heap.size)
    (h : ∀ v' w', w'.ownsRow base e 1 v' (n + m) (xs ++ ys) → Below base w w' → wpList P ops Q rest (a.put o.dst v') w') : wpList P ops Q (o :: rest) a w := by
  obtain ⟨i0, hi0, hz0, hz1, hz2⟩ := info_parts hinfo
  have hbytes : (n + m) * bytes ≤ 140737488355328 := by
    have : (n + m) * bytes ≤ (n + m) * 64 := Nat.mul_le_mul_left _ hby
    omega
  rcases A with _ | ad
  · have hm : ys = [] := by
      rcases Nat.eq_zero_or_pos ys.length with h0 | h0
      · exact List.eq_nil_of_length_eq_zero h0
      · obtain ⟨_, _, hh, _⟩ := hrow h0
        cases hh
    subst hm
    obtain rfl : m = 0 := by simpa using hl.symm
    refine wpList_plain hgd fun K hK => ?_
    have hrun : (Builtin.append_ #[t, t] o.type #[v, .slice none 0 c]).run P w = .ok v w := by
      rcases hown.2 with ⟨rfl, rfl⟩ | ⟨g, cap, cur, rfl, _, _, hnc, _⟩
      · simp [Builtin.append_, run_underlying ht, sizeOf, typeInfo, hi0, Builtin.lenOf, Builtin.firstCells]
      · simp [Builtin.append_, run_underlying ht, sizeOf, typeInfo, hi0, Builtin.lenOf, Builtin.firstCells, hnc, storeCells]
    unfold Oper.wp
    simp [execOp, ho, resolve, invoke, builtin, hs, hx, hrun, Result.andThen]
    exact hK _ _ (h v w (by simpa using hown) (Below.refl _ _))
  · refine wpList_append_own _ hgd s x t ho base e i0 z 1 bytes ht hi0 hz0 hz1 hz2 hzc (by decide) v n xs hs hown ad m c ys hx (by omega) ?_ hy (by unfold maxLen; omega) hbytes hb ?_
    · intro j u hj
      have hj' : j < ys.length := (List.getElem?_eq_some_iff.1 hj).1
      obtain ⟨b, off, e1, _, hc⟩ := hrow (by omega)
      injection e1 with e1
      subst e1
      have hc' := hc j u hj
      unfold Addr.add
      split
      · rename_i h0; subst h0; simpa using hc'
      · exact hc'
    · intro v' w' hown' hg _
      refine h v' w' hown' ((Below.refl base w).grown hg hb ?_)
      intro k hk
      exact (hown.lt k hk).1

/-- The cells of L lie in block b from off on, and may be written. -/
def Cel (w : World) (b off : Nat) (L : List Value) : Prop := ∀ k u, L[k]? = some u → w.cell? ⟨b, off + k, none⟩ = some u ∧ w.frozen? ⟨b, off + k, none⟩ = false
theorem Cel.set_ {w : World} {b off : Nat} {L : List Value} (h : Cel w b off L) {i : Nat} (hi : i < L.length) (u : Value) : Cel (w.setCell ⟨b, off + i, none⟩ u) b off (L.set i u) := by
  intro k x hk
  have hk' : k < L.length := by
    have := (List.getElem?_eq_some_iff.1 hk).1
    simpa using this
  have hc := h k L[k] (List.getElem?_eq_getElem hk')
  by_cases e : k = i
  · subst e
    have hx : x = u := by simpa [hk'] using hk.symm
    subst hx
    rw [World.cell?_setCell_same _ _ _ hc.1, World.frozen?_setCell]
    exact ⟨rfl, hc.2⟩
  · rw [World.cell?_setCell_other _ _ _ _ (fun h2 => e (by injection h2 with _ h3; omega)), World.frozen?_setCell]
    rw [List.getElem?_set_ne (fun h2 => e h2.symm)] at hk
    exact h k x hk
theorem Cel.below {w w' : World} {b off : Nat} {L : List Value} (h : Cel w b off L) (hb : Below w.heap.size w w') : Cel w' b off L := by
  intro k u hk
  have hc := h k u hk
  have hlt := World.block_lt_of_cell? _ _ hc.1
  exact ⟨below_old hb _ _ hc.1, (hb.frozen hlt).trans hc.2⟩
theorem Cel.own {w : World} {b off lo hi : Nat} {L : List Value} (h : Cel w b off L) (h1 : lo ≤ b) (h2 : b < hi) : Own lo hi w (some ⟨b, off, none⟩) L :=
  fun _ => ⟨b, off, rfl, h1, h2, h⟩
theorem Own.cel {lo hi : Nat} {w : World} {A : Option Addr} {L : List Value} (h : Own lo hi w A L) (h0 : 0 < L.length) : ∃ b off, A = some ⟨b, off, none⟩ ∧ lo ≤ b ∧ b < hi ∧ Cel w b off L := h h0
theorem Cel.clear {w : World} {b off : Nat} {L : List Value} (h : Cel w b off L) (i : Nat) (vs : List Value) : Cel (w.setCells b (off + i) vs) b off (L.take i) := by
  intro k u hk
  have hki : k < i := by
    have := (List.getElem?_eq_some_iff.1 hk).1
    simp [List.length_take] at this
    omega
  have hk' : L[k]? = some u := by simpa [List.getElem?_take, hki] using hk
  rw [World.cell?_setCells_out b _ _ _ _ (fun _ _ => .inl (by simp; omega)), World.frozen?_setCells]
  exact h k u hk'
theorem below_setCells {B : Nat} {a : World} (b : Nat) (hb : B ≤ b) : ∀ (vs : List Value) (o : Nat) (w : World), Below B a w → Below B a (w.setCells b o vs)
  | [], _, _, h => h
  | v :: r, o, w, h => below_setCells b hb r (o + 1) _ (h.setCell hb v)

/-- the box of two cells that a call begins with, behind a call that turned nothing old -/
theorem box2 {w w1 : World} {a b : Value} {T : TypeId} (hb : Below (w.alloc (.cells #[a, b] T)).heap.size (w.alloc (.cells #[a, b] T)) w1) :
    w1.cell? ⟨w.heap.size, 0, none⟩ = some a ∧ w1.cell? ⟨w.heap.size, 1, none⟩ = some b ∧ Below w.heap.size w w1 ∧ w.heap.size + 1 ≤ w1.heap.size := by
  have hs := hb.size
  refine ⟨below_old hb _ _ (by simp), below_old hb _ _ (by simp), ((Below.refl _ _).alloc (Nat.le_refl _) _).trans (hb.mono (by simp)), by simpa using hs⟩

/-! ### A captured variable in a block of its own, while a search runs; the search's own box stays -/
def Cap (w1 : World) (cb : Nat) (T : TypeId) (o : Obj) (x : Value) (W : World) : Prop := Blk W cb T #[x] ∧ Below cb w1 W ∧ W.heap[w1.heap.size]? = some o ∧ cb < w1.heap.size
theorem Cap.start {w1 : World} {cb : Nat} {T : TypeId} {o : Obj} {x : Value} (h : Blk w1 cb T #[x]) : Cap w1 cb T o x (w1.alloc o) :=
  ⟨h.alloc o, (Below.refl _ _).alloc (Nat.le_of_lt h.lt) _, heap_alloc_new w1 o, h.lt⟩
theorem Cap.stab {w1 : World} {cb : Nat} {T : TypeId} {o : Obj} {x : Value} {W W' : World} (h : Cap w1 cb T o x W) (hb : Below W.heap.size W W') : Cap w1 cb T o x W' := by
  obtain ⟨h1, h2, h3, h4⟩ := h
  have hp : w1.heap.size < W.heap.size := by
    rcases Nat.lt_or_ge w1.heap.size W.heap.size with hlt | hge
    · exact hlt
    · rw [Array.getElem?_eq_none hge] at h3; cases h3
  exact ⟨h1.below hb h1.lt, h2.trans (hb.mono (Nat.le_of_lt h1.lt)), (hb.block _ hp).trans h3, h4⟩
theorem Cap.set_ {w1 : World} {cb : Nat} {T : TypeId} {o : Obj} {x : Value} {W : World} (h : Cap w1 cb T o x W) (y : Value) : Cap w1 cb T o y (W.setCell ⟨cb, 0, none⟩ y) := by
  obtain ⟨h1, h2, h3, h4⟩ := h
  exact ⟨by simpa using h1.set_ 0 y, h2.setCell (Nat.le_refl _) _, (Below.heap_setCell W _ y _ (by simp; omega)).trans h3, h4⟩
theorem Cap.cell {w1 : World} {cb : Nat} {T : TypeId} {o : Obj} {x : Value} {W : World} (h : Cap w1 cb T o x W) : W.cell? ⟨cb, 0, none⟩ = some x := by simpa using h.1.cell 0
theorem Cap.frozen {w1 : World} {cb : Nat} {T : TypeId} {o : Obj} {x : Value} {W : World} (h : Cap w1 cb T o x W) : W.frozen? ⟨cb, 0, none⟩ = false := h.1.frozen 0
theorem Cap.box0 {w1 : World} {cb : Nat} {T T2 : TypeId} {a b x : Value} {W : World} (h : Cap w1 cb T (.cells #[a, b] T2) x W) : W.cell? ⟨w1.heap.size, 0, none⟩ = some a := by
  have hB : Blk W w1.heap.size T2 #[a, b] := h.2.2.1
  simpa using hB.cell 0
theorem Cap.box1 {w1 : World} {cb : Nat} {T T2 : TypeId} {a b x : Value} {W : World} (h : Cap w1 cb T (.cells #[a, b] T2) x W) : W.cell? ⟨w1.heap.size, 1, none⟩ = some b := by
  have hB : Blk W w1.heap.size T2 #[a, b] := h.2.2.1
  simpa using hB.cell 1

end Go.Proofs.Ytlipmbcjpmbjnaa
