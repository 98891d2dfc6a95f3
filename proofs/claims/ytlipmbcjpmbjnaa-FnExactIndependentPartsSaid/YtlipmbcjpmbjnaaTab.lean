/- Plain words on memory: a slice of slices of ints, a formula. No program in sight. -/
import Derived.Test.YtlipmbcjpmbjnaaLib
namespace Go.Proofs.Ytlipmbcjpmbjnaa
open Go.RowKit
set_option linter.unusedVariables false

def leftB (left : Int) (n : Nat) : Int := if (n : Int) ≤ left then left - n else -1
/-- how many numbers a table has -/
def cntT : List (List Int) → Nat
  | [] => 0
  | z :: r => z.length + cntT r
theorem cntT_append : ∀ (a b : List (List Int)), cntT (a ++ b) = cntT a + cntT b
  | [], b => by simp [cntT]
  | z :: r, b => by simp [cntT, cntT_append r b]; omega
/-- a table of marks of a table's form -/
def markT : Int → List (List Int) → List (List Int)
  | _, [] => []
  | k, z :: r => marks k z.length :: markT (k + z.length) r
theorem markT_length : ∀ (k : Int) (t : List (List Int)), (markT k t).length = t.length
  | _, [] => rfl
  | k, z :: r => by simp [markT, markT_length]
theorem markT_get : ∀ (t : List (List Int)) (k : Int) (j : Nat) (z : List Int), t[j]? = some z → (markT k t)[j]? = some (marks (k + cntT (t.take j)) z.length)
  | [], _, j, z, h => by simp at h
  | y :: r, k, 0, z, h => by simp at h; subst h; simp [markT, cntT]
  | y :: r, k, j + 1, z, h => by
    have := markT_get r (k + y.length) j z (by simpa using h)
    simp only [markT, List.getElem?_cons_succ, this, List.take_succ_cons, cntT]
    rw [show k + (y.length : Int) + (cntT (r.take j) : Int) = k + ((y.length + cntT (r.take j) : Nat) : Int) from by omega]

theorem marks_nil {k : Int} {n : Nat} (h : marks k n = []) : n = 0 := by
  have := marks_length k n
  rw [h] at this
  simpa using this.symm

/-- A slice value reads as a table. -/
def Tab (hi : Nat) (w : World) (v : Value) (t : List (List Int)) : Prop :=
  ∃ A c, ∃ ps : List (Value × List Int), v = .slice A t.length c ∧ t.length ≤ c ∧ c ≤ maxLen ∧ t = ps.map (·.2) ∧ Row hi w A (ps.map (·.1)) ∧ ∀ p ∈ ps, Ints hi w p.1 p.2
/-- two rows that share no memory -/
def Apart (p q : Value × List Int) : Prop := p.2 = [] ∨ q.2 = [] ∨ p.1.ownBlock ≠ q.1.ownBlock
/-- .. in memory from lo on, all rows apart. -/
def FTab (lo hi : Nat) (w : World) (v : Value) (t : List (List Int)) : Prop :=
  ∃ A c, ∃ ps : List (Value × List Int), v = .slice A t.length c ∧ t.length ≤ c ∧ c ≤ maxLen ∧ t = ps.map (·.2) ∧ Own lo hi w A (ps.map (·.1)) ∧ (∀ p ∈ ps, FInts lo hi w p.1 p.2) ∧ ps.Pairwise Apart ∧
    ∀ p ∈ ps, p.2 ≠ [] → p.1.ownBlock ≠ A.map (·.block)

section
variable {hi lo : Nat} {w w' : World} {v : Value} {t : List (List Int)}
theorem FTab.read (h : FTab lo hi w v t) : Tab hi w v t := by
  obtain ⟨A, c, ps, e, h1, h2, h3, h4, h5, _, _⟩ := h
  exact ⟨A, c, ps, e, h1, h2, h3, h4.row, fun p hp => (h5 p hp).ints⟩
theorem Tab.below (h : Tab hi w v t) (hb : Below w.heap.size w w') : Tab hi w' v t := by
  obtain ⟨A, c, ps, e, h1, h2, h3, h4, h5⟩ := h
  exact ⟨A, c, ps, e, h1, h2, h3, h4.below hb, fun p hp => (h5 p hp).below hb⟩
theorem FTab.below (h : FTab lo hi w v t) (hb : Below w.heap.size w w') : FTab lo hi w' v t := by
  obtain ⟨A, c, ps, e, h1, h2, h3, h4, h5, h6, h7⟩ := h
  exact ⟨A, c, ps, e, h1, h2, h3, h4.below hb, fun p hp => (h5 p hp).below hb, h6, h7⟩
theorem Tab.under {B : Nat} (h : Tab hi w v t) (hb : Below B w w') (hB : hi ≤ B) : Tab hi w' v t := by
  obtain ⟨A, c, ps, e, h1, h2, h3, h4, h5⟩ := h
  exact ⟨A, c, ps, e, h1, h2, h3, h4.under hb hB, fun p hp => (h5 p hp).under hb hB⟩
theorem Tab.top (h : Tab hi w v t) : Tab w.heap.size w v t := by
  obtain ⟨A, c, ps, e, h1, h2, h3, h4, h5⟩ := h
  exact ⟨A, c, ps, e, h1, h2, h3, h4.top, fun p hp => (h5 p hp).top⟩
theorem Tab.chg {lo' hi' : Nat} (h : Tab hi w v t) (hc : Chg lo' hi' w w') (hl : hi ≤ lo') : Tab hi w' v t := by
  obtain ⟨A, c, ps, e, h1, h2, h3, h4, h5⟩ := h
  exact ⟨A, c, ps, e, h1, h2, h3, h4.chg hc hl, fun p hp => (h5 p hp).chg hc hl⟩
theorem FTab.chg {lo' hi' : Nat} (h : FTab lo hi w v t) (hc : Chg lo' hi' w w') (hl : hi ≤ lo' ∨ hi' ≤ lo) : FTab lo hi w' v t := by
  obtain ⟨A, c, ps, e, h1, h2, h3, h4, h5, h6, h7⟩ := h
  exact ⟨A, c, ps, e, h1, h2, h3, h4.chg hc hl, fun p hp => (h5 p hp).chg hc hl, h6, h7⟩
theorem Tab.mono {hi' : Nat} (h : Tab hi w v t) (hh : hi ≤ hi') : Tab hi' w v t := by
  obtain ⟨A, c, ps, e, h1, h2, h3, h4, h5⟩ := h
  exact ⟨A, c, ps, e, h1, h2, h3, h4.mono hh, fun p hp => (h5 p hp).mono hh⟩
theorem FTab.mono {lo' hi' : Nat} (h : FTab lo hi w v t) (hl : lo' ≤ lo) (hh : hi ≤ hi') : FTab lo' hi' w v t := by
  obtain ⟨A, c, ps, e, h1, h2, h3, h4, h5, h6, h7⟩ := h
  exact ⟨A, c, ps, e, h1, h2, h3, h4.mono hl hh, fun p hp => (h5 p hp).mono hl hh, h6, h7⟩
theorem Tab.drewN (h : Tab hi w v t) (n : Nat) : Tab hi (w.drewN n) v t := h
theorem FTab.drewN (h : FTab lo hi w v t) (n : Nat) : FTab lo hi (w.drewN n) v t := h
theorem Tab.nil (hi : Nat) (w : World) : Tab hi w (.slice none 0 0) [] := ⟨none, 0, [], rfl, Nat.le_refl _, by simp [maxLen], rfl, Row.nil _ _ _, by simp⟩
theorem FTab.nil (lo hi : Nat) (w : World) : FTab lo hi w (.slice none 0 0) [] := ⟨none, 0, [], rfl, Nat.le_refl _, by simp [maxLen], rfl, Own.nil _ _ _ _, by simp, List.Pairwise.nil, by simp⟩

/-- a row of a table, as a walk asks for it -/
theorem Row.tab {A : Option Addr} {ps : List (Value × List Int)} (h : Row hi w A (ps.map (·.1))) (h5 : ∀ p ∈ ps, Ints hi w p.1 p.2) {k : Nat} (hk : k < ps.length) :
    ∃ b off u z, A = some ⟨b, off, none⟩ ∧ ps.drop k = (u, z) :: ps.drop (k + 1) ∧ w.cell? ⟨b, off + k, none⟩ = some u ∧ Ints hi w u z := by
  obtain ⟨b, off, e, hc⟩ := h.at_ (k := k) (by simpa using hk)
  refine ⟨b, off, ps[k].1, ps[k].2, e, ?_, ?_, h5 _ (List.getElem_mem hk)⟩
  · rw [List.drop_eq_getElem_cons hk]
  · rw [hc]; simp
end

theorem FInts.grown {lo hi : Nat} {w w' : World} {v : Value} {zs : List Int} {o : Option Nat} (h : FInts lo hi w v zs) (hg : w.grownBy w' o) (hne : zs = [] ∨ v.ownBlock ≠ o) : FInts lo hi w' v zs := by
  obtain ⟨A, c, rfl, h1, h2, h3⟩ := h
  refine ⟨A, c, rfl, h1, h2, ?_⟩
  intro h0
  obtain ⟨b, off, rfl, hl, hh, hc⟩ := h3 h0
  have hb : some b ≠ o := by
    rcases hne with e | e
    · subst e; simp at h0
    · simpa [Value.ownBlock] using e
  refine ⟨b, off, rfl, hl, hh, fun j u hu => ?_⟩
  have hq := hg.block b (World.block_lt_of_cell? _ _ (hc j u hu).1) hb
  exact ⟨(World.cell?_of_block (a := ⟨b, off + j, none⟩) hq).trans (hc j u hu).1, (World.frozen?_of_block (a := ⟨b, off + j, none⟩) hq).trans (hc j u hu).2⟩
theorem Own.grown {lo hi : Nat} {w w' : World} {A : Option Addr} {xs : List Value} {o : Option Nat} (h : Own lo hi w A xs) (hg : w.grownBy w' o) (hne : A.map (·.block) ≠ o ∨ xs = []) : Own lo hi w' A xs := by
  intro h0
  obtain ⟨b, off, rfl, hl, hh, hc⟩ := h h0
  have hb : some b ≠ o := by
    rcases hne with e | e
    · simpa using e
    · subst e; simp at h0
  refine ⟨b, off, rfl, hl, hh, fun j u hu => ?_⟩
  have hq := hg.block b (World.block_lt_of_cell? _ _ (hc j u hu).1) hb
  exact ⟨(World.cell?_of_block (a := ⟨b, off + j, none⟩) hq).trans (hc j u hu).1, (World.frozen?_of_block (a := ⟨b, off + j, none⟩) hq).trans (hc j u hu).2⟩

theorem FInts.block {lo hi : Nat} {w : World} {v : Value} {zs : List Int} (h : FInts lo hi w v zs) (h0 : zs ≠ []) : ∃ b, v.ownBlock = some b ∧ lo ≤ b ∧ b < hi := by
  obtain ⟨A, c, rfl, _, _, h3⟩ := h
  obtain ⟨b, off, rfl, hl, hh, _⟩ := h3 (by simpa using List.length_pos_iff.2 h0)
  exact ⟨b, rfl, hl, hh⟩
/-- rows in new memory, all apart -/
def Rws (lo hi : Nat) (w : World) (ps : List (Value × List Int)) : Prop := (∀ p ∈ ps, FInts lo hi w p.1 p.2) ∧ ps.Pairwise Apart
theorem Rws.nil (lo hi : Nat) (w : World) : Rws lo hi w [] := ⟨by simp, List.Pairwise.nil⟩
theorem Rws.below {lo hi : Nat} {w w' : World} {ps : List (Value × List Int)} (h : Rws lo hi w ps) (hb : Below w.heap.size w w') : Rws lo hi w' ps := ⟨fun p hp => (h.1 p hp).below hb, h.2⟩
theorem Rws.mono {lo hi lo' hi' : Nat} {w : World} {ps : List (Value × List Int)} (h : Rws lo hi w ps) (hl : lo' ≤ lo) (hh : hi ≤ hi') : Rws lo' hi' w ps := ⟨fun p hp => (h.1 p hp).mono hl hh, h.2⟩
theorem Rws.snoc {lo mid hi : Nat} {w : World} {ps : List (Value × List Int)} {v : Value} {z : List Int} (h : Rws lo mid w ps) (hv : FInts mid hi w v z) (h1 : lo ≤ mid) (h2 : mid ≤ hi) : Rws lo hi w (ps ++ [(v, z)]) := by
  refine ⟨fun p hp => ?_, List.pairwise_append.2 ⟨h.2, List.pairwise_singleton _ _, ?_⟩⟩
  · rcases List.mem_append.1 hp with hp | hp
    · exact (h.1 p hp).mono (Nat.le_refl _) h2
    · obtain rfl := List.mem_singleton.1 hp
      exact hv.mono h1 (Nat.le_refl _)
  · intro p hp q hq
    obtain rfl := List.mem_singleton.1 hq
    by_cases e1 : p.2 = []
    · exact .inl e1
    · by_cases e2 : z = []
      · exact .inr (.inl e2)
      · obtain ⟨b, hb, _, hb2⟩ := (h.1 p hp).block e1
        obtain ⟨b', hb', hb3, _⟩ := hv.block e2
        exact .inr (.inr (by rw [hb, hb']; simp; omega))
theorem Rws.tab {lo hi c : Nat} {w : World} {ps : List (Value × List Int)} {A : Option Addr} (h : Rws lo hi w ps) (hc : ps.length ≤ c) (hm : c ≤ maxLen) (hown : Own lo hi w A (ps.map (·.1))) (hg : ∀ p ∈ ps, p.2 ≠ [] → p.1.ownBlock ≠ A.map (·.block)) :
    FTab lo hi w (.slice A ps.length c) (ps.map (·.2)) :=
  ⟨A, c, ps, by simp, by simpa using hc, hm, rfl, hown, h.1, h.2, hg⟩
theorem FTab.open_ {lo hi : Nat} {w : World} {v : Value} {t : List (List Int)} (h : FTab lo hi w v t) : ∃ A c, ∃ ps : List (Value × List Int), v = .slice A ps.length c ∧ ps.length ≤ c ∧ c ≤ maxLen ∧ t = ps.map (·.2) ∧ Own lo hi w A (ps.map (·.1)) ∧ Rws lo hi w ps ∧
    ∀ p ∈ ps, p.2 ≠ [] → p.1.ownBlock ≠ A.map (·.block) := by
  obtain ⟨A, c, ps, rfl, h1, h2, rfl, h4, h5, h6, h7⟩ := h
  exact ⟨A, c, ps, by simp, by simpa using h1, h2, rfl, h4, ⟨h5, h6⟩, h7⟩
theorem Tab.open_ {hi : Nat} {w : World} {v : Value} {t : List (List Int)} (h : Tab hi w v t) : ∃ A c, ∃ ps : List (Value × List Int), v = .slice A ps.length c ∧ ps.length ≤ c ∧ c ≤ maxLen ∧ t = ps.map (·.2) ∧ Row hi w A (ps.map (·.1)) ∧ ∀ p ∈ ps, Ints hi w p.1 p.2 := by
  obtain ⟨A, c, ps, rfl, h1, h2, rfl, h4, h5⟩ := h
  exact ⟨A, c, ps, by simp, by simpa using h1, h2, rfl, h4, h5⟩

/-- A formula: how many variables, the clauses. -/
abbrev CnfL := Int × List (List Int)
def szC (f : CnfL) : Nat := f.2.length + cntT f.2
def cntC (f : CnfL) : Nat := cntT f.2
def markC (k : Int) (f : CnfL) : CnfL := (f.1, markT k f.2)
def RCnf (hi : Nat) (w : World) (v : Value) (f : CnfL) : Prop := ∃ cv, v = .agg #[.int .i64 f.1, cv] ∧ Tab hi w cv f.2
def FCnf (lo hi : Nat) (w : World) (v : Value) (f : CnfL) : Prop := ∃ cv, v = .agg #[.int .i64 f.1, cv] ∧ FTab lo hi w cv f.2
section
variable {hi lo : Nat} {w w' : World} {v : Value} {f : CnfL}
theorem FCnf.read (h : FCnf lo hi w v f) : RCnf hi w v f := by obtain ⟨cv, e, h⟩ := h; exact ⟨cv, e, h.read⟩
theorem RCnf.below (h : RCnf hi w v f) (hb : Below w.heap.size w w') : RCnf hi w' v f := by obtain ⟨cv, e, h⟩ := h; exact ⟨cv, e, h.below hb⟩
theorem FCnf.below (h : FCnf lo hi w v f) (hb : Below w.heap.size w w') : FCnf lo hi w' v f := by obtain ⟨cv, e, h⟩ := h; exact ⟨cv, e, h.below hb⟩
theorem RCnf.chg {lo' hi' : Nat} (h : RCnf hi w v f) (hc : Chg lo' hi' w w') (hl : hi ≤ lo') : RCnf hi w' v f := by obtain ⟨cv, e, h⟩ := h; exact ⟨cv, e, h.chg hc hl⟩
theorem FCnf.chg {lo' hi' : Nat} (h : FCnf lo hi w v f) (hc : Chg lo' hi' w w') (hl : hi ≤ lo' ∨ hi' ≤ lo) : FCnf lo hi w' v f := by obtain ⟨cv, e, h⟩ := h; exact ⟨cv, e, h.chg hc hl⟩
theorem FCnf.mono {lo' hi' : Nat} (h : FCnf lo hi w v f) (hl : lo' ≤ lo) (hh : hi ≤ hi') : FCnf lo' hi' w v f := by obtain ⟨cv, e, h⟩ := h; exact ⟨cv, e, h.mono hl hh⟩
end

theorem grown_trans {a b c : World} {o : Option Nat} (h : a.grownBy b o) (k : b.grownBy c o) : a.grownBy c o :=
  ⟨k.os.trans h.os, k.tape.trans h.tape, k.output.trans h.output, Nat.le_trans h.size k.size, fun i hi hne => (k.block i (Nat.lt_of_lt_of_le hi h.size) hne).trans (h.block i hi hne)⟩
theorem grown_refl (w : World) (o : Option Nat) : w.grownBy w o := ⟨rfl, rfl, rfl, Nat.le_refl _, fun _ _ _ => rfl⟩
theorem grown_setCell {a w : World} {g : Nat} (h : a.grownBy w (some g)) (off : Nat) (u : Value) : a.grownBy (w.setCell ⟨g, off, none⟩ u) (some g) :=
  ⟨h.os, h.tape, h.output, by simpa [World.setCell] using h.size, fun i hi hne => (Below.heap_setCell w _ u i (by rintro rfl; exact hne rfl)).trans (h.block i hi hne)⟩

theorem Ints.grown {hi : Nat} {w w' : World} {v : Value} {zs : List Int} {o : Option Nat} (h : Ints hi w v zs) (hg : w.grownBy w' o) (hne : zs = [] ∨ v.ownBlock ≠ o) : Ints hi w' v zs := by
  obtain ⟨A, c, rfl, h1, h2, h3⟩ := h
  refine ⟨A, c, rfl, h1, h2, ?_⟩
  intro h0
  obtain ⟨b, off, rfl, hh, hc⟩ := h3 h0
  have hb : some b ≠ o := by
    rcases hne with e | e
    · subst e; simp at h0
    · simpa [Value.ownBlock] using e
  refine ⟨b, off, rfl, hh, fun j u hu => ?_⟩
  have hq := hg.block b (World.block_lt_of_cell? _ _ (hc j u hu)) hb
  exact (World.cell?_of_block (a := ⟨b, off + j, none⟩) hq).trans (hc j u hu)
theorem Ints.block {hi : Nat} {w : World} {v : Value} {zs : List Int} (h : Ints hi w v zs) (h0 : zs ≠ []) : ∃ b, v.ownBlock = some b ∧ b < hi ∧ b < w.heap.size := by
  obtain ⟨A, c, rfl, _, _, h3⟩ := h
  obtain ⟨b, off, rfl, hh, hc⟩ := h3 (by simpa using List.length_pos_iff.2 h0)
  obtain ⟨x, r, rfl⟩ : ∃ x r, zs = x :: r := by cases zs with
    | nil => exact absurd rfl h0
    | cons x r => exact ⟨x, r, rfl⟩
  exact ⟨b, rfl, hh, World.block_lt_of_cell? _ _ (hc 0 (.int .i64 x) (by simp))⟩

end Go.Proofs.Ytlipmbcjpmbjnaa
