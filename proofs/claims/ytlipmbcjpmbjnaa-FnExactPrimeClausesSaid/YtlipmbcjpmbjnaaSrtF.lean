/- The library's SortFunc at tables of the call's own, by the program's order of clauses. -/
import Derived.Test.YtlipmbcjpmbjnaaSrtS
import Derived.Test.YtlipmbcjpmbjnaaGr
import Derived.Test.YtlipmbcjpmbjnaaShelf
import Derived.Sort.Grow
namespace Go.Proofs.Ytlipmbcjpmbjnaa
open Go.RowKit
set_option linter.unusedVariables false

/-- a table of the call's own, its rows named -/
def FTP (lo hi : Nat) (w : World) (v : Value) (ps : List (Value × List Int)) : Prop :=
  ∃ A c, v = .slice A ps.length c ∧ ps.length ≤ c ∧ c ≤ maxLen ∧ Own lo hi w A (ps.map (·.1)) ∧ Rws lo hi w ps ∧ ∀ p ∈ ps, p.2 ≠ [] → p.1.ownBlock ≠ A.map (·.block)
theorem FRT.ftp {base : Nat} {w : World} {v : Value} {ps : List (Value × List Int)} (h : FRT base w v ps) : FTP base w.heap.size w v ps := by
  obtain ⟨A, c, rfl, h1, h2, h3⟩ := h.1.own
  exact ⟨A, c, by simp, by simpa using h1, h2, h3, h.2.1, fun p hp h0 e => h.2.2 p hp h0 (by rw [e]; cases A <;> rfl)⟩
theorem FTP.ftab {lo hi : Nat} {w : World} {v : Value} {ps : List (Value × List Int)} (h : FTP lo hi w v ps) : FTab lo hi w v (ps.map (·.2)) := by
  obtain ⟨A, c, rfl, h1, h2, h3, h4, h5⟩ := h
  have := h4.tab h1 h2 h3 h5
  simpa using this
theorem FTP.below {lo hi : Nat} {w w' : World} {v : Value} {ps : List (Value × List Int)} (h : FTP lo hi w v ps) (hb : Below w.heap.size w w') : FTP lo hi w' v ps := by
  obtain ⟨A, c, e, h1, h2, h3, h4, h5⟩ := h
  exact ⟨A, c, e, h1, h2, h3.below hb, h4.below hb, h5⟩
theorem FTP.mono {lo hi lo' hi' : Nat} {w : World} {v : Value} {ps : List (Value × List Int)} (h : FTP lo hi w v ps) (hl : lo' ≤ lo) (hh : hi ≤ hi') : FTP lo' hi' w v ps := by
  obtain ⟨A, c, e, h1, h2, h3, h4, h5⟩ := h
  exact ⟨A, c, e, h1, h2, h3.mono hl hh, h4.mono hl hh, h5⟩

section
variable {α : Type} [Inhabited α]
theorem grown_sort (enc : α → Value) (w : World) (b off m : Nat) (d : Array α) (os : Array Obj) : w.grownBy (sortWorld enc w b off m d os) (some b) := by
  refine ⟨rfl, rfl, rfl, by simp [sortWorld, Sort.putRow, Sort.mapBlock, Sort.ahead], fun k hk hne => ?_⟩
  unfold sortWorld
  rw [Sort.heap_grow_old _ _ (by simpa [Sort.putRow, Sort.mapBlock, Sort.ahead] using hk)]
  simp [Sort.putRow, Sort.mapBlock, Sort.ahead, Array.getElem?_modify, show b ≠ k by intro e; exact hne (by rw [e])]
theorem chg_sort {lo hi : Nat} (enc : α → Value) (w : World) (b off m : Nat) (d : Array α) (os : Array Obj) (h1 : lo ≤ b) (h2 : b < hi) : Chg lo hi w (sortWorld enc w b off m d os) := by
  have h := grown_sort enc w b off m d os
  exact ⟨h.os, h.tape, h.output, h.size, fun k hk hh => h.block k hk (by simp; omega)⟩
theorem holds_sort (enc : α → Value) (w : World) (b off m : Nat) (d d' : Array α) (os : Array Obj) (hb : b < w.heap.size) (hH : Sort.Holds enc w b off d) (hs : d'.size = d.size) : Sort.Holds enc (sortWorld enc w b off m d' os) b off d' :=
  Sort.holds_grow _ _ os b off _ (by simpa [Sort.putRow, Sort.mapBlock, Sort.ahead] using hb) (Sort.holds_putRow _ _ b off _ _ (Sort.holds_ahead _ w m b off _ hH) hs)
end

theorem g_SortFuncC {lo hi : Nat} (v : Value) (ps : List (Value × List Int)) (w : World) (h : FTP lo hi w v ps) (hn : ps.length ≤ 1048576) :
    Calls Try.prog 48 #[v, .func (.func 49) #[] #[]] w fun e w' => ∃ qs, e = .returned (.tuple #[]) ∧ qs.Perm ps ∧ qs.Pairwise (fun a b => clsLt b.2 a.2 = false) ∧ FTP lo hi w' v qs ∧ Chg lo hi w w' := by
  have eg := Go.Proofs.enters_of Try.func49 (by kernel_rfl) rfl
  obtain ⟨A, c, rfl, hc, hm, hown, hR, hsep⟩ := h
  by_cases h0 : 0 < ps.length
  · obtain ⟨b, off, rfl, h1, h2, h3⟩ := hown (by simpa using h0)
    have hb : b < w.heap.size := World.block_lt_of_cell? _ _ (h3 0 _ (List.getElem?_eq_getElem (by simpa using h0))).1
    haveI : Inhabited {p : Value × List Int // p ∈ ps} := ⟨⟨ps[0], List.getElem_mem h0⟩⟩
    obtain ⟨enc, henc⟩ : ∃ enc : {p : Value × List Int // p ∈ ps} → Value, enc = fun p => p.1.1 := ⟨_, rfl⟩
    obtain ⟨cf, hcf⟩ : ∃ cf : {p : Value × List Int // p ∈ ps} → {p : Value × List Int // p ∈ ps} → Int, cf = fun p q => cmpC p.1.2 q.1.2 := ⟨_, rfl⟩
    obtain ⟨d, hd⟩ : ∃ d : Array {p : Value × List Int // p ∈ ps}, d = ps.attach.toArray := ⟨_, rfl⟩
    have hds : d.size = ps.length := by rw [hd]; simp
    have hdl : d.toList.map (·.1) = ps := by rw [hd]; exact List.attach_map_subtype_val ps
    have hsep2 : ∀ p ∈ ps, p.2 = [] ∨ p.1.ownBlock ≠ some b := fun p hp => by
      by_cases e : p.2 = []
      · exact .inl e
      · exact .inr (hsep p hp e)
    have hH : Sort.Holds enc w b off d := by
      intro j hj
      have hj' : j < ps.length := by omega
      have := h3 j ps[j].1 (by rw [List.getElem?_map, List.getElem?_eq_getElem hj']; rfl)
      rw [getElem!_pos d j hj, henc]
      have e : (d[j]).1 = ps[j] := by
        have h9 : (d.toList.map (·.1))[j]? = some (d[j]).1 := by rw [List.getElem?_map, Array.getElem?_toList, Array.getElem?_eq_getElem hj]; rfl
        rw [hdl, List.getElem?_eq_getElem hj'] at h9
        exact (Option.some.inj h9).symm
      show w.cell? _ = some (d[j]).1.1 ∧ _
      rw [e]
      exact this
    have hcm : CmpLays1 Try.prog 49 #[] enc cf b off d.size w := fun m os dk hs x y => by
      have hg := grown_sort enc w b off m dk os
      have hx : Ints hi (sortWorld enc w b off m dk os) x.1.1 x.1.2 := (hR.1 x.1 x.2).ints.grown hg (hsep2 x.1 x.2)
      have hy : Ints hi (sortWorld enc w b off m dk os) y.1.1 y.1.2 := (hR.1 y.1 y.2).ints.grown hg (hsep2 y.1 y.2)
      have hcc := i_compareClausesG _ _ _ _ _ hx hy
      rw [henc, hcf]
      rw [henc] at hcc
      exact hcc.mono fun e w' ⟨he, q, os', hw⟩ => ⟨he, q, os', hw⟩
    have hlt : ∀ x y, ltOf cf x y = clsLt x.1.2 y.1.2 := fun x y => by rw [hcf]; rfl
    have hO : Sort.SWO (ltOf cf) := ⟨fun x => by rw [hlt]; exact clsLt_swo.irrefl _, fun x y z => by rw [hlt, hlt, hlt]; exact clsLt_swo.trans _ _ _, fun x y z => by rw [hlt, hlt, hlt]; exact clsLt_swo.ntrans _ _ _⟩
    have h1c : OneCell enc := fun x => by rw [henc]; exact (hR.1 x.1 x.2).ints.oneCell
    have hcall := Try.slices_SortFunc_f48 enc h1c cf hO 49 #[] b off c d w eg hcm hH hb (by omega)
    rw [hds] at hcall
    refine hcall.mono ?_
    rintro e w' ⟨rfl, d', n, os, hp, hs, rfl⟩
    obtain ⟨hp1, -, hp3⟩ := hp
    have hd's : d'.size = ps.length := by omega
    have e1 : d'.extract 0 ps.length = d' := by rw [← hd's]; simp
    have e2 : d.extract 0 ps.length = d := by rw [← hds]; simp
    rw [e1, e2] at hp3
    obtain ⟨qs, hqs⟩ : ∃ qs, d'.toList.map (·.1) = qs := ⟨_, rfl⟩
    have hperm : qs.Perm ps := by
      have h9 := hp3.map (fun x => x.1)
      rw [hdl, hqs] at h9
      exact h9
    have hql : qs.length = ps.length := hperm.length_eq
    have hget : ∀ j (hj : j < qs.length), qs[j] = (d'[j]'(by omega)).1 := fun j hj => by
      have h9 : (d'.toList.map (·.1))[j]? = some (d'[j]'(by omega)).1 := by rw [List.getElem?_map, Array.getElem?_toList, Array.getElem?_eq_getElem (by omega)]; rfl
      rw [hqs, List.getElem?_eq_getElem hj] at h9
      exact Option.some.inj h9
    have hH' := holds_sort enc w b off n d d' os hb hH hp1
    have hg := grown_sort enc w b off n d' os
    refine ⟨qs, rfl, hperm, ?_, ⟨_, c, by rw [hql], by omega, hm, fun _ => ⟨b, off, rfl, h1, h2, ?_⟩, ?_, fun p hp => hsep p (hperm.mem_iff.1 hp)⟩, chg_sort enc w b off n d' os h1 h2⟩
    · refine List.pairwise_iff_getElem.2 fun i j hi hj hij => ?_
      have h9 := hs i j (Nat.zero_le _) hij (by omega)
      rw [getElem!_pos d' j (by omega), getElem!_pos d' i (by omega), hlt, ← hget j hj, ← hget i hi] at h9
      exact h9
    · intro j u hu
      rw [List.getElem?_map] at hu
      have hj : j < qs.length := by
        rcases Nat.lt_or_ge j qs.length with h9 | h9
        · exact h9
        · rw [List.getElem?_eq_none h9] at hu; cases hu
      rw [List.getElem?_eq_getElem hj] at hu
      have hu' : qs[j].1 = u := by simpa using hu
      have h9 := hH' j (by omega)
      have h10 : ∀ x, enc x = x.1.1 := fun x => by rw [henc]
      rw [getElem!_pos d' j (by omega), h10] at h9
      rw [← hu', hget j hj]
      exact h9
    · refine (Rws.perm ⟨fun p hp => ?_, hR.2⟩ hperm.symm)
      exact (hR.1 p hp).grown hg (hsep2 p hp)
  · obtain rfl : ps = [] := List.eq_nil_of_length_eq_zero (by omega)
    refine (Try.slices_SortFunc_none_f48 (α := Int) A c _ w).mono ?_
    rintro e w' ⟨rfl, rfl⟩
    exact ⟨[], rfl, List.Perm.refl _, List.Pairwise.nil, ⟨A, c, rfl, hc, hm, hown, hR, hsep⟩, chg_refl _ _ _⟩

end Go.Proofs.Ytlipmbcjpmbjnaa
