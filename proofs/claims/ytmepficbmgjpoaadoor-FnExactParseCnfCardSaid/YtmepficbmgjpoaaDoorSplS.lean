/- The contracts of SplitString; strings.Split by the library's contract. -/
import Derived.Test.YtmepficbmgjpoaaDoorStrL
import Derived.Shelf.Vars
namespace Go.Proofs.YtmepficbmgjpoaaDoor
open Go.RowKit
set_option linter.unusedVariables false

/-- the library's variable MaxLen holds a number -/
def MaxV (w : World) : Prop := ∃ m, w.cell? ⟨2, 0, none⟩ = some (.int .i64 m)
theorem MaxV.below {w w' : World} (h : MaxV w) (hb : Below w.heap.size w w') : MaxV w' := by
  obtain ⟨m, hm⟩ := h
  exact ⟨m, below_old hb _ _ hm⟩
theorem MaxV.chg {lo hi : Nat} {w w' : World} (h : MaxV w) (hc : Chg lo hi w w') (hl : 3 ≤ lo) : MaxV w' := by
  obtain ⟨m, hm⟩ := h
  exact ⟨m, (World.cell?_of_block (hc.block 2 (World.block_lt_of_cell? _ _ hm) (.inl (by omega)))).trans hm⟩
theorem MaxV.room {w : World} (h : MaxV w) : 3 ≤ w.heap.size := by
  obtain ⟨m, hm⟩ := h
  exact World.block_lt_of_cell? _ _ hm
theorem maxV_of {w : World} (h : w.ShapedOpen Tryd.prog) : MaxV w := cell_of_shapedOpen_int (t := 3) (zero := #[.int .i64 0]) h (by decide +kernel) (by kernel_rfl) rfl (by kernel_rfl) (by kernel_rfl) Tryd.underlying3

theorem maxV_of2 {p : Prop} {w : World} (_ : p) (h : w.ShapedOpen Tryd.prog) : MaxV w := maxV_of h
theorem spl_len (b : UInt8) : ∀ l cur : List UInt8, (spl b cur l).length ≤ l.length + 1
  | [], cur => by simp [spl]
  | c :: r, cur => by
    rw [spl]
    split
    · have := spl_len b r []; simp; omega
    · have := spl_len b r (cur ++ [c]); simp; omega
/-- the parts of s between signs -/
def splitS (s sep : ByteArray) : List ByteArray := (Lib.split s.data.toList sep.data.toList).map bs
theorem splitB_bs (s sep : ByteArray) : Lib.splitB sep 0 (Lib.countB s sep) s = splitS s sep := by
  unfold splitS Lib.split
  have h : Lib.countB s sep = Lib.count s.data.toList sep.data.toList := rfl
  rw [← h, ← Lib.splitB_data, List.map_map]
  have : (bs ∘ fun x : ByteArray => x.data.toList) = id := by funext x; exact bs_list x
  rw [this, List.map_id]
theorem g_Split (s sep : ByteArray) (w : World) (hs : s.size ≤ 1048576) (h1 : 1 ≤ sep.size) (hM : MaxV w) :
    Calls Tryd.prog 49 #[.string s, .string sep] w fun e w' => ∃ v', e = .returned v' ∧ FStr w.heap.size w'.heap.size w' v' (splitS s sep) ∧ Below w.heap.size w w' := by
  obtain ⟨m, hm⟩ := hM
  refine (Tryd.strings_Split s sep m w (by omega) hm h1).mono ?_
  rintro e w' ⟨rfl, rfl⟩
  have hlen := Lib.splitB_all sep h1 0 _ s rfl
  rw [splitB_bs] at hlen ⊢
  have hle := Lib.countB_le sep h1 s.size s (Nat.le_refl _)
  refine ⟨_, rfl, ⟨_, _, by rw [hlen], by rw [hlen]; exact Nat.le_refl _, by unfold maxLen; omega, ?_⟩, (Below.refl _ _).alloc (Nat.le_refl _) _⟩
  exact Blk.own (Blk.new _ _ _) (Nat.le_refl _) (fun j u hu => by rw [List.getElem?_toArray]; exact hu)

def fSplitString (s sep : ByteArray) : List ByteArray × Bool := if sep.size = 1 ∧ s.size ≤ 4000 then (splitS s sep, true) else ([], false)
theorem one_bs (sep : ByteArray) (h : sep.size = 1) : sep.data.toList = [sep[0]] := by
  obtain ⟨c, rfl⟩ := Lib.one_byte sep h
  rfl
theorem spl_splitS (s sep : ByteArray) (h : sep.size = 1) : (spl sep[0] [] s.data.toList).map bs = splitS s sep := by
  unfold splitS
  rw [spl_eq, one_bs sep h]
theorem splitS_len (s sep : ByteArray) (h : sep.size = 1) : (splitS s sep).length ≤ s.size + 1 := by
  rw [← spl_splitS s sep h, List.length_map]
  have := spl_len sep[0] s.data.toList []
  simpa using this
theorem fSplitString_len {s sep : ByteArray} {r0 : List ByteArray} {r1 : Bool} (hR : fSplitString s sep = (r0, r1)) : r0.length ≤ 4001 := by
  unfold fSplitString at hR
  split at hR
  · rename_i h
    injection hR with e1 e2
    subst e1
    have := splitS_len s sep h.1
    omega
  · injection hR with e1 e2
    subst e1
    simp

set_option maxHeartbeats 800000 in
theorem S_SplitString (s sep : ByteArray) (r0 : List ByteArray) (r1 : Bool) (w : World) (hs : s.size ≤ 1048576) (hp : sep.size ≤ 1048576) (hR : fSplitString s sep = (r0, r1)) :
    Calls Tryd.prog 16 #[.string s, .string sep] w fun e w' => ∃ v', e = .returned (.tuple #[v', .bool r1]) ∧ FStr w.heap.size w'.heap.size w' v' r0 ∧ Below w.heap.size w w' := by
  have hal : Below w.heap.size w (w.alloc (.cells #[] 9)) := (Below.refl _ _).alloc (Nat.le_refl _) _
  have hmade := (OwnS.made w.heap.size w (Nat.le_refl _)).fstr
  have HM := hide hmade
  have HAL := hide hal
  clear hmade hal
  by_cases h1 : sep.size = 1
  · have c1 : ((sep.size : Int) == 1) = true := by simp [h1]
    have c3 : (0 : Int) < (sep.size : Int) := by omega
    have c5 : 0 < sep.size := by omega
    by_cases h2 : s.size ≤ 4000
    · have c2 : ¬ ((4000 : Int) < (s.size : Int)) := by omega
      have HF := hide (show (r0 = (spl sep[0] [] s.data.toList).map bs) ∧ r1 = true by
        unfold fSplitString at hR
        rw [if_pos ⟨h1, h2⟩] at hR
        injection hR with e1 e2
        exact ⟨by rw [spl_splitS s sep h1]; exact e1.symm, e2.symm⟩)
      have HS := hide (s_l1Split s sep[0] w hs)
      clear hR
      go_enter Tryd.func16, Tryd.ntmps16
      go_wp2_with fail
      refine HS.out.mono ?_
      rintro e w1 ⟨v1, rfl, hown, hb1⟩
      go_wp2_with fail
      go_ret2
      obtain ⟨rfl, rfl⟩ := HF.out
      exact ⟨_, rfl, hown.fstr, hb1⟩
    · have c2 : (4000 : Int) < (s.size : Int) := by omega
      have HF := hide (show (r0 = []) ∧ r1 = false by
        unfold fSplitString at hR
        rw [if_neg (fun h => h2 h.2)] at hR
        injection hR with e1 e2
        exact ⟨e1.symm, e2.symm⟩)
      clear hR
      go_enter Tryd.func16, Tryd.ntmps16
      go_wp2_with fail
      go_ret2
      obtain ⟨rfl, rfl⟩ := HF.out
      exact ⟨_, rfl, HM.out, HAL.out⟩
  · have c1 : ((sep.size : Int) == 1) = false := by rw [beq_eq_false_iff_ne]; omega
    have HF := hide (show (r0 = []) ∧ r1 = false by
      unfold fSplitString at hR
      rw [if_neg (fun h => h1 h.1)] at hR
      injection hR with e1 e2
      exact ⟨e1.symm, e2.symm⟩)
    clear hR
    go_enter Tryd.func16, Tryd.ntmps16
    go_wp2_with fail
    go_ret2
    obtain ⟨rfl, rfl⟩ := HF.out
    exact ⟨_, rfl, HM.out, HAL.out⟩

set_option maxHeartbeats 800000 in
theorem I_SplitString (s sep : ByteArray) (r0 : List ByteArray) (r1 : Bool) (w : World) (hM : MaxV w) (hs : s.size ≤ 1048576) (hp : sep.size ≤ 1048576) (hR : fSplitString s sep = (r0, r1)) :
    Calls Tryd.prog 17 #[.string s, .string sep] w fun e w' => ∃ v', e = .returned (.tuple #[v', .bool r1]) ∧ FStr w.heap.size w'.heap.size w' v' r0 ∧ Below w.heap.size w w' := by
  by_cases h2 : s.size ≤ 4000
  · have c2 : ¬ ((4000 : Int) < (s.size : Int)) := by omega
    by_cases h1 : sep.size = 1
    · have c1 : ((sep.size : Int) == 1) = true := by simp [h1]
      have HF := hide (show (r0 = splitS s sep) ∧ r1 = true by
        unfold fSplitString at hR
        rw [if_pos ⟨h1, h2⟩] at hR
        injection hR with e1 e2
        exact ⟨e1.symm, e2.symm⟩)
      have HS := hide (g_Split s sep w hs (by omega) hM)
      clear hR hM
      go_enter Tryd.func17, Tryd.ntmps17
      go_wp2_with fail
      refine HS.out.mono ?_
      rintro e w1 ⟨v1, rfl, hown, hb1⟩
      go_wp2_with fail
      go_ret2
      obtain ⟨rfl, rfl⟩ := HF.out
      exact ⟨_, rfl, hown, hb1⟩
    · have c1 : ((sep.size : Int) == 1) = false := by rw [beq_eq_false_iff_ne]; omega
      have HF := hide (show (r0 = []) ∧ r1 = false by
        unfold fSplitString at hR
        rw [if_neg (fun h => h1 h.1)] at hR
        injection hR with e1 e2
        exact ⟨e1.symm, e2.symm⟩)
      clear hR hM
      go_enter Tryd.func17, Tryd.ntmps17
      go_wp2_with fail
      go_ret2
      obtain ⟨rfl, rfl⟩ := HF.out
      exact ⟨_, rfl, FStr.nil _ _ _, Below.refl _ _⟩
  · have c2 : (4000 : Int) < (s.size : Int) := by omega
    have HF := hide (show (r0 = []) ∧ r1 = false by
      unfold fSplitString at hR
      rw [if_neg (fun h => h2 h.2)] at hR
      injection hR with e1 e2
      exact ⟨e1.symm, e2.symm⟩)
    clear hR hM
    go_enter Tryd.func17, Tryd.ntmps17
    go_wp2_with fail
    go_ret2
    obtain ⟨rfl, rfl⟩ := HF.out
    exact ⟨_, rfl, FStr.nil _ _ _, Below.refl _ _⟩

end Go.Proofs.YtmepficbmgjpoaaDoor
