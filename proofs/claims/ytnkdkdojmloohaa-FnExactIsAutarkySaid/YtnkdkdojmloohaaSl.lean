/- The walks of the library's slice functions on ints that make or write memory: Clone, ContainsFunc, DeleteFunc; and what stands on them. -/
import Derived.Test.YtnkdkdojmloohaaBase
import Derived.Test.YtnkdkdojmloohaaClause
import Derived.Test.YtnkdkdojmloohaaHas
namespace Go.Proofs.Ytnkdkdojmloohaa
open Go.RowKit
set_option linter.unusedVariables false

/-- What is asked of a function value that answers a bool for each number, in every world that is as w below lo. -/
def AnswersV (P : Program) (g : FuncId) (lb : Array Value) (zs : List Int) (p : Int → Bool) (lo : Nat) (w : World) : Prop :=
  ∀ x ∈ zs, ∀ W : World, Below lo w W → Calls P g (#[.int .i64 x] ++ lb) W fun e w' => e = .returned (.bool (p x)) ∧ Below W.heap.size W w'

theorem AnswersV.cells {P : Program} {g : FuncId} {lb : Array Value} {zs : List Int} {p : Int → Bool} {lo : Nat} {w : World} (h : AnswersV P g lb zs p lo w) (hl : lo ≤ w.heap.size) : Answers P g lb (ic zs) (zs.map p) w := by
  intro j u b hu hb W hW
  rw [List.getElem?_map] at hu hb
  obtain ⟨z, hz, rfl⟩ := Option.map_eq_some_iff.1 hu
  rw [hz] at hb
  obtain rfl : p z = b := by simpa using hb
  exact h z (List.mem_of_getElem? hz) W (hW.mono hl)

theorem firstT_map {p : Int → Bool} : ∀ (zs : List Int) (k : Nat), (firstT (zs.map p) k = -1 ∧ zs.filter (fun x => !p x) = zs) ∨
    ∃ i, i < zs.length ∧ firstT (zs.map p) k = ((k + i : Nat) : Int) ∧ (zs.take (i + 1)).filter (fun x => !p x) = zs.take i
  | [], _ => .inl ⟨rfl, rfl⟩
  | x :: r, k => by
    cases hx : p x with
    | true => exact .inr ⟨0, by simp, by simp [firstT, hx], by simp [hx]⟩
    | false =>
      rcases firstT_map (p := p) r (k + 1) with ⟨h1, h2⟩ | ⟨i, h1, h2, h3⟩
      · exact .inl ⟨by simp [firstT, hx, h1], by simp [hx, h2]⟩
      · exact .inr ⟨i + 1, by simp; omega, by simp [firstT, hx, h2]; omega, by simp [hx, h3]⟩

/-- what the round leaves: i kept so far, j looked at -/
def Kept (p : Int → Bool) (zs L : List Int) (i j : Nat) : Prop := L.length = zs.length ∧ L.take i = (zs.take j).filter (fun x => !p x) ∧ i < j ∧ j ≤ zs.length ∧ L.drop j = zs.drop j

theorem Kept.keep {p : Int → Bool} {zs L : List Int} {i j : Nat} {x : Int} (h : Kept p zs L i j) (hx : zs.drop j = x :: zs.drop (j + 1)) (hp : p x = false) (hj : j < zs.length) : Kept p zs (L.set i x) (i + 1) (j + 1) := by
  obtain ⟨h1, h2, h3, h4, h5⟩ := h
  refine ⟨by simpa using h1, ?_, by omega, by omega, ?_⟩
  · have e1 : (L.set i x).take (i + 1) = L.take i ++ [x] := by
      rw [List.take_succ_eq_append_getElem (by simp; omega)]
      simp [List.take_set_of_le]
    rw [e1, h2, take_snoc hx, List.filter_append]
    simp [hp]
  · rw [List.drop_set_of_lt (by omega)]
    have := congrArg (fun l => l.drop 1) h5
    simpa using this

theorem Kept.drop {p : Int → Bool} {zs L : List Int} {i j : Nat} {x : Int} (h : Kept p zs L i j) (hx : zs.drop j = x :: zs.drop (j + 1)) (hp : p x = true) (hj : j < zs.length) : Kept p zs L i (j + 1) := by
  obtain ⟨h1, h2, h3, h4, h5⟩ := h
  refine ⟨h1, ?_, by omega, by omega, ?_⟩
  · rw [h2, take_snoc hx, List.filter_append]
    simp [hp]
  · have := congrArg (fun l => l.drop 1) h5
    simpa using this

end Go.Proofs.Ytnkdkdojmloohaa
