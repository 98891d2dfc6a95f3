/- A region that draws its order, met once for all its ways: a law for the walk of the laws whose answer is a formula. -/
import Derived.Test.YtlipmbcjpmbjnaaTabs
import Derived.Test.YtlipmbcjpmbjnaaTopC
import Derived.Test.YtlipmbcjpmbjnaaCore
import Derived.Deep.RegionHeld3
namespace Go.Proofs.Ytlipmbcjpmbjnaa
open Go.RowKit
set_option linter.unusedVariables false

theorem region_via {P : Program} {id : Nat} {ops : Array Oper} {b : Bool} {Q : Exit → Act → World → Prop} {a : Act} {w : World} (R : Act → Act → World → Prop)
    (hreg : (Code.region id ops b).wp P (fun e a' w' => match e with | .normal => R a a' w' | _ => False) a w) (h : ∀ a' w', R a a' w' → Q .normal a' w') : (Code.region id ops b).wp P Q a w :=
  Code.wp_mono (fun e a' w' hr => by
    cases e with
    | normal => exact h a' w' hr
    | _ => exact False.elim hr) hreg
theorem below_stp {w W w' : World} (h : Below w.heap.size w W) (hb : Below W.heap.size W w') : Below w.heap.size w w' := h.trans (hb.mono h.size)
theorem below_set_of {a w : World} (h : Below a.heap.size a w) {p : Addr} (hp : a.heap.size ≤ p.block) (u : Value) : Below a.heap.size a (w.setCell p u) := h.setCell hp u
theorem chg_set (w : World) (b i : Nat) (u : Value) : Chg b (b + 1) w (w.setCell ⟨b, i, none⟩ u) :=
  ⟨rfl, rfl, rfl, by simp [World.setCell], fun k hk hne => Below.heap_setCell w _ u k (by intro e; simp at e; omega)⟩
theorem boxF {w w1 : World} {cs : Array Value} {T : TypeId} (hb : Below (w.alloc (.cells cs T)).heap.size (w.alloc (.cells cs T)) w1) : Blk w1 w.heap.size T cs :=
  (Blk.new w T cs).below hb (Blk.new w T cs).lt
theorem boxG {w w1 : World} {cs : Array Value} {T : TypeId} (hb : Below (w.alloc (.cells cs T)).drew.heap.size (w.alloc (.cells cs T)).drew w1) : Blk w1 w.heap.size T cs :=
  ((Blk.new w T cs).below (below_drew _) (Blk.new w T cs).lt).below hb (Blk.new w T cs).lt
theorem boxH {w w1 : World} {cs : Array Value} {T : TypeId} (hb : Below (w.drew.alloc (.cells cs T)).heap.size (w.drew.alloc (.cells cs T)) w1) : Blk w1 w.heap.size T cs :=
  (Blk.new w.drew T cs).below hb (Blk.new w.drew T cs).lt
theorem Blk.duo {w : World} {g : Nat} {T : TypeId} {a b : Value} (h : Blk w g T #[a, b]) : w.cell? ⟨g, 0, none⟩ = some a ∧ w.cell? ⟨g, 1, none⟩ = some b ∧ w.frozen? ⟨g, 0, none⟩ = false ∧ w.frozen? ⟨g, 1, none⟩ = false :=
  ⟨by simpa using h.cell 0, by simpa using h.cell 1, h.frozen 0, h.frozen 1⟩
/-- what the region leaves: the answer's box -/
theorem FCnf.boxed {lo hi b : Nat} {w : World} {x y : Value} {f : CnfL} {T : TypeId} {A : Option Addr} {n c : Nat} (h : FCnf lo hi w (.agg #[.int .i64 f.1, .slice A n c]) f) (hy : Blk w b T #[x, y]) (hb : b < lo) :
    FCnf lo hi ((w.setCell ⟨b, 0, none⟩ (.int .i64 f.1)).setCell ⟨b, 1, none⟩ (.slice A n c)) (.agg #[.int .i64 f.1, .slice A n c]) f :=
  (h.chg (chg_set w b 0 _) (.inr (by omega))).chg (chg_set _ b 1 _) (.inr (by omega))

end Go.Proofs.Ytlipmbcjpmbjnaa
