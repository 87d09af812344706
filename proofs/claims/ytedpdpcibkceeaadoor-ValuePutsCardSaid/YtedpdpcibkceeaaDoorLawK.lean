import Derived.Test.YtedpdpcibkceeaaDoorAwk
import Derived.Test.YtedpdpcibkceeaaDoorValid
import Derived.Test.YtedpdpcibkceeaaDoorRget
/-
  The kit of the laws' walks: worlds grown from one base. No conditions beyond those ahead of each theorem.
-/
namespace Go.Proofs.YtedpdpcibkceeaaDoor
open Go.RowKit Go.Sort Go.Lib
open Go.Lib (hid)
set_option linter.unusedVariables false
set_option linter.unusedSimpArgs false

/-- A drawn region of calls that only make memory, met in a world that has grown from a base. -/
theorem wp_region_quiet_in {P : Program} {id : Nat} {Q : Exit → Act → World → Prop} {a : Act} {w : World} {d : Nat} {os : Array Obj} {l : List Oper} (hm : P.follows .mixedOrders = true) (hB : Region.lexB .any l.toArray = true)
    (h : wpQuiet P l.toArray (fun w' => ∃ p : Regrown, w' = grow (redrawn w p.d) p.os) (fun a' => ∀ w', (∃ p : Regrown, w' = grow (redrawn w p.d) p.os) → Q .normal a' w') l a) : (Code.region id l.toArray true).wp P Q a (grow (redrawn w d) os) :=
  wp_region_quiet (C := fun w' => ∃ p : Regrown, w' = grow (redrawn w p.d) p.os) hm hB ⟨⟨d + 1, os⟩, rfl⟩ (by simpa using h)
/-- Grown from a base. -/
abbrev Gr (W : World) (P : Ending → Prop) (e : Ending) (w' : World) : Prop := P e ∧ ∃ p : Regrown, w' = grow (redrawn W p.d) p.os
theorem below_gr {W0 W : World} (h : Below W0.heap.size W0 W) (d : Nat) (os : Array Obj) : Below W0.heap.size W0 (grow (redrawn W d) os) := h.trans ((below_regrown W d os).mono h.size)
theorem regr {w w' : World} (h : Below w.heap.size w w') : ∃ d os, w' = grow (redrawn w d) os := by
  obtain ⟨p, hp⟩ := regrown_of_below h
  exact ⟨p.d, p.os, hp⟩
end Go.Proofs.YtedpdpcibkceeaaDoor
