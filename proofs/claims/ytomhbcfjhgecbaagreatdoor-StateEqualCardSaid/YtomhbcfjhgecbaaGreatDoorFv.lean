import Derived.Test.YtomhbcfjhgecbaaGreatDoorFu
import Derived.Test.YtomhbcfjhgecbaaGreatDoorW1
/-
  What the statements of the layer share whose arguments are not bounded: what each argument weighs. No conditions beyond those ahead of each theorem.
-/
namespace Go.Proofs.YtomhbcfjhgecbaaGreatDoor
open Go.ChangeShapes Go.WideShapes Go.ChangeAt Go.RowKit Go.Lib Go.Shelf
set_option linter.unusedVariables false
set_option linter.unusedSimpArgs false

theorem reach_eq : reachBytes = 140737488351232 := by kernel_rfl
theorem weights_of {H : Type} {P : Program} {ts : List TypeId} {l : List (DataW H)} (h : (DataW.weightsEach P ts l).all (· ≤ reachBytes) = true) {k : Nat} {t : TypeId} {d : DataW H} (h1 : ts[k]? = some t) (h2 : l[k]? = some d) : Wt P t d := fun m hm => by
  have h3 := List.all_eq_true.1 h m (weightsEach_mem h1 h2 hm)
  rw [decide_eq_true_eq, reach_eq] at h3
  exact h3
end Go.Proofs.YtomhbcfjhgecbaaGreatDoor
