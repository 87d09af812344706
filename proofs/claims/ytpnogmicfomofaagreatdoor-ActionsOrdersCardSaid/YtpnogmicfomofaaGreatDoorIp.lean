import Derived.Test.YtpnogmicfomofaaGreatDoorIo
import Derived.Test.YtpnogmicfomofaaGreatDoorFo
/-
  Layer 44: ActionsOrders at any arguments. Conditions: the readings.
-/
namespace Go.Proofs.YtpnogmicfomofaaGreatDoor
open Go.RowKit Go.Sort Go.ChangeShapes Go.WideShapes Go.ChangeAt
open Adr (WT)
set_option linter.unusedVariables false
set_option linter.unusedSimpArgs false

set_option maxRecDepth 100000 in
theorem orders_from (H : Type) (enc : TypeId × Value → H) (W : World) (base : Nat) (v0 v1 v2 : Value) (d0 d1 d2 : DataW H) (p0 p1 p2 : List MemPlace) (o0 : Value.okWide Tryz.prog W .any base 34 v0) (o1 : Value.okWide Tryz.prog W .any base 3 v1) (o2 : Value.okWide Tryz.prog W .any base 3 v2)
    (h0 : DataW.Trod enc Tryz.prog W 0 (fun _ => true) true 34 v0 d0 p0) (h1 : DataW.Trod enc Tryz.prog W 0 (fun _ => true) true 3 v1 d1 p1) (h2 : DataW.Trod enc Tryz.prog W 0 (fun _ => true) true 3 v2 d2 p2) (q0 : Wt Tryz.prog 34 d0) (q1 : Wt Tryz.prog 3 d1) (q2 : Wt Tryz.prog 3 d2) (hu : WT W) :
    Calls Tryz.prog 4 #[v0, v1, v2] W fun e W' => e = .returned (.bool true) ∧ Below W.heap.size W W' := by
  obtain ⟨ss, hS⟩ := Stp.open_steps o0 h0
  obtain ⟨a, rfl, _, _, wa⟩ := Go.ChangeShapes.open_int Tryz.underlying3 o1 h1
  obtain ⟨b, rfl, _, _, wb⟩ := Go.ChangeShapes.open_int Tryz.underlying3 o2 h2
  exact Stp.aorders_any v0 ss a b W hS hu
end Go.Proofs.YtpnogmicfomofaaGreatDoor
