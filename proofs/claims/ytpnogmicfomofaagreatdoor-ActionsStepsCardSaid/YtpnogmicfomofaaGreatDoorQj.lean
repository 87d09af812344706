import Derived.Test.YtpnogmicfomofaaGreatDoorQg
import Derived.Test.YtpnogmicfomofaaGreatDoorQo
import Derived.Test.YtpnogmicfomofaaGreatDoorFo
/-
  Layer 44: ActionsSteps at any arguments. Conditions: the readings.
-/
namespace Go.Proofs.YtpnogmicfomofaaGreatDoor
open Go.RowKit Go.Sort Go.ChangeShapes Go.WideShapes Go.ChangeAt
open Adr (WT)
set_option linter.unusedVariables false
set_option linter.unusedSimpArgs false

set_option maxRecDepth 100000 in
theorem steps_from (H : Type) (enc : TypeId × Value → H) (W : World) (base : Nat) (v0 v1 : Value) (d0 d1 : DataW H) (p0 p1 : List MemPlace) (o0 : Value.okWide Tryz.prog W .any base 22 v0) (o1 : Value.okWide Tryz.prog W .any base 34 v1)
    (h0 : DataW.Trod enc Tryz.prog W 0 (fun _ => true) true 22 v0 d0 p0) (h1 : DataW.Trod enc Tryz.prog W 0 (fun _ => true) true 34 v1 d1 p1) (q0 : Wt Tryz.prog 22 d0) (q1 : Wt Tryz.prog 34 d1) (hu : WT W) :
    Calls Tryz.prog 7 #[v0, v1] W fun e W' => e = .returned (.bool true) ∧ Below W.heap.size W W' := by
  obtain ⟨cs, hS⟩ := Stp.open_changes o0 h0
  obtain ⟨ss, hX⟩ := Stp.open_steps o1 h1
  exact Stp.asteps_any v0 v1 cs ss W hS hX hu
end Go.Proofs.YtpnogmicfomofaaGreatDoor
