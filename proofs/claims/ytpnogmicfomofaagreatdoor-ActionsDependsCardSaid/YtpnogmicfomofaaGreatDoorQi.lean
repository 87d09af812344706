import Derived.Test.YtpnogmicfomofaaGreatDoorQh
import Derived.Test.YtpnogmicfomofaaGreatDoorQo
import Derived.Test.YtpnogmicfomofaaGreatDoorFt
/-
  Layer 44: ActionsDepends at any argument. Conditions: the readings.
-/
namespace Go.Proofs.YtpnogmicfomofaaGreatDoor
open Go.RowKit Go.Sort Go.ChangeShapes Go.WideShapes Go.ChangeAt
open Adr (WT)
set_option linter.unusedVariables false
set_option linter.unusedSimpArgs false

set_option maxRecDepth 100000 in
theorem depends_from (H : Type) (enc : TypeId × Value → H) (W : World) (base : Nat) (v0 : Value) (d0 : DataW H) (p0 : List MemPlace) (o0 : Value.okWide Tryz.prog W .any base 22 v0)
    (h0 : DataW.Trod enc Tryz.prog W 0 (fun _ => true) true 22 v0 d0 p0) (q0 : Wt Tryz.prog 22 d0) (hu : WT W) :
    Calls Tryz.prog 5 #[v0] W fun e W' => e = .returned (.bool true) ∧ Below W.heap.size W W' := by
  obtain ⟨cs, hS⟩ := Stp.open_changes o0 h0
  exact Stp.adepends_any v0 cs W hS hu
end Go.Proofs.YtpnogmicfomofaaGreatDoor
