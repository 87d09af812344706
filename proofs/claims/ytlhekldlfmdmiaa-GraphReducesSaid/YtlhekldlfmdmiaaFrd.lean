import Derived.Test.YtlhekldlfmdmiaaRdl
import Derived.Test.YtlhekldlfmdmiaaGop
/-
  GraphReduces from the row's reading. Conditions: those ahead of the theorem.
-/
namespace Go.Proofs.Ytlhekldlfmdmiaa
open Go.ChangeShapes Go.WideShapes Go.ChangeAt Go.RowKit
set_option linter.unusedVariables false
set_option linter.unusedSimpArgs false

set_option maxRecDepth 100000 in
theorem greduces_from (H : Type) (enc : TypeId × Value → H) (W : World) (base : Nat) (v0 : Value) (d0 : DataW H) (p0 : List MemPlace)
    (o0 : Value.okWide Try.prog W .any base 25 v0) (h0 : DataW.Trod enc Try.prog W 0 (fun _ => true) true 25 v0 d0 p0) :
    Calls Try.prog 8 #[v0] W fun e W' => e = .returned (.bool true) ∧ Below W.heap.size W W' := by
  obtain ⟨vn, ve, ns, es, rfl, hN, hS⟩ := open_graph o0 h0
  exact reduces_any vn ve ns es W hN hS
end Go.Proofs.Ytlhekldlfmdmiaa
