import Derived.Test.YtlhekldlfmdmiaaLbd
import Derived.Test.YtlhekldlfmdmiaaGop
/-
  GraphBuilds from the row's reading. Conditions: those ahead of the theorem.
-/
namespace Go.Proofs.Ytlhekldlfmdmiaa
open Go.ChangeShapes Go.WideShapes Go.ChangeAt Go.RowKit
set_option linter.unusedVariables false
set_option linter.unusedSimpArgs false

set_option maxRecDepth 100000 in
theorem gbuilds_from (H : Type) (enc : TypeId × Value → H) (W : World) (base : Nat) (v0 v1 : Value) (d0 d1 : DataW H) (p0 p1 : List MemPlace)
    (o0 : Value.okWide Try.prog W .any base 22 v0) (o1 : Value.okWide Try.prog W .any base 23 v1)
    (h0 : DataW.Trod enc Try.prog W 0 (fun _ => true) true 22 v0 d0 p0) (h1 : DataW.Trod enc Try.prog W 0 (fun _ => true) true 23 v1 d1 p1) :
    Calls Try.prog 6 #[v0, v1] W fun e W' => e = .returned (.bool true) ∧ Below W.heap.size W W' := by
  obtain ⟨ns, hN⟩ := open_strs o0 h0
  obtain ⟨es, hS⟩ := open_edges o1 h1
  exact gbuilds_any v0 v1 ns es W hN hS
end Go.Proofs.Ytlhekldlfmdmiaa
