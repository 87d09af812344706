import Derived.Test.YtlhekldlfmdmiaaRvl
import Derived.Test.YtlhekldlfmdmiaaGop
/-
  GraphReverses from the row's reading. Conditions: those ahead of the theorem.
-/
namespace Go.Proofs.Ytlhekldlfmdmiaa
open Go.ChangeShapes Go.WideShapes Go.ChangeAt Go.RowKit
set_option linter.unusedVariables false
set_option linter.unusedSimpArgs false

set_option maxRecDepth 100000 in
theorem greverses_from (H : Type) (enc : TypeId × Value → H) (W : World) (base : Nat) (v0 v1 v2 : Value) (d0 d1 d2 : DataW H) (p0 p1 p2 : List MemPlace)
    (o0 : Value.okWide Try.prog W .any base 25 v0) (o1 : Value.okWide Try.prog W .any base 9 v1) (o2 : Value.okWide Try.prog W .any base 9 v2)
    (h0 : DataW.Trod enc Try.prog W 0 (fun _ => true) true 25 v0 d0 p0) (h1 : DataW.Trod enc Try.prog W 0 (fun _ => true) true 9 v1 d1 p1) (h2 : DataW.Trod enc Try.prog W 0 (fun _ => true) true 9 v2 d2 p2) :
    Calls Try.prog 9 #[v0, v1, v2] W fun e W' => e = .returned (.bool true) ∧ Below W.heap.size W W' := by
  obtain ⟨vn, ve, ns, es, rfl, hN, hS⟩ := open_graph o0 h0
  obtain ⟨a, rfl, ha⟩ := open_string o1 h1
  obtain ⟨b, rfl, hb⟩ := open_string o2 h2
  exact reverses_any vn ve ns es a b W hN hS ha hb
end Go.Proofs.Ytlhekldlfmdmiaa
