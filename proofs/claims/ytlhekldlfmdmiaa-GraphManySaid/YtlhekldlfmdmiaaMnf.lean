import Derived.Test.YtlhekldlfmdmiaaMn
import Derived.WalkKit
import Derived.ProofKit
import Derived.OpenShut
/-
  GraphMany from the row's reading. Conditions: those ahead of each theorem.
-/
namespace Go.Proofs.Ytlhekldlfmdmiaa
open Go.ChangeShapes Go.WideShapes Go.ChangeAt Go.RowKit
set_option linter.unusedVariables false
set_option linter.unusedSimpArgs false

set_option maxRecDepth 100000 in
theorem open_u16 {H : Type} {enc : TypeId × Value → H} {W : World} {base : Nat} {v : Value} {d : DataW H} {p : List MemPlace} (o : Value.okWide Try.prog W .any base 47 v) (h : DataW.Trod enc Try.prog W 0 (fun _ => true) true 47 v d p) : ∃ n : Nat, n ≤ 65535 ∧ v = .int .u16 n := by
  obtain ⟨x, rfl, _, _, wx⟩ := Go.ChangeShapes.open_int Try.underlying47 o h
  have : 0 ≤ x ∧ x ≤ 65535 := by simpa [Lit.wf, IntKind.min, IntKind.max, IntKind.bits, IntKind.signed] using wx
  refine ⟨x.toNat, by omega, ?_⟩
  rw [Int.toNat_of_nonneg this.1]

set_option maxRecDepth 100000 in
theorem graphMany_from (H : Type) (enc : TypeId × Value → H) (W : World) (base : Nat) (v0 : Value) (d0 : DataW H) (p0 : List MemPlace)
    (o0 : Value.okWide Try.prog W .any base 47 v0) (h0 : DataW.Trod enc Try.prog W 0 (fun _ => true) true 47 v0 d0 p0) :
    Calls Try.prog 7 #[v0] W fun e W' => e = .returned (.bool true) ∧ Below W.heap.size W W' := by
  obtain ⟨n, hn, rfl⟩ := open_u16 o0 h0
  exact many_any n (by omega) W
end Go.Proofs.Ytlhekldlfmdmiaa
