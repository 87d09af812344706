/-
  No cell of these rows narrows 'for every input' (looked for: loops, veiled, ifaces, maps, wideKeys, modest, calm, conditions, laid).
  DERIVED. THE GIVEN ROWS OF THIS SEAT. 7 by the template 'for every input the law returns true; each argument reads behind the call as it read before'; 0 by the template 'total and deterministic' (their statements: YtlhekldlfmdmiaaTotals.lean).
  GIVEN WITH THE SEED: the statements are not yours to turn. If you find one false, say at which input.
  Laid BY PROGRAM, IN A SANDBOX (cutbox-rows.mjs): the forced cells as the released guide's own fill.sh prints them over the translation 5cde1ef9a6723e83… (all of the seat's roots in one cut). By AI agents, Wed Nov 11 2026. No macro, syntax, notation, axiom, sorry.
-/
import Derived.Test.YtlhekldlfmdmiaaChecked
import GoSem.Claim
import GoSem.ClaimJoined
import GoSem.ClaimMapViews
import Derived.JoinedTies
import Derived.KernelRfl
namespace Go.Proofs.Ytlhekldlfmdmiaa
/- THE CELL 'sum', in the pinned program and in every row, IS THE sha256 OF THE DUMP (.gsa) THAT YtlhekldlfmdmiaaProg.lean LOADS. Nothing in Lean hashes anything: it is a label: what it is worth is what the hold of that sum in a sandbox is worth. -/
noncomputable def Try.pinned : Pinned := { name := "ytlhekldlfmdmiaa", sum := "5cde1ef9a6723e8357e51c00df9a60aa3c4acf58292b526d9d04cd37194749e5", checked := Try.checked }
namespace Rows
def none {H : Type} : Left H := { results := [], args := [] }

/-- 'provisionlaw27.GraphOrders': WHATEVER THE INPUT: true; the input reads as it did. -/
def graphOrdersSpec : ChangeSpec := { name := "graphOrders", fn := fun _ => fun
  | [d] => { results := [.lit (.bool true)], args := [d] }
  | _ => none }
def graphOrdersRow : OpenClaim := { program := "ytlhekldlfmdmiaa", sum := "5cde1ef9a6723e8357e51c00df9a60aa3c4acf58292b526d9d04cd37194749e5", func := "provision/provisionlaw27.GraphOrders", spec := "graphOrders", inPlace := ["internal/bytealg.abigen_runtime_cmpstring", "slices.overlaps[string]"], unfollowed := true, recurses := true, plainKeys := false, apart := false }
def GraphOrdersSaid : Prop := graphOrdersRow.holds Try.pinned (OpenSpec.ofChange graphOrdersSpec)

/-- ITS FALSE NEIGHBOUR: 'it returns false'. Refute it at one input. -/
def graphOrdersWrong : ChangeSpec := { name := "graphOrders", fn := fun _ => fun
  | [d] => { results := [.lit (.bool false)], args := [d] }
  | _ => none }
def GraphOrdersWrongFalsely : Prop := graphOrdersRow.holds Try.pinned (OpenSpec.ofChange graphOrdersWrong)

/-- 'provisionlaw27.GraphShapes': WHATEVER THE INPUT: true; the input reads as it did. -/
def graphShapesSpec : ChangeSpec := { name := "graphShapes", fn := fun _ => fun
  | [d1, d2] => { results := [.lit (.bool true)], args := [d1, d2] }
  | _ => none }
def graphShapesRow : OpenClaim := { program := "ytlhekldlfmdmiaa", sum := "5cde1ef9a6723e8357e51c00df9a60aa3c4acf58292b526d9d04cd37194749e5", func := "provision/provisionlaw27.GraphShapes", spec := "graphShapes", inPlace := ["internal/bytealg.abigen_runtime_cmpstring", "slices.overlaps[string]"], unfollowed := true, recurses := true, plainKeys := false, apart := false }
def GraphShapesSaid : Prop := graphShapesRow.holds Try.pinned (OpenSpec.ofChange graphShapesSpec)

/-- ITS FALSE NEIGHBOUR: 'it returns false'. Refute it at one input. -/
def graphShapesWrong : ChangeSpec := { name := "graphShapes", fn := fun _ => fun
  | [d1, d2] => { results := [.lit (.bool false)], args := [d1, d2] }
  | _ => none }
def GraphShapesWrongFalsely : Prop := graphShapesRow.holds Try.pinned (OpenSpec.ofChange graphShapesWrong)

/-- 'provisionlaw27.GraphOrder': WHATEVER THE INPUT: true; the input reads as it did. -/
def graphOrderSpec : ChangeSpec := { name := "graphOrder", fn := fun _ => fun
  | [d] => { results := [.lit (.bool true)], args := [d] }
  | _ => none }
def graphOrderRow : OpenClaim := { program := "ytlhekldlfmdmiaa", sum := "5cde1ef9a6723e8357e51c00df9a60aa3c4acf58292b526d9d04cd37194749e5", func := "provision/provisionlaw27.GraphOrder", spec := "graphOrder", inPlace := ["internal/bytealg.abigen_runtime_cmpstring", "slices.overlaps[string]"], unfollowed := true, recurses := true, plainKeys := false, apart := false }
def GraphOrderSaid : Prop := graphOrderRow.holds Try.pinned (OpenSpec.ofChange graphOrderSpec)

/-- ITS FALSE NEIGHBOUR: 'it returns false'. Refute it at one input. -/
def graphOrderWrong : ChangeSpec := { name := "graphOrder", fn := fun _ => fun
  | [d] => { results := [.lit (.bool false)], args := [d] }
  | _ => none }
def GraphOrderWrongFalsely : Prop := graphOrderRow.holds Try.pinned (OpenSpec.ofChange graphOrderWrong)

/-- 'provisionlaw27.GraphBuilds': WHATEVER THE INPUT: true; the input reads as it did. -/
def graphBuildsSpec : ChangeSpec := { name := "graphBuilds", fn := fun _ => fun
  | [d1, d2] => { results := [.lit (.bool true)], args := [d1, d2] }
  | _ => none }
def graphBuildsRow : OpenClaim := { program := "ytlhekldlfmdmiaa", sum := "5cde1ef9a6723e8357e51c00df9a60aa3c4acf58292b526d9d04cd37194749e5", func := "provision/provisionlaw27.GraphBuilds", spec := "graphBuilds", inPlace := ["internal/bytealg.abigen_runtime_cmpstring", "slices.overlaps[string]"], unfollowed := true, recurses := true, plainKeys := false, apart := false }
def GraphBuildsSaid : Prop := graphBuildsRow.holds Try.pinned (OpenSpec.ofChange graphBuildsSpec)

/-- ITS FALSE NEIGHBOUR: 'it returns false'. Refute it at one input. -/
def graphBuildsWrong : ChangeSpec := { name := "graphBuilds", fn := fun _ => fun
  | [d1, d2] => { results := [.lit (.bool false)], args := [d1, d2] }
  | _ => none }
def GraphBuildsWrongFalsely : Prop := graphBuildsRow.holds Try.pinned (OpenSpec.ofChange graphBuildsWrong)

/-- 'provisionlaw27.GraphMany': WHATEVER THE INPUT: true; the input reads as it did. -/
def graphManySpec : ChangeSpec := { name := "graphMany", fn := fun _ => fun
  | [d] => { results := [.lit (.bool true)], args := [d] }
  | _ => none }
def graphManyRow : OpenClaim := { program := "ytlhekldlfmdmiaa", sum := "5cde1ef9a6723e8357e51c00df9a60aa3c4acf58292b526d9d04cd37194749e5", func := "provision/provisionlaw27.GraphMany", spec := "graphMany", inPlace := ["internal/bytealg.abigen_runtime_cmpstring", "slices.overlaps[string]"], unfollowed := true, recurses := true, plainKeys := false, apart := false }
def GraphManySaid : Prop := graphManyRow.holds Try.pinned (OpenSpec.ofChange graphManySpec)

/-- ITS FALSE NEIGHBOUR: 'it returns false'. Refute it at one input. -/
def graphManyWrong : ChangeSpec := { name := "graphMany", fn := fun _ => fun
  | [d] => { results := [.lit (.bool false)], args := [d] }
  | _ => none }
def GraphManyWrongFalsely : Prop := graphManyRow.holds Try.pinned (OpenSpec.ofChange graphManyWrong)

/-- 'provisionlaw27.GraphReduces': WHATEVER THE INPUT: true; the input reads as it did. -/
def graphReducesSpec : ChangeSpec := { name := "graphReduces", fn := fun _ => fun
  | [d] => { results := [.lit (.bool true)], args := [d] }
  | _ => none }
def graphReducesRow : OpenClaim := { program := "ytlhekldlfmdmiaa", sum := "5cde1ef9a6723e8357e51c00df9a60aa3c4acf58292b526d9d04cd37194749e5", func := "provision/provisionlaw27.GraphReduces", spec := "graphReduces", inPlace := ["internal/bytealg.abigen_runtime_cmpstring", "slices.overlaps[string]"], unfollowed := true, recurses := true, plainKeys := false, apart := false }
def GraphReducesSaid : Prop := graphReducesRow.holds Try.pinned (OpenSpec.ofChange graphReducesSpec)

/-- ITS FALSE NEIGHBOUR: 'it returns false'. Refute it at one input. -/
def graphReducesWrong : ChangeSpec := { name := "graphReduces", fn := fun _ => fun
  | [d] => { results := [.lit (.bool false)], args := [d] }
  | _ => none }
def GraphReducesWrongFalsely : Prop := graphReducesRow.holds Try.pinned (OpenSpec.ofChange graphReducesWrong)

/-- 'provisionlaw27.GraphReverses': WHATEVER THE INPUT: true; the input reads as it did. -/
def graphReversesSpec : ChangeSpec := { name := "graphReverses", fn := fun _ => fun
  | [d1, d2, d3] => { results := [.lit (.bool true)], args := [d1, d2, d3] }
  | _ => none }
def graphReversesRow : OpenClaim := { program := "ytlhekldlfmdmiaa", sum := "5cde1ef9a6723e8357e51c00df9a60aa3c4acf58292b526d9d04cd37194749e5", func := "provision/provisionlaw27.GraphReverses", spec := "graphReverses", inPlace := ["internal/bytealg.abigen_runtime_cmpstring", "slices.overlaps[string]"], unfollowed := true, recurses := true, plainKeys := false, apart := false }
def GraphReversesSaid : Prop := graphReversesRow.holds Try.pinned (OpenSpec.ofChange graphReversesSpec)

/-- ITS FALSE NEIGHBOUR: 'it returns false'. Refute it at one input. -/
def graphReversesWrong : ChangeSpec := { name := "graphReverses", fn := fun _ => fun
  | [d1, d2, d3] => { results := [.lit (.bool false)], args := [d1, d2, d3] }
  | _ => none }
def GraphReversesWrongFalsely : Prop := graphReversesRow.holds Try.pinned (OpenSpec.ofChange graphReversesWrong)

/- THE SECOND FORM. 'bulk': how many values and letters a reading holds, each counted each time it is reached (what is shared counts as often as it is met; a slice's spare places count too). A statement '..UptoSaid' is the law's where the arguments, and the package variables that the reading takes, are together of bulk at most 1048576: NARROWER than '..Said'. Prove '..Said' where nothing that the law and all that it calls make is longer than what came in: it says more and counts as full. Else prove '..UptoSaid'. A law counts once. -/
mutual
def uptoBulk {H : Type} : DataW H → Nat
  | .lit (.string bytes) => bytes.length + 1
  | .lit _ => 1
  | .nil => 1
  | .ptr d => uptoBulk d + 1
  | .slice elems spare => uptoBulkAll elems + uptoBulkAll spare + 1
  | .agg parts => uptoBulkAll parts + 1
  | .iface _ d => uptoBulk d + 1
  | .map entries => uptoBulkEntries entries + 1
  | .held _ => 1
def uptoBulkAll {H : Type} : List (DataW H) → Nat
  | [] => 0
  | d :: r => uptoBulk d + uptoBulkAll r
def uptoBulkEntries {H : Type} : List (Lit × DataW H) → Nat
  | [] => 0
  | x :: r => uptoBulkEntry x + uptoBulkEntries r
def uptoBulkEntry {H : Type} : Lit × DataW H → Nat
  | (.string bytes, d) => bytes.length + uptoBulk d + 1
  | (_, d) => uptoBulk d + 1
 end
def uptoSmall : (H : Type) → List (DataW H) → Bool := fun _ ds => decide (uptoBulkAll ds ≤ 1048576)
def OpenSpec.upto (s : _root_.Go.ChangeSpec) : _root_.Go.OpenSpec := { _root_.Go.OpenSpec.ofChange s with cond := some uptoSmall }

/-- 'provisionlaw27.GraphOrders', WHERE WHAT IT READS IS OF BULK AT MOST 1048576: true; the input reads as it did. -/
def graphOrdersUptoRow : OpenClaim := { program := "ytlhekldlfmdmiaa", sum := "5cde1ef9a6723e8357e51c00df9a60aa3c4acf58292b526d9d04cd37194749e5", func := "provision/provisionlaw27.GraphOrders", spec := "graphOrders", inPlace := ["internal/bytealg.abigen_runtime_cmpstring", "slices.overlaps[string]"], unfollowed := true, recurses := true, plainKeys := false, apart := false, narrowed := true }
def GraphOrdersUptoSaid : Prop := graphOrdersUptoRow.holds Try.pinned (OpenSpec.upto graphOrdersSpec)

/-- 'provisionlaw27.GraphShapes', WHERE WHAT IT READS IS OF BULK AT MOST 1048576: true; the input reads as it did. -/
def graphShapesUptoRow : OpenClaim := { program := "ytlhekldlfmdmiaa", sum := "5cde1ef9a6723e8357e51c00df9a60aa3c4acf58292b526d9d04cd37194749e5", func := "provision/provisionlaw27.GraphShapes", spec := "graphShapes", inPlace := ["internal/bytealg.abigen_runtime_cmpstring", "slices.overlaps[string]"], unfollowed := true, recurses := true, plainKeys := false, apart := false, narrowed := true }
def GraphShapesUptoSaid : Prop := graphShapesUptoRow.holds Try.pinned (OpenSpec.upto graphShapesSpec)

/-- 'provisionlaw27.GraphOrder', WHERE WHAT IT READS IS OF BULK AT MOST 1048576: true; the input reads as it did. -/
def graphOrderUptoRow : OpenClaim := { program := "ytlhekldlfmdmiaa", sum := "5cde1ef9a6723e8357e51c00df9a60aa3c4acf58292b526d9d04cd37194749e5", func := "provision/provisionlaw27.GraphOrder", spec := "graphOrder", inPlace := ["internal/bytealg.abigen_runtime_cmpstring", "slices.overlaps[string]"], unfollowed := true, recurses := true, plainKeys := false, apart := false, narrowed := true }
def GraphOrderUptoSaid : Prop := graphOrderUptoRow.holds Try.pinned (OpenSpec.upto graphOrderSpec)

/-- 'provisionlaw27.GraphBuilds', WHERE WHAT IT READS IS OF BULK AT MOST 1048576: true; the input reads as it did. -/
def graphBuildsUptoRow : OpenClaim := { program := "ytlhekldlfmdmiaa", sum := "5cde1ef9a6723e8357e51c00df9a60aa3c4acf58292b526d9d04cd37194749e5", func := "provision/provisionlaw27.GraphBuilds", spec := "graphBuilds", inPlace := ["internal/bytealg.abigen_runtime_cmpstring", "slices.overlaps[string]"], unfollowed := true, recurses := true, plainKeys := false, apart := false, narrowed := true }
def GraphBuildsUptoSaid : Prop := graphBuildsUptoRow.holds Try.pinned (OpenSpec.upto graphBuildsSpec)

/-- 'provisionlaw27.GraphMany', WHERE WHAT IT READS IS OF BULK AT MOST 1048576: true; the input reads as it did. -/
def graphManyUptoRow : OpenClaim := { program := "ytlhekldlfmdmiaa", sum := "5cde1ef9a6723e8357e51c00df9a60aa3c4acf58292b526d9d04cd37194749e5", func := "provision/provisionlaw27.GraphMany", spec := "graphMany", inPlace := ["internal/bytealg.abigen_runtime_cmpstring", "slices.overlaps[string]"], unfollowed := true, recurses := true, plainKeys := false, apart := false, narrowed := true }
def GraphManyUptoSaid : Prop := graphManyUptoRow.holds Try.pinned (OpenSpec.upto graphManySpec)

/-- 'provisionlaw27.GraphReduces', WHERE WHAT IT READS IS OF BULK AT MOST 1048576: true; the input reads as it did. -/
def graphReducesUptoRow : OpenClaim := { program := "ytlhekldlfmdmiaa", sum := "5cde1ef9a6723e8357e51c00df9a60aa3c4acf58292b526d9d04cd37194749e5", func := "provision/provisionlaw27.GraphReduces", spec := "graphReduces", inPlace := ["internal/bytealg.abigen_runtime_cmpstring", "slices.overlaps[string]"], unfollowed := true, recurses := true, plainKeys := false, apart := false, narrowed := true }
def GraphReducesUptoSaid : Prop := graphReducesUptoRow.holds Try.pinned (OpenSpec.upto graphReducesSpec)

/-- 'provisionlaw27.GraphReverses', WHERE WHAT IT READS IS OF BULK AT MOST 1048576: true; the input reads as it did. -/
def graphReversesUptoRow : OpenClaim := { program := "ytlhekldlfmdmiaa", sum := "5cde1ef9a6723e8357e51c00df9a60aa3c4acf58292b526d9d04cd37194749e5", func := "provision/provisionlaw27.GraphReverses", spec := "graphReverses", inPlace := ["internal/bytealg.abigen_runtime_cmpstring", "slices.overlaps[string]"], unfollowed := true, recurses := true, plainKeys := false, apart := false, narrowed := true }
def GraphReversesUptoSaid : Prop := graphReversesUptoRow.holds Try.pinned (OpenSpec.upto graphReversesSpec)

end Rows
end Go.Proofs.Ytlhekldlfmdmiaa
