/-
  No cell of these rows narrows 'for every input' (looked for: loops, veiled, ifaces, maps, wideKeys, modest, calm, conditions, laid).
  DERIVED. THE GIVEN ROWS OF THIS SEAT. 5 by the template 'for every input the law returns true; each argument reads behind the call as it read before'; 0 by the template 'total and deterministic' (their statements: YtngoeikdlbccoaaTotals.lean).
  GIVEN WITH THE SEED: the statements are not yours to turn. If you find one false, say at which input.
  Laid BY PROGRAM, IN A SANDBOX (cutbox-rows.mjs): the forced cells as the released guide's own fill.sh prints them over the translation 2e12228cccf7b9f9… (all of the seat's roots in one cut). By AI agents, Wed Nov 11 2026. No macro, syntax, notation, axiom, sorry.
-/
import Derived.Test.YtngoeikdlbccoaaChecked
import GoSem.Claim
import GoSem.ClaimJoined
import GoSem.ClaimMapViews
import Derived.JoinedTies
import Derived.KernelRfl
namespace Go.Proofs.Ytngoeikdlbccoaa
/- THE CELL 'sum', in the pinned program and in every row, IS THE sha256 OF THE DUMP (.gsa) THAT YtngoeikdlbccoaaProg.lean LOADS. Nothing in Lean hashes anything: it is a label: what it is worth is what the hold of that sum in a sandbox is worth. -/
noncomputable def Try.pinned : Pinned := { name := "ytngoeikdlbccoaa", sum := "2e12228cccf7b9f91f60a819129ed08151bef8c28ac7b02ce0b6638e90e23969", checked := Try.checked }
namespace Rows
def none {H : Type} : Left H := { results := [], args := [] }

/-- 'provisionlaw37.RetryChecks': WHATEVER THE INPUT: true; the input reads as it did. -/
def retryChecksSpec : ChangeSpec := { name := "retryChecks", fn := fun _ => fun
  | [d1, d2] => { results := [.lit (.bool true)], args := [d1, d2] }
  | _ => none }
def retryChecksRow : OpenClaim := { program := "ytngoeikdlbccoaa", sum := "2e12228cccf7b9f91f60a819129ed08151bef8c28ac7b02ce0b6638e90e23969", func := "provision/provisionlaw37.RetryChecks", spec := "retryChecks", apart := false }
def RetryChecksSaid : Prop := retryChecksRow.holds Try.pinned (OpenSpec.ofChange retryChecksSpec)

/-- ITS FALSE NEIGHBOUR: 'it returns false'. Refute it at one input. -/
def retryChecksWrong : ChangeSpec := { name := "retryChecks", fn := fun _ => fun
  | [d1, d2] => { results := [.lit (.bool false)], args := [d1, d2] }
  | _ => none }
def RetryChecksWrongFalsely : Prop := retryChecksRow.holds Try.pinned (OpenSpec.ofChange retryChecksWrong)

/-- 'provisionlaw37.RetryDelays': WHATEVER THE INPUT: true; the input reads as it did. -/
def retryDelaysSpec : ChangeSpec := { name := "retryDelays", fn := fun _ => fun
  | [d1, d2] => { results := [.lit (.bool true)], args := [d1, d2] }
  | _ => none }
def retryDelaysRow : OpenClaim := { program := "ytngoeikdlbccoaa", sum := "2e12228cccf7b9f91f60a819129ed08151bef8c28ac7b02ce0b6638e90e23969", func := "provision/provisionlaw37.RetryDelays", spec := "retryDelays", apart := false }
def RetryDelaysSaid : Prop := retryDelaysRow.holds Try.pinned (OpenSpec.ofChange retryDelaysSpec)

/-- ITS FALSE NEIGHBOUR: 'it returns false'. Refute it at one input. -/
def retryDelaysWrong : ChangeSpec := { name := "retryDelays", fn := fun _ => fun
  | [d1, d2] => { results := [.lit (.bool false)], args := [d1, d2] }
  | _ => none }
def RetryDelaysWrongFalsely : Prop := retryDelaysRow.holds Try.pinned (OpenSpec.ofChange retryDelaysWrong)

/-- 'provisionlaw37.RetryAgain': WHATEVER THE INPUT: true; the input reads as it did. -/
def retryAgainSpec : ChangeSpec := { name := "retryAgain", fn := fun _ => fun
  | [d1, d2, d3] => { results := [.lit (.bool true)], args := [d1, d2, d3] }
  | _ => none }
def retryAgainRow : OpenClaim := { program := "ytngoeikdlbccoaa", sum := "2e12228cccf7b9f91f60a819129ed08151bef8c28ac7b02ce0b6638e90e23969", func := "provision/provisionlaw37.RetryAgain", spec := "retryAgain", apart := false }
def RetryAgainSaid : Prop := retryAgainRow.holds Try.pinned (OpenSpec.ofChange retryAgainSpec)

/-- ITS FALSE NEIGHBOUR: 'it returns false'. Refute it at one input. -/
def retryAgainWrong : ChangeSpec := { name := "retryAgain", fn := fun _ => fun
  | [d1, d2, d3] => { results := [.lit (.bool false)], args := [d1, d2, d3] }
  | _ => none }
def RetryAgainWrongFalsely : Prop := retryAgainRow.holds Try.pinned (OpenSpec.ofChange retryAgainWrong)

/-- 'provisionlaw37.RetryBounds': WHATEVER THE INPUT: true; the input reads as it did. -/
def retryBoundsSpec : ChangeSpec := { name := "retryBounds", fn := fun _ => fun
  | [d] => { results := [.lit (.bool true)], args := [d] }
  | _ => none }
def retryBoundsRow : OpenClaim := { program := "ytngoeikdlbccoaa", sum := "2e12228cccf7b9f91f60a819129ed08151bef8c28ac7b02ce0b6638e90e23969", func := "provision/provisionlaw37.RetryBounds", spec := "retryBounds", apart := false }
def RetryBoundsSaid : Prop := retryBoundsRow.holds Try.pinned (OpenSpec.ofChange retryBoundsSpec)

/-- ITS FALSE NEIGHBOUR: 'it returns false'. Refute it at one input. -/
def retryBoundsWrong : ChangeSpec := { name := "retryBounds", fn := fun _ => fun
  | [d] => { results := [.lit (.bool false)], args := [d] }
  | _ => none }
def RetryBoundsWrongFalsely : Prop := retryBoundsRow.holds Try.pinned (OpenSpec.ofChange retryBoundsWrong)

/-- 'provisionlaw37.RetryEnds': WHATEVER THE INPUT: true; the input reads as it did. -/
def retryEndsSpec : ChangeSpec := { name := "retryEnds", fn := fun _ => fun
  | [d1, d2] => { results := [.lit (.bool true)], args := [d1, d2] }
  | _ => none }
def retryEndsRow : OpenClaim := { program := "ytngoeikdlbccoaa", sum := "2e12228cccf7b9f91f60a819129ed08151bef8c28ac7b02ce0b6638e90e23969", func := "provision/provisionlaw37.RetryEnds", spec := "retryEnds", apart := false }
def RetryEndsSaid : Prop := retryEndsRow.holds Try.pinned (OpenSpec.ofChange retryEndsSpec)

/-- ITS FALSE NEIGHBOUR: 'it returns false'. Refute it at one input. -/
def retryEndsWrong : ChangeSpec := { name := "retryEnds", fn := fun _ => fun
  | [d1, d2] => { results := [.lit (.bool false)], args := [d1, d2] }
  | _ => none }
def RetryEndsWrongFalsely : Prop := retryEndsRow.holds Try.pinned (OpenSpec.ofChange retryEndsWrong)

/- THE SECOND FORM. 'bulk': how many values and letters a reading holds, each counted each time it is reached (what is shared counts as often as it is met; a slice's spare places count too). A statement '..UptoSaid' is the law's where the arguments, and the package variables that the reading takes, are together of bulk at most 1048576: NARROWER than '..Said'. Prove '..Said' where nothing that the law and all that it calls make is longer than what came in: it says more and counts as full. Else prove '..UptoSaid'. A law counts once. -/
mutual
def uptoBulk {H : Type} : DataW H → Nat
  | .lit (.string bytes) => bytes.length + 1
  | .lit _ => 1
  | .nil => 1
  | .ptr d => uptoBulk d + 1
  | .slice elems spare => uptoBulkAll elems + uptoBulkAll spare + 1
  | .agg parts => uptoBulkAll parts + 1
  | .iface _ d => uptoBulk d + 1
  | .map entries => uptoBulkEntries entries + 1
  | .held _ => 1
def uptoBulkAll {H : Type} : List (DataW H) → Nat
  | [] => 0
  | d :: r => uptoBulk d + uptoBulkAll r
def uptoBulkEntries {H : Type} : List (Lit × DataW H) → Nat
  | [] => 0
  | x :: r => uptoBulkEntry x + uptoBulkEntries r
def uptoBulkEntry {H : Type} : Lit × DataW H → Nat
  | (.string bytes, d) => bytes.length + uptoBulk d + 1
  | (_, d) => uptoBulk d + 1
 end
def uptoSmall : (H : Type) → List (DataW H) → Bool := fun _ ds => decide (uptoBulkAll ds ≤ 1048576)
def OpenSpec.upto (s : _root_.Go.ChangeSpec) : _root_.Go.OpenSpec := { _root_.Go.OpenSpec.ofChange s with cond := some uptoSmall }

/-- 'provisionlaw37.RetryChecks', WHERE WHAT IT READS IS OF BULK AT MOST 1048576: true; the input reads as it did. -/
def retryChecksUptoRow : OpenClaim := { program := "ytngoeikdlbccoaa", sum := "2e12228cccf7b9f91f60a819129ed08151bef8c28ac7b02ce0b6638e90e23969", func := "provision/provisionlaw37.RetryChecks", spec := "retryChecks", apart := false, narrowed := true }
def RetryChecksUptoSaid : Prop := retryChecksUptoRow.holds Try.pinned (OpenSpec.upto retryChecksSpec)

/-- 'provisionlaw37.RetryDelays', WHERE WHAT IT READS IS OF BULK AT MOST 1048576: true; the input reads as it did. -/
def retryDelaysUptoRow : OpenClaim := { program := "ytngoeikdlbccoaa", sum := "2e12228cccf7b9f91f60a819129ed08151bef8c28ac7b02ce0b6638e90e23969", func := "provision/provisionlaw37.RetryDelays", spec := "retryDelays", apart := false, narrowed := true }
def RetryDelaysUptoSaid : Prop := retryDelaysUptoRow.holds Try.pinned (OpenSpec.upto retryDelaysSpec)

/-- 'provisionlaw37.RetryAgain', WHERE WHAT IT READS IS OF BULK AT MOST 1048576: true; the input reads as it did. -/
def retryAgainUptoRow : OpenClaim := { program := "ytngoeikdlbccoaa", sum := "2e12228cccf7b9f91f60a819129ed08151bef8c28ac7b02ce0b6638e90e23969", func := "provision/provisionlaw37.RetryAgain", spec := "retryAgain", apart := false, narrowed := true }
def RetryAgainUptoSaid : Prop := retryAgainUptoRow.holds Try.pinned (OpenSpec.upto retryAgainSpec)

/-- 'provisionlaw37.RetryBounds', WHERE WHAT IT READS IS OF BULK AT MOST 1048576: true; the input reads as it did. -/
def retryBoundsUptoRow : OpenClaim := { program := "ytngoeikdlbccoaa", sum := "2e12228cccf7b9f91f60a819129ed08151bef8c28ac7b02ce0b6638e90e23969", func := "provision/provisionlaw37.RetryBounds", spec := "retryBounds", apart := false, narrowed := true }
def RetryBoundsUptoSaid : Prop := retryBoundsUptoRow.holds Try.pinned (OpenSpec.upto retryBoundsSpec)

/-- 'provisionlaw37.RetryEnds', WHERE WHAT IT READS IS OF BULK AT MOST 1048576: true; the input reads as it did. -/
def retryEndsUptoRow : OpenClaim := { program := "ytngoeikdlbccoaa", sum := "2e12228cccf7b9f91f60a819129ed08151bef8c28ac7b02ce0b6638e90e23969", func := "provision/provisionlaw37.RetryEnds", spec := "retryEnds", apart := false, narrowed := true }
def RetryEndsUptoSaid : Prop := retryEndsUptoRow.holds Try.pinned (OpenSpec.upto retryEndsSpec)

end Rows
end Go.Proofs.Ytngoeikdlbccoaa
