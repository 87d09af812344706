/-
  NARROWER THAN 'FOR EVERY INPUT', by the rows' own cells (each row's printed sentence says how): AuditOwned: loops · AuditEffects: loops.
  DERIVED. THE GIVEN ROWS OF THIS SEAT. 7 by the template 'for every input the law returns true; each argument reads behind the call as it read before'; 0 by the template 'total and deterministic' (their statements: YtdmcceekaopghaaTotals.lean).
  GIVEN WITH THE SEED: the statements are not yours to turn. If you find one false, say at which input.
  Laid BY PROGRAM, IN A SANDBOX (cutbox-rows.mjs): the forced cells as the released guide's own fill.sh prints them over the translation fcd82bb5e0151e7d… (all of the seat's roots in one cut). By AI agents, Wed Nov 11 2026. No macro, syntax, notation, axiom, sorry.
-/
import Derived.Test.YtdmcceekaopghaaChecked
import GoSem.Claim
import GoSem.ClaimJoined
import GoSem.ClaimMapViews
import Derived.JoinedTies
import Derived.KernelRfl
namespace Go.Proofs.Ytdmcceekaopghaa
/- THE CELL 'sum', in the pinned program and in every row, IS THE sha256 OF THE DUMP (.gsa) THAT YtdmcceekaopghaaProg.lean LOADS. Nothing in Lean hashes anything: it is a label: what it is worth is what the hold of that sum in a sandbox is worth. -/
noncomputable def Try.pinned : Pinned := { name := "ytdmcceekaopghaa", sum := "fcd82bb5e0151e7de88271da9732bae7025b942917885d755b43fa43d1906e18", checked := Try.checked }
namespace Rows
def none {H : Type} : Left H := { results := [], args := [] }

/-- 'provisionlaw52.AuditOrder': WHATEVER THE INPUT: true; the input reads as it did. -/
def auditOrderSpec : ChangeSpec := { name := "auditOrder", fn := fun _ => fun
  | [d1, d2] => { results := [.lit (.bool true)], args := [d1, d2] }
  | _ => none }
def auditOrderRow : OpenClaim := { program := "ytdmcceekaopghaa", sum := "fcd82bb5e0151e7de88271da9732bae7025b942917885d755b43fa43d1906e18", func := "provision/provisionlaw52.AuditOrder", spec := "auditOrder", unfollowed := true, recurses := true, apart := false }
def AuditOrderSaid : Prop := auditOrderRow.holds Try.pinned (OpenSpec.ofChange auditOrderSpec)

/-- ITS FALSE NEIGHBOUR: 'it returns false'. Refute it at one input. -/
def auditOrderWrong : ChangeSpec := { name := "auditOrder", fn := fun _ => fun
  | [d1, d2] => { results := [.lit (.bool false)], args := [d1, d2] }
  | _ => none }
def AuditOrderWrongFalsely : Prop := auditOrderRow.holds Try.pinned (OpenSpec.ofChange auditOrderWrong)

/-- 'provisionlaw52.AuditPrefix': WHATEVER THE INPUT: true; the input reads as it did. -/
def auditPrefixSpec : ChangeSpec := { name := "auditPrefix", fn := fun _ => fun
  | [d1, d2, d3] => { results := [.lit (.bool true)], args := [d1, d2, d3] }
  | _ => none }
def auditPrefixRow : OpenClaim := { program := "ytdmcceekaopghaa", sum := "fcd82bb5e0151e7de88271da9732bae7025b942917885d755b43fa43d1906e18", func := "provision/provisionlaw52.AuditPrefix", spec := "auditPrefix", unfollowed := true, recurses := true, apart := false }
def AuditPrefixSaid : Prop := auditPrefixRow.holds Try.pinned (OpenSpec.ofChange auditPrefixSpec)

/-- ITS FALSE NEIGHBOUR: 'it returns false'. Refute it at one input. -/
def auditPrefixWrong : ChangeSpec := { name := "auditPrefix", fn := fun _ => fun
  | [d1, d2, d3] => { results := [.lit (.bool false)], args := [d1, d2, d3] }
  | _ => none }
def AuditPrefixWrongFalsely : Prop := auditPrefixRow.holds Try.pinned (OpenSpec.ofChange auditPrefixWrong)

/-- 'provisionlaw52.AuditSound': WHATEVER THE INPUT: true; the input reads as it did. -/
def auditSoundSpec : ChangeSpec := { name := "auditSound", fn := fun _ => fun
  | [d1, d2] => { results := [.lit (.bool true)], args := [d1, d2] }
  | _ => none }
def auditSoundRow : OpenClaim := { program := "ytdmcceekaopghaa", sum := "fcd82bb5e0151e7de88271da9732bae7025b942917885d755b43fa43d1906e18", func := "provision/provisionlaw52.AuditSound", spec := "auditSound", unfollowed := true, recurses := true, apart := false }
def AuditSoundSaid : Prop := auditSoundRow.holds Try.pinned (OpenSpec.ofChange auditSoundSpec)

/-- ITS FALSE NEIGHBOUR: 'it returns false'. Refute it at one input. -/
def auditSoundWrong : ChangeSpec := { name := "auditSound", fn := fun _ => fun
  | [d1, d2] => { results := [.lit (.bool false)], args := [d1, d2] }
  | _ => none }
def AuditSoundWrongFalsely : Prop := auditSoundRow.holds Try.pinned (OpenSpec.ofChange auditSoundWrong)

/-- 'provisionlaw52.AuditOwned': WHATEVER THE INPUT: true; the input reads as it did. -/
def auditOwnedSpec : ChangeSpec := { name := "auditOwned", fn := fun _ => fun
  | [d1, d2] => { results := [.lit (.bool true)], args := [d1, d2] }
  | _ => none }
def auditOwnedRow : OpenClaim := { program := "ytdmcceekaopghaa", sum := "fcd82bb5e0151e7de88271da9732bae7025b942917885d755b43fa43d1906e18", func := "provision/provisionlaw52.AuditOwned", spec := "auditOwned", unfollowed := true, recurses := true, loops := true, apart := false }
def AuditOwnedSaid : Prop := auditOwnedRow.holds Try.pinned (OpenSpec.ofChange auditOwnedSpec)

/-- ITS FALSE NEIGHBOUR: 'it returns false'. Refute it at one input. -/
def auditOwnedWrong : ChangeSpec := { name := "auditOwned", fn := fun _ => fun
  | [d1, d2] => { results := [.lit (.bool false)], args := [d1, d2] }
  | _ => none }
def AuditOwnedWrongFalsely : Prop := auditOwnedRow.holds Try.pinned (OpenSpec.ofChange auditOwnedWrong)

/-- 'provisionlaw52.AuditComplete': WHATEVER THE INPUT: true; the input reads as it did. -/
def auditCompleteSpec : ChangeSpec := { name := "auditComplete", fn := fun _ => fun
  | [d1, d2] => { results := [.lit (.bool true)], args := [d1, d2] }
  | _ => none }
def auditCompleteRow : OpenClaim := { program := "ytdmcceekaopghaa", sum := "fcd82bb5e0151e7de88271da9732bae7025b942917885d755b43fa43d1906e18", func := "provision/provisionlaw52.AuditComplete", spec := "auditComplete", unfollowed := true, recurses := true, apart := false }
def AuditCompleteSaid : Prop := auditCompleteRow.holds Try.pinned (OpenSpec.ofChange auditCompleteSpec)

/-- ITS FALSE NEIGHBOUR: 'it returns false'. Refute it at one input. -/
def auditCompleteWrong : ChangeSpec := { name := "auditComplete", fn := fun _ => fun
  | [d1, d2] => { results := [.lit (.bool false)], args := [d1, d2] }
  | _ => none }
def AuditCompleteWrongFalsely : Prop := auditCompleteRow.holds Try.pinned (OpenSpec.ofChange auditCompleteWrong)

/-- 'provisionlaw52.AuditCounts': WHATEVER THE INPUT: true; the input reads as it did. -/
def auditCountsSpec : ChangeSpec := { name := "auditCounts", fn := fun _ => fun
  | [d1, d2] => { results := [.lit (.bool true)], args := [d1, d2] }
  | _ => none }
def auditCountsRow : OpenClaim := { program := "ytdmcceekaopghaa", sum := "fcd82bb5e0151e7de88271da9732bae7025b942917885d755b43fa43d1906e18", func := "provision/provisionlaw52.AuditCounts", spec := "auditCounts", unfollowed := true, recurses := true, apart := false }
def AuditCountsSaid : Prop := auditCountsRow.holds Try.pinned (OpenSpec.ofChange auditCountsSpec)

/-- ITS FALSE NEIGHBOUR: 'it returns false'. Refute it at one input. -/
def auditCountsWrong : ChangeSpec := { name := "auditCounts", fn := fun _ => fun
  | [d1, d2] => { results := [.lit (.bool false)], args := [d1, d2] }
  | _ => none }
def AuditCountsWrongFalsely : Prop := auditCountsRow.holds Try.pinned (OpenSpec.ofChange auditCountsWrong)

/-- 'provisionlaw52.AuditEffects': WHATEVER THE INPUT: true; the input reads as it did. -/
def auditEffectsSpec : ChangeSpec := { name := "auditEffects", fn := fun _ => fun
  | [d1, d2, d3] => { results := [.lit (.bool true)], args := [d1, d2, d3] }
  | _ => none }
def auditEffectsRow : OpenClaim := { program := "ytdmcceekaopghaa", sum := "fcd82bb5e0151e7de88271da9732bae7025b942917885d755b43fa43d1906e18", func := "provision/provisionlaw52.AuditEffects", spec := "auditEffects", unfollowed := true, recurses := true, loops := true, apart := false }
def AuditEffectsSaid : Prop := auditEffectsRow.holds Try.pinned (OpenSpec.ofChange auditEffectsSpec)

/-- ITS FALSE NEIGHBOUR: 'it returns false'. Refute it at one input. -/
def auditEffectsWrong : ChangeSpec := { name := "auditEffects", fn := fun _ => fun
  | [d1, d2, d3] => { results := [.lit (.bool false)], args := [d1, d2, d3] }
  | _ => none }
def AuditEffectsWrongFalsely : Prop := auditEffectsRow.holds Try.pinned (OpenSpec.ofChange auditEffectsWrong)

/- THE SECOND FORM. 'bulk': how many values and letters a reading holds, each counted each time it is reached (what is shared counts as often as it is met; a slice's spare places count too). A statement '..UptoSaid' is the law's where the arguments, and the package variables that the reading takes, are together of bulk at most 1048576: NARROWER than '..Said'. Prove '..Said' where nothing that the law and all that it calls make is longer than what came in: it says more and counts as full. Else prove '..UptoSaid'. A law counts once. -/
mutual
def uptoBulk {H : Type} : DataW H → Nat
  | .lit (.string bytes) => bytes.length + 1
  | .lit _ => 1
  | .nil => 1
  | .ptr d => uptoBulk d + 1
  | .slice elems spare => uptoBulkAll elems + uptoBulkAll spare + 1
  | .agg parts => uptoBulkAll parts + 1
  | .iface _ d => uptoBulk d + 1
  | .map entries => uptoBulkEntries entries + 1
  | .held _ => 1
def uptoBulkAll {H : Type} : List (DataW H) → Nat
  | [] => 0
  | d :: r => uptoBulk d + uptoBulkAll r
def uptoBulkEntries {H : Type} : List (Lit × DataW H) → Nat
  | [] => 0
  | x :: r => uptoBulkEntry x + uptoBulkEntries r
def uptoBulkEntry {H : Type} : Lit × DataW H → Nat
  | (.string bytes, d) => bytes.length + uptoBulk d + 1
  | (_, d) => uptoBulk d + 1
 end
def uptoSmall : (H : Type) → List (DataW H) → Bool := fun _ ds => decide (uptoBulkAll ds ≤ 1048576)
def OpenSpec.upto (s : _root_.Go.ChangeSpec) : _root_.Go.OpenSpec := { _root_.Go.OpenSpec.ofChange s with cond := some uptoSmall }

/-- 'provisionlaw52.AuditOrder', WHERE WHAT IT READS IS OF BULK AT MOST 1048576: true; the input reads as it did. -/
def auditOrderUptoRow : OpenClaim := { program := "ytdmcceekaopghaa", sum := "fcd82bb5e0151e7de88271da9732bae7025b942917885d755b43fa43d1906e18", func := "provision/provisionlaw52.AuditOrder", spec := "auditOrder", unfollowed := true, recurses := true, apart := false, narrowed := true }
def AuditOrderUptoSaid : Prop := auditOrderUptoRow.holds Try.pinned (OpenSpec.upto auditOrderSpec)

/-- 'provisionlaw52.AuditPrefix', WHERE WHAT IT READS IS OF BULK AT MOST 1048576: true; the input reads as it did. -/
def auditPrefixUptoRow : OpenClaim := { program := "ytdmcceekaopghaa", sum := "fcd82bb5e0151e7de88271da9732bae7025b942917885d755b43fa43d1906e18", func := "provision/provisionlaw52.AuditPrefix", spec := "auditPrefix", unfollowed := true, recurses := true, apart := false, narrowed := true }
def AuditPrefixUptoSaid : Prop := auditPrefixUptoRow.holds Try.pinned (OpenSpec.upto auditPrefixSpec)

/-- 'provisionlaw52.AuditSound', WHERE WHAT IT READS IS OF BULK AT MOST 1048576: true; the input reads as it did. -/
def auditSoundUptoRow : OpenClaim := { program := "ytdmcceekaopghaa", sum := "fcd82bb5e0151e7de88271da9732bae7025b942917885d755b43fa43d1906e18", func := "provision/provisionlaw52.AuditSound", spec := "auditSound", unfollowed := true, recurses := true, apart := false, narrowed := true }
def AuditSoundUptoSaid : Prop := auditSoundUptoRow.holds Try.pinned (OpenSpec.upto auditSoundSpec)

/-- 'provisionlaw52.AuditOwned', WHERE WHAT IT READS IS OF BULK AT MOST 1048576: true; the input reads as it did. -/
def auditOwnedUptoRow : OpenClaim := { program := "ytdmcceekaopghaa", sum := "fcd82bb5e0151e7de88271da9732bae7025b942917885d755b43fa43d1906e18", func := "provision/provisionlaw52.AuditOwned", spec := "auditOwned", unfollowed := true, recurses := true, loops := true, apart := false, narrowed := true }
def AuditOwnedUptoSaid : Prop := auditOwnedUptoRow.holds Try.pinned (OpenSpec.upto auditOwnedSpec)

/-- 'provisionlaw52.AuditComplete', WHERE WHAT IT READS IS OF BULK AT MOST 1048576: true; the input reads as it did. -/
def auditCompleteUptoRow : OpenClaim := { program := "ytdmcceekaopghaa", sum := "fcd82bb5e0151e7de88271da9732bae7025b942917885d755b43fa43d1906e18", func := "provision/provisionlaw52.AuditComplete", spec := "auditComplete", unfollowed := true, recurses := true, apart := false, narrowed := true }
def AuditCompleteUptoSaid : Prop := auditCompleteUptoRow.holds Try.pinned (OpenSpec.upto auditCompleteSpec)

/-- 'provisionlaw52.AuditCounts', WHERE WHAT IT READS IS OF BULK AT MOST 1048576: true; the input reads as it did. -/
def auditCountsUptoRow : OpenClaim := { program := "ytdmcceekaopghaa", sum := "fcd82bb5e0151e7de88271da9732bae7025b942917885d755b43fa43d1906e18", func := "provision/provisionlaw52.AuditCounts", spec := "auditCounts", unfollowed := true, recurses := true, apart := false, narrowed := true }
def AuditCountsUptoSaid : Prop := auditCountsUptoRow.holds Try.pinned (OpenSpec.upto auditCountsSpec)

/-- 'provisionlaw52.AuditEffects', WHERE WHAT IT READS IS OF BULK AT MOST 1048576: true; the input reads as it did. -/
def auditEffectsUptoRow : OpenClaim := { program := "ytdmcceekaopghaa", sum := "fcd82bb5e0151e7de88271da9732bae7025b942917885d755b43fa43d1906e18", func := "provision/provisionlaw52.AuditEffects", spec := "auditEffects", unfollowed := true, recurses := true, loops := true, apart := false, narrowed := true }
def AuditEffectsUptoSaid : Prop := auditEffectsUptoRow.holds Try.pinned (OpenSpec.upto auditEffectsSpec)

end Rows
end Go.Proofs.Ytdmcceekaopghaa
