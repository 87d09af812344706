/-
  DERIVED. GIVEN WITH THE SEED: THE CARDS: each row of YtpnogmicfomofaaGreatDoorRows.lean that lists a variable, with what it lists TIED to the program's text (the seventh form; the later family's looks); each row that meets fmt, with fmt's text TOLD by the authors' own Lean function (tested against real Go, not proved from fmt's source: count such statements apart). THE CARD IS WHAT COUNTS. Prove the row's statement (the work); the ties are given (YtpnogmicfomofaaGreatDoorTie.lean); close each card by the builder's one call (the guide's Derived/Test/ToyasCard.lean, 'card_holds'). Laid BY PROGRAM, IN A SANDBOX (cutbox-door.mjs). By AI agents, Wed Nov 11 2026. No macro, syntax, notation, axiom, sorry.
-/
import Derived.Test.YtpnogmicfomofaaGreatDoorRows
import GoSem.ClaimSeven
namespace Go.Proofs.YtpnogmicfomofaaGreatDoor
namespace Rows

/-- THE TIED CARD OF 'provisionlaw44.ActionsMany'. -/
def actionsManyCard : Claim7 := { stood := { row := actionsManyRow, standIns := [], harness := (true, "6698089895bd5614aec2e3e71eb16dd2ce9271c62a8da2f5758d73d35f177373"), looks := true }, kinds := [], alts := [], laidByText := true, laidKinds := [.data, .data, .data, .data, .sentinel, .sentinel, .pinned], laidTests := true, laidLooks := .later }
def ActionsManyCardSaid : Prop := Claim7.holds Tryz.pinned (.plain (OpenSpec.ofChange actionsManySpec)) actionsManyCard

/-- THE TIED CARD OF 'provisionlaw44.ActionsOrders'. -/
def actionsOrdersCard : Claim7 := { stood := { row := actionsOrdersRow, standIns := [], harness := (true, "6698089895bd5614aec2e3e71eb16dd2ce9271c62a8da2f5758d73d35f177373"), looks := true }, kinds := [], alts := [], laidByText := true, laidKinds := [.data, .data, .data, .data, .sentinel, .sentinel, .pinned], laidTests := true, laidLooks := .later }
def ActionsOrdersCardSaid : Prop := Claim7.holds Tryz.pinned (.plain (OpenSpec.ofChange actionsOrdersSpec)) actionsOrdersCard

/-- THE TIED CARD OF 'provisionlaw44.ActionsDepends'. -/
def actionsDependsCard : Claim7 := { stood := { row := actionsDependsRow, standIns := [], harness := (true, "6698089895bd5614aec2e3e71eb16dd2ce9271c62a8da2f5758d73d35f177373"), looks := true }, kinds := [], alts := [], laidByText := true, laidKinds := [.data, .data, .data, .data, .sentinel, .sentinel, .pinned], laidTests := true, laidLooks := .later }
def ActionsDependsCardSaid : Prop := Claim7.holds Tryz.pinned (.plain (OpenSpec.ofChange actionsDependsSpec)) actionsDependsCard

/-- THE TIED CARD OF 'provisionlaw44.ActionsBefore'. -/
def actionsBeforeCard : Claim7 := { stood := { row := actionsBeforeRow, standIns := [], harness := (true, "6698089895bd5614aec2e3e71eb16dd2ce9271c62a8da2f5758d73d35f177373"), looks := true }, kinds := [], alts := [], laidByText := true, laidKinds := [.data, .data, .data, .data, .sentinel, .sentinel, .pinned], laidTests := true, laidLooks := .later }
def ActionsBeforeCardSaid : Prop := Claim7.holds Tryz.pinned (.plain (OpenSpec.ofChange actionsBeforeSpec)) actionsBeforeCard

/-- THE TIED CARD OF 'provisionlaw44.ActionsSteps'. -/
def actionsStepsCard : Claim7 := { stood := { row := actionsStepsRow, standIns := [], harness := (true, "6698089895bd5614aec2e3e71eb16dd2ce9271c62a8da2f5758d73d35f177373"), looks := true }, kinds := [], alts := [], laidByText := true, laidKinds := [.data, .data, .data, .data, .sentinel, .sentinel, .pinned], laidTests := true, laidLooks := .later }
def ActionsStepsCardSaid : Prop := Claim7.holds Tryz.pinned (.plain (OpenSpec.ofChange actionsStepsSpec)) actionsStepsCard

/-- THE TIED CARD OF 'provisionlaw44.ActionsAcyclic'. -/
def actionsAcyclicCard : Claim7 := { stood := { row := actionsAcyclicRow, standIns := [], harness := (true, "6698089895bd5614aec2e3e71eb16dd2ce9271c62a8da2f5758d73d35f177373"), looks := true }, kinds := [], alts := [], laidByText := true, laidKinds := [.data, .data, .data, .data, .sentinel, .sentinel, .pinned], laidTests := true, laidLooks := .later }
def ActionsAcyclicCardSaid : Prop := Claim7.holds Tryz.pinned (.plain (OpenSpec.ofChange actionsAcyclicSpec)) actionsAcyclicCard

/-- THE SECOND FORM's CARD OF 'provisionlaw44.ActionsMany'. -/
def actionsManyUptoCard : Claim7 := { stood := { row := actionsManyUptoRow, standIns := [], harness := (true, "6698089895bd5614aec2e3e71eb16dd2ce9271c62a8da2f5758d73d35f177373"), looks := true }, kinds := [], alts := [], laidByText := true, laidKinds := [.data, .data, .data, .data, .sentinel, .sentinel, .pinned], laidTests := true, laidLooks := .later }
def ActionsManyUptoCardSaid : Prop := Claim7.holds Tryz.pinned (.plain (OpenSpec.upto actionsManySpec)) actionsManyUptoCard

/-- THE SECOND FORM's CARD OF 'provisionlaw44.ActionsOrders'. -/
def actionsOrdersUptoCard : Claim7 := { stood := { row := actionsOrdersUptoRow, standIns := [], harness := (true, "6698089895bd5614aec2e3e71eb16dd2ce9271c62a8da2f5758d73d35f177373"), looks := true }, kinds := [], alts := [], laidByText := true, laidKinds := [.data, .data, .data, .data, .sentinel, .sentinel, .pinned], laidTests := true, laidLooks := .later }
def ActionsOrdersUptoCardSaid : Prop := Claim7.holds Tryz.pinned (.plain (OpenSpec.upto actionsOrdersSpec)) actionsOrdersUptoCard

/-- THE SECOND FORM's CARD OF 'provisionlaw44.ActionsDepends'. -/
def actionsDependsUptoCard : Claim7 := { stood := { row := actionsDependsUptoRow, standIns := [], harness := (true, "6698089895bd5614aec2e3e71eb16dd2ce9271c62a8da2f5758d73d35f177373"), looks := true }, kinds := [], alts := [], laidByText := true, laidKinds := [.data, .data, .data, .data, .sentinel, .sentinel, .pinned], laidTests := true, laidLooks := .later }
def ActionsDependsUptoCardSaid : Prop := Claim7.holds Tryz.pinned (.plain (OpenSpec.upto actionsDependsSpec)) actionsDependsUptoCard

/-- THE SECOND FORM's CARD OF 'provisionlaw44.ActionsBefore'. -/
def actionsBeforeUptoCard : Claim7 := { stood := { row := actionsBeforeUptoRow, standIns := [], harness := (true, "6698089895bd5614aec2e3e71eb16dd2ce9271c62a8da2f5758d73d35f177373"), looks := true }, kinds := [], alts := [], laidByText := true, laidKinds := [.data, .data, .data, .data, .sentinel, .sentinel, .pinned], laidTests := true, laidLooks := .later }
def ActionsBeforeUptoCardSaid : Prop := Claim7.holds Tryz.pinned (.plain (OpenSpec.upto actionsBeforeSpec)) actionsBeforeUptoCard

/-- THE SECOND FORM's CARD OF 'provisionlaw44.ActionsSteps'. -/
def actionsStepsUptoCard : Claim7 := { stood := { row := actionsStepsUptoRow, standIns := [], harness := (true, "6698089895bd5614aec2e3e71eb16dd2ce9271c62a8da2f5758d73d35f177373"), looks := true }, kinds := [], alts := [], laidByText := true, laidKinds := [.data, .data, .data, .data, .sentinel, .sentinel, .pinned], laidTests := true, laidLooks := .later }
def ActionsStepsUptoCardSaid : Prop := Claim7.holds Tryz.pinned (.plain (OpenSpec.upto actionsStepsSpec)) actionsStepsUptoCard

/-- THE SECOND FORM's CARD OF 'provisionlaw44.ActionsAcyclic'. -/
def actionsAcyclicUptoCard : Claim7 := { stood := { row := actionsAcyclicUptoRow, standIns := [], harness := (true, "6698089895bd5614aec2e3e71eb16dd2ce9271c62a8da2f5758d73d35f177373"), looks := true }, kinds := [], alts := [], laidByText := true, laidKinds := [.data, .data, .data, .data, .sentinel, .sentinel, .pinned], laidTests := true, laidLooks := .later }
def ActionsAcyclicUptoCardSaid : Prop := Claim7.holds Tryz.pinned (.plain (OpenSpec.upto actionsAcyclicSpec)) actionsAcyclicUptoCard
end Rows
end Go.Proofs.YtpnogmicfomofaaGreatDoor
