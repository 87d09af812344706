/-
  DERIVED. GIVEN WITH THE SEED: THE CARDS: each row of YtomhbcfjhgecbaaGreatDoorRows.lean that lists a variable, with what it lists TIED to the program's text (the seventh form; the later family's looks); each row that meets fmt, with fmt's text TOLD by the authors' own Lean function (tested against real Go, not proved from fmt's source: count such statements apart). THE CARD IS WHAT COUNTS. Prove the row's statement (the work); the ties are given (YtomhbcfjhgecbaaGreatDoorTie.lean); close each card by the builder's one call (the guide's Derived/Test/ToyasCard.lean, 'card_holds'). Laid BY PROGRAM, IN A SANDBOX (cutbox-door.mjs). By AI agents, Wed Nov 11 2026. No macro, syntax, notation, axiom, sorry.
-/
import Derived.Test.YtomhbcfjhgecbaaGreatDoorRows
import GoSem.ClaimSeven
namespace Go.Proofs.YtomhbcfjhgecbaaGreatDoor
namespace Rows

/-- THE TIED CARD OF 'provisionlaw31.StateCheck'. -/
def stateCheckCard : Claim7 := { stood := { row := stateCheckRow, standIns := [], harness := (true, "362d6e536599003e45333cce0248469311ab25f08c3c575a7968cc861e8702eb"), looks := true }, kinds := [], alts := [], laidByText := true, laidKinds := [.data, .data, .data, .data, .sentinel, .sentinel, .pinned], laidTests := true, laidLooks := .later }
def StateCheckCardSaid : Prop := Claim7.holds Tryz.pinned (.plain (OpenSpec.ofChange stateCheckSpec)) stateCheckCard

/-- THE TIED CARD OF 'provisionlaw31.StateEqual'. -/
def stateEqualCard : Claim7 := { stood := { row := stateEqualRow, standIns := [], harness := (true, "362d6e536599003e45333cce0248469311ab25f08c3c575a7968cc861e8702eb"), looks := true }, kinds := [], alts := [], laidByText := true, laidKinds := [.data, .data, .data, .data, .sentinel, .sentinel, .pinned], laidTests := true, laidLooks := .later }
def StateEqualCardSaid : Prop := Claim7.holds Tryz.pinned (.plain (OpenSpec.ofChange stateEqualSpec)) stateEqualCard

/-- THE TIED CARD OF 'provisionlaw31.StateRenames'. -/
def stateRenamesCard : Claim7 := { stood := { row := stateRenamesRow, standIns := [], harness := (true, "362d6e536599003e45333cce0248469311ab25f08c3c575a7968cc861e8702eb"), looks := true }, kinds := [], alts := [], laidByText := true, laidKinds := [.data, .data, .data, .data, .sentinel, .sentinel, .pinned], laidTests := true, laidLooks := .later }
def StateRenamesCardSaid : Prop := Claim7.holds Tryz.pinned (.plain (OpenSpec.ofChange stateRenamesSpec)) stateRenamesCard

/-- THE TIED CARD OF 'provisionlaw31.StateRecords'. -/
def stateRecordsCard : Claim7 := { stood := { row := stateRecordsRow, standIns := [], harness := (true, "362d6e536599003e45333cce0248469311ab25f08c3c575a7968cc861e8702eb"), looks := true }, kinds := [], alts := [], laidByText := true, laidKinds := [.data, .data, .data, .data, .sentinel, .sentinel, .pinned], laidTests := true, laidLooks := .later }
def StateRecordsCardSaid : Prop := Claim7.holds Tryz.pinned (.plain (OpenSpec.ofChange stateRecordsSpec)) stateRecordsCard

/-- THE TIED CARD OF 'provisionlaw31.StateAddresses'. -/
def stateAddressesCard : Claim7 := { stood := { row := stateAddressesRow, standIns := [], harness := (true, "362d6e536599003e45333cce0248469311ab25f08c3c575a7968cc861e8702eb"), looks := true }, kinds := [], alts := [], laidByText := true, laidKinds := [.data, .data, .data, .data, .sentinel, .sentinel, .pinned], laidTests := true, laidLooks := .later }
def StateAddressesCardSaid : Prop := Claim7.holds Tryz.pinned (.plain (OpenSpec.ofChange stateAddressesSpec)) stateAddressesCard

/-- THE TIED CARD OF 'provisionlaw31.StateEdits'. -/
def stateEditsCard : Claim7 := { stood := { row := stateEditsRow, standIns := [], harness := (true, "362d6e536599003e45333cce0248469311ab25f08c3c575a7968cc861e8702eb"), looks := true }, kinds := [], alts := [], laidByText := true, laidKinds := [.data, .data, .data, .data, .sentinel, .sentinel, .pinned], laidTests := true, laidLooks := .later }
def StateEditsCardSaid : Prop := Claim7.holds Tryz.pinned (.plain (OpenSpec.ofChange stateEditsSpec)) stateEditsCard

/-- THE SECOND FORM's CARD OF 'provisionlaw31.StateCheck'. -/
def stateCheckUptoCard : Claim7 := { stood := { row := stateCheckUptoRow, standIns := [], harness := (true, "362d6e536599003e45333cce0248469311ab25f08c3c575a7968cc861e8702eb"), looks := true }, kinds := [], alts := [], laidByText := true, laidKinds := [.data, .data, .data, .data, .sentinel, .sentinel, .pinned], laidTests := true, laidLooks := .later }
def StateCheckUptoCardSaid : Prop := Claim7.holds Tryz.pinned (.plain (OpenSpec.upto stateCheckSpec)) stateCheckUptoCard

/-- THE SECOND FORM's CARD OF 'provisionlaw31.StateEqual'. -/
def stateEqualUptoCard : Claim7 := { stood := { row := stateEqualUptoRow, standIns := [], harness := (true, "362d6e536599003e45333cce0248469311ab25f08c3c575a7968cc861e8702eb"), looks := true }, kinds := [], alts := [], laidByText := true, laidKinds := [.data, .data, .data, .data, .sentinel, .sentinel, .pinned], laidTests := true, laidLooks := .later }
def StateEqualUptoCardSaid : Prop := Claim7.holds Tryz.pinned (.plain (OpenSpec.upto stateEqualSpec)) stateEqualUptoCard

/-- THE SECOND FORM's CARD OF 'provisionlaw31.StateRenames'. -/
def stateRenamesUptoCard : Claim7 := { stood := { row := stateRenamesUptoRow, standIns := [], harness := (true, "362d6e536599003e45333cce0248469311ab25f08c3c575a7968cc861e8702eb"), looks := true }, kinds := [], alts := [], laidByText := true, laidKinds := [.data, .data, .data, .data, .sentinel, .sentinel, .pinned], laidTests := true, laidLooks := .later }
def StateRenamesUptoCardSaid : Prop := Claim7.holds Tryz.pinned (.plain (OpenSpec.upto stateRenamesSpec)) stateRenamesUptoCard

/-- THE SECOND FORM's CARD OF 'provisionlaw31.StateRecords'. -/
def stateRecordsUptoCard : Claim7 := { stood := { row := stateRecordsUptoRow, standIns := [], harness := (true, "362d6e536599003e45333cce0248469311ab25f08c3c575a7968cc861e8702eb"), looks := true }, kinds := [], alts := [], laidByText := true, laidKinds := [.data, .data, .data, .data, .sentinel, .sentinel, .pinned], laidTests := true, laidLooks := .later }
def StateRecordsUptoCardSaid : Prop := Claim7.holds Tryz.pinned (.plain (OpenSpec.upto stateRecordsSpec)) stateRecordsUptoCard

/-- THE SECOND FORM's CARD OF 'provisionlaw31.StateAddresses'. -/
def stateAddressesUptoCard : Claim7 := { stood := { row := stateAddressesUptoRow, standIns := [], harness := (true, "362d6e536599003e45333cce0248469311ab25f08c3c575a7968cc861e8702eb"), looks := true }, kinds := [], alts := [], laidByText := true, laidKinds := [.data, .data, .data, .data, .sentinel, .sentinel, .pinned], laidTests := true, laidLooks := .later }
def StateAddressesUptoCardSaid : Prop := Claim7.holds Tryz.pinned (.plain (OpenSpec.upto stateAddressesSpec)) stateAddressesUptoCard

/-- THE SECOND FORM's CARD OF 'provisionlaw31.StateEdits'. -/
def stateEditsUptoCard : Claim7 := { stood := { row := stateEditsUptoRow, standIns := [], harness := (true, "362d6e536599003e45333cce0248469311ab25f08c3c575a7968cc861e8702eb"), looks := true }, kinds := [], alts := [], laidByText := true, laidKinds := [.data, .data, .data, .data, .sentinel, .sentinel, .pinned], laidTests := true, laidLooks := .later }
def StateEditsUptoCardSaid : Prop := Claim7.holds Tryz.pinned (.plain (OpenSpec.upto stateEditsSpec)) stateEditsUptoCard
end Rows
end Go.Proofs.YtomhbcfjhgecbaaGreatDoor
