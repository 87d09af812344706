/-
  DERIVED. GIVEN WITH THE SEED: THE CARDS: each row of YtedpdpcibkceeaaDoorRows.lean that lists a variable, with what it lists TIED to the program's text (the seventh form; the later family's looks); each row that meets fmt, with fmt's text TOLD by the authors' own Lean function (tested against real Go, not proved from fmt's source: count such statements apart). THE CARD IS WHAT COUNTS. Prove the row's statement (the work); the ties are given (YtedpdpcibkceeaaDoorTie.lean); close each card by the builder's one call (the guide's Derived/Test/ToyasCard.lean, 'card_holds'). Laid BY PROGRAM, IN A SANDBOX (cutbox-door.mjs). By AI agents, Wed Nov 11 2026. No macro, syntax, notation, axiom, sorry.
-/
import Derived.Test.YtedpdpcibkceeaaDoorRows
import GoSem.ClaimSeven
namespace Go.Proofs.YtedpdpcibkceeaaDoor
namespace Rows

/-- THE TIED CARD OF 'provisionlaw07.ValueCheck'. -/
def valueCheckCard : Claim7 := { stood := { row := valueCheckRow, standIns := [], harness := (true, "1482baca3ac86d5f728d21e19024517082971d36ac3991efe754c9c512362ad1"), looks := false }, kinds := [], alts := [], laidByText := true, laidKinds := [.data, .pinned], laidTests := true, laidLooks := .later }
def ValueCheckCardSaid : Prop := Claim7.holds Tryd.pinned (.plain (OpenSpec.ofChange valueCheckSpec)) valueCheckCard

/-- THE TIED CARD OF 'provisionlaw07.ValueLooks'. -/
def valueLooksCard : Claim7 := { stood := { row := valueLooksRow, standIns := [], harness := (true, "1482baca3ac86d5f728d21e19024517082971d36ac3991efe754c9c512362ad1"), looks := false }, kinds := [], alts := [], laidByText := true, laidKinds := [.data, .pinned], laidTests := true, laidLooks := .later }
def ValueLooksCardSaid : Prop := Claim7.holds Tryd.pinned (.plain (OpenSpec.ofChange valueLooksSpec)) valueLooksCard

/-- THE TIED CARD OF 'provisionlaw07.ValueOrder'. -/
def valueOrderCard : Claim7 := { stood := { row := valueOrderRow, standIns := [], harness := (true, "1482baca3ac86d5f728d21e19024517082971d36ac3991efe754c9c512362ad1"), looks := false }, kinds := [], alts := [], laidByText := true, laidKinds := [.data, .pinned], laidTests := true, laidLooks := .later }
def ValueOrderCardSaid : Prop := Claim7.holds Tryd.pinned (.plain (OpenSpec.ofChange valueOrderSpec)) valueOrderCard

/-- THE TIED CARD OF 'provisionlaw07.ValueRefines'. -/
def valueRefinesCard : Claim7 := { stood := { row := valueRefinesRow, standIns := [], harness := (true, "1482baca3ac86d5f728d21e19024517082971d36ac3991efe754c9c512362ad1"), looks := false }, kinds := [], alts := [], laidByText := true, laidKinds := [.data, .pinned], laidTests := true, laidLooks := .later }
def ValueRefinesCardSaid : Prop := Claim7.holds Tryd.pinned (.plain (OpenSpec.ofChange valueRefinesSpec)) valueRefinesCard

/-- THE TIED CARD OF 'provisionlaw07.ValuePuts'. -/
def valuePutsCard : Claim7 := { stood := { row := valuePutsRow, standIns := [], harness := (true, "1482baca3ac86d5f728d21e19024517082971d36ac3991efe754c9c512362ad1"), looks := false }, kinds := [], alts := [], laidByText := true, laidKinds := [.data, .pinned], laidTests := true, laidLooks := .later }
def ValuePutsCardSaid : Prop := Claim7.holds Tryd.pinned (.plain (OpenSpec.ofChange valuePutsSpec)) valuePutsCard

/-- THE TIED CARD OF 'provisionlaw07.ValueMakes'. -/
def valueMakesCard : Claim7 := { stood := { row := valueMakesRow, standIns := [], harness := (true, "1482baca3ac86d5f728d21e19024517082971d36ac3991efe754c9c512362ad1"), looks := false }, kinds := [], alts := [], laidByText := true, laidKinds := [.data, .pinned], laidTests := true, laidLooks := .later }
def ValueMakesCardSaid : Prop := Claim7.holds Tryd.pinned (.plain (OpenSpec.ofChange valueMakesSpec)) valueMakesCard

/-- THE TIED CARD OF 'provisionlaw07.ValueLimits'. -/
def valueLimitsCard : Claim7 := { stood := { row := valueLimitsRow, standIns := [], harness := (true, "1482baca3ac86d5f728d21e19024517082971d36ac3991efe754c9c512362ad1"), looks := false }, kinds := [], alts := [], laidByText := true, laidKinds := [.data, .pinned], laidTests := true, laidLooks := .later }
def ValueLimitsCardSaid : Prop := Claim7.holds Tryd.pinned (.plain (OpenSpec.ofChange valueLimitsSpec)) valueLimitsCard

/-- THE SECOND FORM's CARD OF 'provisionlaw07.ValueCheck'. -/
def valueCheckUptoCard : Claim7 := { stood := { row := valueCheckUptoRow, standIns := [], harness := (true, "1482baca3ac86d5f728d21e19024517082971d36ac3991efe754c9c512362ad1"), looks := false }, kinds := [], alts := [], laidByText := true, laidKinds := [.data, .pinned], laidTests := true, laidLooks := .later }
def ValueCheckUptoCardSaid : Prop := Claim7.holds Tryd.pinned (.plain (OpenSpec.upto valueCheckSpec)) valueCheckUptoCard

/-- THE SECOND FORM's CARD OF 'provisionlaw07.ValueLooks'. -/
def valueLooksUptoCard : Claim7 := { stood := { row := valueLooksUptoRow, standIns := [], harness := (true, "1482baca3ac86d5f728d21e19024517082971d36ac3991efe754c9c512362ad1"), looks := false }, kinds := [], alts := [], laidByText := true, laidKinds := [.data, .pinned], laidTests := true, laidLooks := .later }
def ValueLooksUptoCardSaid : Prop := Claim7.holds Tryd.pinned (.plain (OpenSpec.upto valueLooksSpec)) valueLooksUptoCard

/-- THE SECOND FORM's CARD OF 'provisionlaw07.ValueOrder'. -/
def valueOrderUptoCard : Claim7 := { stood := { row := valueOrderUptoRow, standIns := [], harness := (true, "1482baca3ac86d5f728d21e19024517082971d36ac3991efe754c9c512362ad1"), looks := false }, kinds := [], alts := [], laidByText := true, laidKinds := [.data, .pinned], laidTests := true, laidLooks := .later }
def ValueOrderUptoCardSaid : Prop := Claim7.holds Tryd.pinned (.plain (OpenSpec.upto valueOrderSpec)) valueOrderUptoCard

/-- THE SECOND FORM's CARD OF 'provisionlaw07.ValueRefines'. -/
def valueRefinesUptoCard : Claim7 := { stood := { row := valueRefinesUptoRow, standIns := [], harness := (true, "1482baca3ac86d5f728d21e19024517082971d36ac3991efe754c9c512362ad1"), looks := false }, kinds := [], alts := [], laidByText := true, laidKinds := [.data, .pinned], laidTests := true, laidLooks := .later }
def ValueRefinesUptoCardSaid : Prop := Claim7.holds Tryd.pinned (.plain (OpenSpec.upto valueRefinesSpec)) valueRefinesUptoCard

/-- THE SECOND FORM's CARD OF 'provisionlaw07.ValuePuts'. -/
def valuePutsUptoCard : Claim7 := { stood := { row := valuePutsUptoRow, standIns := [], harness := (true, "1482baca3ac86d5f728d21e19024517082971d36ac3991efe754c9c512362ad1"), looks := false }, kinds := [], alts := [], laidByText := true, laidKinds := [.data, .pinned], laidTests := true, laidLooks := .later }
def ValuePutsUptoCardSaid : Prop := Claim7.holds Tryd.pinned (.plain (OpenSpec.upto valuePutsSpec)) valuePutsUptoCard

/-- THE SECOND FORM's CARD OF 'provisionlaw07.ValueMakes'. -/
def valueMakesUptoCard : Claim7 := { stood := { row := valueMakesUptoRow, standIns := [], harness := (true, "1482baca3ac86d5f728d21e19024517082971d36ac3991efe754c9c512362ad1"), looks := false }, kinds := [], alts := [], laidByText := true, laidKinds := [.data, .pinned], laidTests := true, laidLooks := .later }
def ValueMakesUptoCardSaid : Prop := Claim7.holds Tryd.pinned (.plain (OpenSpec.upto valueMakesSpec)) valueMakesUptoCard

/-- THE SECOND FORM's CARD OF 'provisionlaw07.ValueLimits'. -/
def valueLimitsUptoCard : Claim7 := { stood := { row := valueLimitsUptoRow, standIns := [], harness := (true, "1482baca3ac86d5f728d21e19024517082971d36ac3991efe754c9c512362ad1"), looks := false }, kinds := [], alts := [], laidByText := true, laidKinds := [.data, .pinned], laidTests := true, laidLooks := .later }
def ValueLimitsUptoCardSaid : Prop := Claim7.holds Tryd.pinned (.plain (OpenSpec.upto valueLimitsSpec)) valueLimitsUptoCard
end Rows
end Go.Proofs.YtedpdpcibkceeaaDoor
